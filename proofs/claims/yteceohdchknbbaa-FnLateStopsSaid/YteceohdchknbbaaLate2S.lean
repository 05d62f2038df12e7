/-
  Contracts of the reference's lateness: l6lOk, l6lRun, LateArrive, LateLeave, LateEnd, LateSum.
-/
import Derived.Test.YteceohdchknbbaaLate
namespace Go.Proofs.Yteceohdchknbbaa
open Go.RowKit

set_option maxHeartbeats 2000000 in
theorem sOk_any (n : Int) (A : Option Addr) (c lo hi : Nat) (l : List T3) (least start : Int) (B : Option Addr) (d lo' hi' : Nat) (ds : List Int) (w : World) (hl : l.length ≤ 1048576) (hr : Rd w lo hi A (flat3 l)) (hh : hi ≤ w.heap.size) (hld : ds.length ≤ 1048576) (hrd : Rd w lo' hi' B (ints ds)) (hhd : hi' ≤ w.heap.size) :
    Calls Try.prog 69 #[.int .i64 n, .slice A l.length c, .int .i64 least, .int .i64 start, .slice B ds.length d] w fun e w' => e = .returned (.bool (lateOk n l least start ds)) ∧ Below w.heap.size w w' := by
  go_enter Try.func69, Try.ntmps69
  go_wp2_with fail
  go_loop [11] (fun i => ∃ k : Nat, k ≤ ds.length ∧ i = .int .i64 k ∧ Hid ((ds.take k).all (fun d => inB d 0 300) = true)) (fun i => ds.length - (intOf i).toNat)
  case atStart => exact ⟨0, Nat.zero_le _, rfl, by simp [Hid]⟩
  case round =>
    obtain ⟨k, hk, rfl, H⟩ := hrel
    by_cases hlt : k < ds.length
    · obtain ⟨b, off, rfl, hlo, hhi, c0⟩ := hrd.at1 k hlt
      cases hin : inB ds[k] 0 300
      · have hres := Lib.hid (show lateOk n l least start ds = false by simp only [lateOk, all_false k hlt hin, Bool.and_false])
        have HIN := Lib.hid hin
        clear hin
        go_wp2_with fail
        refine (l6In_any _ _ _ _).mono ?_
        rintro e w1 ⟨rfl, rfl⟩
        rw [HIN.out]
        go_wp2_with fail
        go_ret
        exact ⟨ret_bool hres.out.symm, Below.refl _ _⟩
      · have hres := Lib.hid (all_take_succ k hlt H.out hin)
        have HIN := Lib.hid hin
        clear hin
        go_wp2_with fail
        refine (l6In_any _ _ _ _).mono ?_
        rintro e w1 ⟨rfl, rfl⟩
        rw [HIN.out]
        go_wp2_with fail
        go_round
        case rel => exact ⟨k + 1, by omega, by go_num, hres⟩
        case measure => simp [intOf]; omega
    · have hall : ds.all (fun d => inB d 0 300) = true := by have := H.out; rwa [List.take_of_length_le (by omega)] at this
      have hres := Lib.hid (show lateOk n l least start ds = (stopsB n l && inB least 0 300 && inB start 0 300 && decide (ds.length + 1 = l.length)) by
        rw [lateOk, hall, Bool.and_true, slackOk])
      clear hall H
      go_wp2_with fail
      refine (sStopsValid n _ _ _ _ l _ hl hr hh).mono ?_
      rintro e w1 ⟨rfl, hb1⟩
      cases hv : stopsB n l
      · have HV := Lib.hid hv
        clear hv
        go_wp2_with fail
        go_ret
        exact ⟨ret_bool (by rw [hres.out, HV.out]; rfl), hb1⟩
      · have HV := Lib.hid hv
        obtain ⟨_, _, hl2, hl8⟩ := stopsB_n hv
        clear hv
        go_wp2_with fail
        refine (l6In_any _ _ _ _).mono ?_
        rintro e w2 ⟨rfl, rfl⟩
        cases h1 : inB least 0 300
        · have H1 := Lib.hid h1
          clear h1
          go_wp2_with fail
          go_ret
          exact ⟨ret_bool (by rw [hres.out, HV.out, H1.out]; rfl), hb1⟩
        · have H1 := Lib.hid h1
          clear h1
          go_wp2_with fail
          refine (l6In_any _ _ _ _).mono ?_
          rintro e w2 ⟨rfl, rfl⟩
          cases h2 : inB start 0 300
          · have H2 := Lib.hid h2
            clear h2
            go_wp2_with fail
            go_ret
            exact ⟨ret_bool (by rw [hres.out, HV.out, H1.out, H2.out]; rfl), hb1⟩
          · have H2 := Lib.hid h2
            clear h2
            go_wp2_with fail
            go_ret
            refine ⟨ret_bool ?_, hb1⟩
            rw [hres.out, HV.out, H1.out, H2.out, Bool.true_and, Bool.true_and, Bool.true_and]
            rw [Bool.eq_iff_iff]
            simp
            omega

set_option maxRecDepth 100000 in
set_option maxHeartbeats 4000000 in
theorem sRun_any (n : Int) (A : Option Addr) (c lo hi : Nat) (l : List T3) (least start : Int) (B : Option Addr) (d lo' hi' : Nat) (ds : List Int) (w : World) (hok : lateOk n l least start ds = true) (hr : Rd w lo hi A (flat3 l)) (hh : hi ≤ w.heap.size) (hrd : Rd w lo' hi' B (ints ds)) (hhd : hi' ≤ w.heap.size) :
    Calls Try.prog 70 #[.slice A l.length c, .int .i64 least, .int .i64 start, .slice B ds.length d] w (RetLL 3 (arrF l least start ds) (leaF l least start ds) w) := by
  obtain ⟨i0, hi0, hz0, hz1, hz2⟩ := info_parts infoInt
  obtain ⟨hsl, ⟨hst1, hst2⟩, hlen, hall⟩ := lateOk_and hok
  obtain ⟨hv, hle1, hle2⟩ := slackOk_and hsl
  obtain ⟨_, _, hl2, hl8⟩ := stopsB_n hv
  have HV := Lib.hid hv
  have HALL := Lib.hid hall
  have HLEN := Lib.hid hlen
  have hd7 : ds.length ≤ 7 := by omega
  have hdl : ds.length < l.length := by omega
  have hld : l.length ≤ ds.length + 1 := by omega
  have HA := Lib.hid (show arrF l least start ds = [start] ++ runA start ((slacks least l).drop (0 + 1)) (ds.drop 0) by simp [arrF])
  have HL := Lib.hid (show leaF l least start ds = [start] ++ runL start ((slacks least l).drop (0 + 1)) (ds.drop 0) by simp [leaF])
  clear hv hall hlen hsl hok
  have hb0 : Below w.heap.size w ((w.alloc (.cells #[.int .i64 start] 3)).alloc (.cells #[.int .i64 start] 3)) := below_alloc (below_alloc (Below.refl _ _) _) _
  have ha0 := (own_lit1 w w.heap.size 3 start (Nat.le_refl _)).alloc (.cells #[.int .i64 start] 3)
  have hl0 : ((w.alloc (.cells #[.int .i64 start] 3)).alloc (.cells #[.int .i64 start] 3)).ownsRow w.heap.size 3 1 (.slice (some ⟨w.heap.size + 1, 0, none⟩) 1 1) 1 (ints [start]) := by
    have := own_lit1 (w.alloc (.cells #[.int .i64 start] 3)) w.heap.size 3 start (by simp)
    simpa using this
  go_enter Try.func70, Try.ntmps70
  go_wp2_with fail
  go_loopw [10, 11, 12] (fun va vl i wr => ∃ (k ga ca gl cl : Nat) (pa pl : List Int) (late : Int), k ≤ ds.length ∧ i = .int .i64 ((k + 1 : Nat) : Int) ∧ va = .slice (some ⟨ga, 0, none⟩) pa.length ca ∧ vl = .slice (some ⟨gl, 0, none⟩) pl.length cl ∧ Hid (pa.length = k + 1) ∧ pl.length = k + 1 ∧ Hid (pl[k]? = some late) ∧ 0 ≤ late ∧ late ≤ 300 * (k + 1) ∧
    Hid (arrF l least start ds = pa ++ runA late ((slacks least l).drop (k + 1)) (ds.drop k)) ∧ Hid (leaF l least start ds = pl ++ runL late ((slacks least l).drop (k + 1)) (ds.drop k)) ∧ ga ≠ gl ∧
    wr.ownsRow w.heap.size 3 1 (.slice (some ⟨ga, 0, none⟩) pa.length ca) pa.length (ints pa) ∧ wr.ownsRow w.heap.size 3 1 (.slice (some ⟨gl, 0, none⟩) pl.length cl) pl.length (ints pl) ∧ Below w.heap.size w wr) (fun _ _ i _ => l.length - (intOf i).toNat)
  case atStart => exact ⟨0, _, _, _, _, [start], [start], start, Nat.zero_le _, rfl, rfl, rfl, rfl, rfl, rfl, hst1, by omega, HA, HL, by omega, ha0, hl0, hb0⟩
  case round =>
    obtain ⟨k, ga, ca, gl, cl, pa, pl, late, hk, rfl, rfl, rfl, HPA, hpl, HLT, hlt1, hlt2, HRA, HRL, hne, hoa, hol, hb⟩ := hrel
    clear ha0 hl0 hb0
    have hbs := hb.size
    by_cases hlt : k < ds.length
    · have hkl : k + 1 < l.length := by omega
      have hpa8 : pa.length ≤ 8 := by have := HPA.out; omega
      have hpl8 : pl.length ≤ 8 := by omega
      obtain ⟨bd, od, rfl, _, hbd, cd⟩ := (hrd.below hb hhd).at1 k hlt
      obtain ⟨b, off, rfl, _, hbl, c0, c1, c2⟩ := hr.at3 (k + 1) hkl
      have hq := stopsB_get HV.out (k + 1) hkl
      have hdq := all_get HALL.out k hlt
      have hkpl : k < pl.length := by omega
      have cl0 := own1_cell hol k hkpl
      have hlk : pl[k] = late := by have := HLT.out; rw [List.getElem?_eq_getElem hkpl] at this; injection this
      rw [hlk] at cl0
      have hSl : k + 1 < (slacks least l).length := by rw [slacks_length]; exact hkl
      have hsk := slacks_get least l (k + 1) hkl (by omega)
      have hstA := Lib.hid (runA_step late (slacks least l) ds k hSl hlt)
      have hstL := Lib.hid (runL_step late (slacks least l) ds k hSl hlt)
      rw [hsk] at hstA hstL
      obtain ⟨x, hx⟩ : ∃ x, x = l[k + 1] := ⟨_, rfl⟩
      obtain ⟨dd, hdd⟩ : ∃ dd, dd = ds[k] := ⟨_, rfl⟩
      rw [← hx] at c0 c1 c2 hq hstA hstL
      rw [← hdd] at cd hdq hstA hstL
      clear hx hdd hlk hsk hSl
      obtain ⟨q1, q2, q3, q4, q5⟩ := hq
      obtain ⟨p1, p2⟩ := hdq
      have hw1 : IntKind.i64.wrap (k : Int) = k := IntWalk.i64_in _ (by omega)
      have hw4 : IntKind.i64.wrap (late + dd) = late + dd := IntWalk.i64_in _ (by omega)
      have hw2 : (0 : Int) ≤ k := by omega
      have hw3 : (k : Int) < ds.length := by omega
      have hw5 : (k : Int) < pl.length := by omega
      have HPL := Lib.hid hpl
      clear hpl
      have hgl := (own_lt hol).2
      go_wp2_with fail
      go_quiet (fail)
      clear hw1 hw4
      have hbq := below_drewN hb nq
      have hoaq := own_drewN hoa nq
      have holq := own_drewN hol nq
      generalize wr.drewN nq = wq at *
      clear hb hoa hol cl0 cd hgl hbs
      have hbs := hbq.size
      have hgl : gl < wq.heap.size := (own_lt holq).2
      go_wp2_with (at_builtin; go_must (refine wpList_append1 rfl _ _ 26 rfl w.heap.size 3 i0 _ Try.underlying26 hi0 hz0 hz1 hz2 rfl (.slice (some ⟨ga, 0, none⟩) pa.length ca) pa rfl (hoaq.alloc _) wq.heap.size _ (nb1 _ _) rfl (by omega) (ls1 hbs _) ?_); intro g2 cap2 w2 hoa2 hg2 hor2 hltg; have hol2 := own_ne (holq.alloc _) hg2 (Ne.symm hne); have hb2 := below_grown (below_alloc hbq _) (ls1 hbs _) (hoaq.alloc _) (Nat.le_refl _) hg2; have hne2 := ne_of_or hor2 hne (by simp; omega); have d0 := cell_up hb2 (by show b < _; omega) c0; have d1 := cell_up hb2 (by show b < _; omega) c1; have d2 := cell_up hb2 (by show b < _; omega) c2; clear hor2 hg2 hoaq holq hbq hbs hgl)
      have hbs2 := hb2.size
      refine (l6lSlack_any x least _ q3 q4 q5 hle1 hle2).mono ?_
      rintro e w3 ⟨rfl, hb3⟩
      have hb23 := hb2.trans (hb3.mono hbs2)
      have hoa3 := own_below hoa2 hb3
      have hol3 := own_below hol2 hb3
      have hbs3 := hb23.size
      have hsb := slackOf_bd (s := x) q3 q5 hle1
      have hlb := lstep_bd hlt1 hlt2 p1 p2 hsb.1
      obtain ⟨sl, hsl⟩ : ∃ sl, sl = slackOf least x := ⟨_, rfl⟩
      rw [← hsl] at hstA hstL hsb hlb ⊢
      obtain ⟨hsb1, hsb2⟩ := hsb
      obtain ⟨hlb1, hlb2⟩ := hlb
      have HRA2 := Lib.hid (show arrF l least start ds = (pa ++ [late + dd]) ++ runA (lstep late dd sl) ((slacks least l).drop (k + 1 + 1)) (ds.drop (k + 1)) by rw [HRA.out, hstA.out]; simp)
      have HRL2 := Lib.hid (show leaF l least start ds = (pl ++ [lstep late dd sl]) ++ runL (lstep late dd sl) ((slacks least l).drop (k + 1 + 1)) (ds.drop (k + 1)) by rw [HRL.out, hstL.out]; simp)
      have HPL2 := Lib.hid (show (pl ++ [lstep late dd sl]).length = k + 1 + 1 by have := HPL.out; simp [this])
      have HLT2 := Lib.hid (show (pl ++ [lstep late dd sl])[k + 1]? = some (lstep late dd sl) by have := HPL.out; rw [List.getElem?_append_right (by omega)]; simp [this])
      have HPA2 := Lib.hid (show (pa ++ [late + dd]).length = k + 1 + 1 by have := HPA.out; simp [this])
      clear hb2 hoa2 hol2 hb3 hbs2 d0 d1 d2 hsl hstA hstL HRA HRL
      have hg23 := (own_lt hoa3).2
      by_cases hmx : late + dd - sl ≤ 0
      · have hls := Lib.hid (show lstep late dd sl = 0 by unfold lstep; omega)
        rw [hls.out] at HRA2 HRL2 HPL2 HLT2 hlb1 hlb2
        go_wp2_with (at_builtin; go_must (refine wpList_append1 rfl _ _ 26 rfl w.heap.size 3 i0 _ Try.underlying26 hi0 hz0 hz1 hz2 rfl (.slice (some ⟨gl, 0, none⟩) pl.length cl) pl rfl (hol3.alloc _) w3.heap.size _ (nb1 _ _) rfl (by omega) (ls1 hbs3 _) ?_); intro g4 cap4 w4 hol4 hg4 hor4 hltg4; have hoa4 := own_ne (hoa3.alloc _) hg4 hne2; have hb4 := below_grown (below_alloc hb23 _) (ls1 hbs3 _) (hol3.alloc _) (Nat.le_refl _) hg4; have hne4 := ne_of_or hor4 (Ne.symm hne2) (by simp; omega); clear hor4 hg4)
        go_roundw
        case rel => exact ⟨k + 1, g2, cap2, g4, cap4, pa ++ [late + dd], pl ++ [0], 0, by omega, by go_num, by simp, by simp, HPA2, HPL2.out, HLT2, by omega, by omega, HRA2, HRL2, Ne.symm hne4, by simpa using hoa4, by simpa using hol4, hb4⟩
        case measure => simp [intOf]; omega
      · have hmx' : 0 < late + dd - sl := by omega
        have hls := Lib.hid (show lstep late dd sl = late + dd - sl by unfold lstep; omega)
        rw [hls.out] at HRA2 HRL2 HPL2 HLT2 hlb1 hlb2
        clear hmx
        go_wp2_with (at_builtin; go_must (refine wpList_append1 rfl _ _ 26 rfl w.heap.size 3 i0 _ Try.underlying26 hi0 hz0 hz1 hz2 rfl (.slice (some ⟨gl, 0, none⟩) pl.length cl) pl rfl (hol3.alloc _) w3.heap.size _ (nb1 _ _) rfl (by omega) (ls1 hbs3 _) ?_); intro g4 cap4 w4 hol4 hg4 hor4 hltg4; have hoa4 := own_ne (hoa3.alloc _) hg4 hne2; have hb4 := below_grown (below_alloc hb23 _) (ls1 hbs3 _) (hol3.alloc _) (Nat.le_refl _) hg4; have hne4 := ne_of_or hor4 (Ne.symm hne2) (by simp; omega); clear hor4 hg4)
        go_roundw
        case rel => exact ⟨k + 1, g2, cap2, g4, cap4, pa ++ [late + dd], pl ++ [late + dd - sl], late + dd - sl, by omega, by go_num, by simp, by simp, HPA2, HPL2.out, HLT2, by omega, by omega, HRA2, HRL2, Ne.symm hne4, by simpa using hoa4, by simpa using hol4, hb4⟩
        case measure => simp [intOf]; omega
    · obtain rfl : k = ds.length := by omega
      have hfa : arrF l least start ds = pa := by rw [HRA.out, runA_end _ _ _ _ (Nat.le_refl _), List.append_nil]
      have hfl : leaF l least start ds = pl := by rw [HRL.out, runL_end _ _ _ _ (Nat.le_refl _), List.append_nil]
      have HFA := Lib.hid hfa
      have HFL := Lib.hid hfl
      clear hfa hfl hpl
      have hnl : decide (ds.length + 1 < l.length) = false := decide_eq_false (by omega)
      go_wp2_with fail
      go_ret2
      rw [HFA.out, HFL.out]
      exact ⟨_, _, _, _, rfl, hoa, hol, hb⟩

end Go.Proofs.Yteceohdchknbbaa

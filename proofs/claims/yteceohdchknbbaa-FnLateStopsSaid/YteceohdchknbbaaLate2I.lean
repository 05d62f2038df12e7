/-
  Contracts of the program's lateness: lateness, lateBoth.
-/
import Derived.Test.YteceohdchknbbaaLate
namespace Go.Proofs.Yteceohdchknbbaa
open Go.RowKit

def RetStep (late d s : Int) (B : Nat) (w : World) (e : Ending) (w' : World) : Prop :=
  ∃ q, e = .returned (.tuple #[.int .i64 (late + d), .int .i64 (lstep late d s)]) ∧ w' = (w.setCell ⟨B, 0, none⟩ (.int .i64 (lstep late d s))).drewN q
set_option maxHeartbeats 1000000 in
theorem step_any (late d s : Int) (B : Nat) (w : World) (h1 : 0 ≤ late) (h2 : late ≤ 10000) (h3 : 0 ≤ d) (h4 : d ≤ 300) (h5 : 0 ≤ s) (h6 : s ≤ 10000) (hc : w.cell? ⟨B, 0, none⟩ = some (.int .i64 late)) (hf : w.frozen? ⟨B, 0, none⟩ = false) :
    Calls Try.prog 80 #[.int .i64 d, .int .i64 s, .pointer (some ⟨B, 0, none⟩)] w (RetStep late d s B w) := by
  by_cases hmx : late + d - s < 0
  · have hls := Lib.hid (show lstep late d s = 0 by unfold lstep; omega)
    go_enter Try.func80, Try.ntmps80
    go_wp2
    go_quiet (fail)
    go_wp2
    go_ret2
    exact ⟨_, by rw [hls.out]; rfl, by rw [hls.out]⟩
  · have hmx' : 0 ≤ late + d - s := by omega
    clear hmx
    have hls := Lib.hid (show lstep late d s = late + d - s by unfold lstep; omega)
    go_enter Try.func80, Try.ntmps80
    go_wp2
    go_quiet (fail)
    go_wp2
    go_ret2
    exact ⟨_, by rw [hls.out]; rfl, by rw [hls.out]⟩

theorem mk_any (start : Int) (w : World) :
    Calls Try.prog 78 #[.int .i64 start] w fun e w' => e = .returned (.func (.func 80) #[] #[.pointer (some ⟨w.heap.size, 0, none⟩)]) ∧ w' = w.alloc (.cells #[.int .i64 start] 3) := by
  go_enter Try.func78, Try.ntmps78
  go_wp2
  go_ret
  exact ⟨rfl, rfl⟩

theorem retLLB_no {E : TypeId} {l m : List Int} {b : Bool} {w w1 : World} {n n' : Nat} (h : b = false) (hl : l = []) (hm : m = []) (hb : Below w.heap.size w w1) (hn : w1.heap.size = n) (hn' : w1.heap.size + 1 = n') :
    RetLLB E l m b w (.returned (.tuple #[.slice (some ⟨n, 0, none⟩) 0 0, .slice (some ⟨n', 0, none⟩) 0 0, .bool false])) ((w1.alloc (.cells #[] E)).alloc (.cells #[] E)) := by
  subst hn hn' h hl hm
  have h2 := own_lit0 (w1.alloc (.cells #[] E)) w.heap.size E 1 (ls1 hb.size _)
  exact ⟨_, _, _, _, rfl, (own_lit0 w1 _ E 1 hb.size).alloc _, by simpa [ints] using h2, below_alloc (below_alloc hb _) _⟩

set_option maxRecDepth 100000 in
set_option maxHeartbeats 4000000 in
theorem both_any (n : Int) (A : Option Addr) (c lo hi : Nat) (l : List T3) (least start : Int) (B : Option Addr) (d lo' hi' : Nat) (ds : List Int) (w : World) (hl : l.length ≤ 1048576) (hr : Rd w lo hi A (flat3 l)) (hh : hi ≤ w.heap.size) (hld : ds.length ≤ 1048576) (hrd : Rd w lo' hi' B (ints ds)) (hhd : hi' ≤ w.heap.size) (hcap : l.length ≤ c) :
    Calls Try.prog 68 #[.int .i64 n, .slice A l.length c, .int .i64 least, .int .i64 start, .slice B ds.length d] w (RetLLB 3 (arrL n l least start ds) (leaL n l least start ds) (lateOk n l least start ds) w) := by
  obtain ⟨i0, hi0, hz0, hz1, hz2⟩ := info_parts infoInt
  have hno : lateOk n l least start ds = false → arrL n l least start ds = [] ∧ leaL n l least start ds = [] := fun h => by simp [arrL, leaL, h]
  have HNO := Lib.hid hno
  clear hno
  go_enter Try.func68, Try.ntmps68
  go_wp2_with fail
  refine (iSlack_any n _ _ _ _ l least _ hl hr hh hcap).mono ?_
  rintro e w1 ⟨SA, sc, rfl, hos, hb1⟩
  cases hsl : slackOk n l least
  · have hres := Lib.hid (show lateOk n l least start ds = false by simp [lateOk, hsl])
    clear hsl
    go_wp2_with fail
    go_ret3
    exact retLLB_no hres.out (HNO.out hres.out).1 (HNO.out hres.out).2 hb1 rfl rfl
  have HSL := Lib.hid hsl
  obtain ⟨hv, hle1, hle2⟩ := slackOk_and hsl
  obtain ⟨_, _, hl2, hl8⟩ := stopsB_n hv
  have hSS : slackL n l least = slacks least l := by simp [slackL, hsl]
  rw [hSS]
  rw [hSS] at hos
  have hslen := slacks_length least l
  rw [hslen] at hos ⊢
  have HLN := Lib.hid hslen
  clear hSS hslen hsl hv
  by_cases hlen : ds.length + 1 = l.length
  case neg =>
    have hres := Lib.hid (show lateOk n l least start ds = false by simp [lateOk, hlen])
    have hne : ((ds.length : Int) != (l.length : Int) - 1) = true := by rw [bne_iff_ne]; omega
    clear hlen
    go_wp2_with fail
    go_ret3
    exact retLLB_no hres.out (HNO.out hres.out).1 (HNO.out hres.out).2 hb1 rfl rfl
  have HLEN := Lib.hid hlen
  have hne : ((ds.length : Int) != (l.length : Int) - 1) = false := by rw [bne_eq_false_iff_eq]; omega
  have hd7 : ds.length ≤ 7 := by omega
  have hdl : ds.length < l.length := by omega
  clear hlen
  go_wp2_with fail
  refine (delayValid_any _ _).mono ?_
  rintro e wq ⟨rfl, rfl⟩
  cases hst : inB start 0 300
  · have hres := Lib.hid (show lateOk n l least start ds = false by simp [lateOk, hst])
    clear hst
    go_wp2_with fail
    go_ret3
    exact retLLB_no hres.out (HNO.out hres.out).1 (HNO.out hres.out).2 hb1 rfl rfl
  have HST := Lib.hid hst
  obtain ⟨hst1, hst2⟩ := of_inB hst
  clear hst hne
  have HA := Lib.hid (show arrF l least start ds = [start] ++ runA start ((slacks least l).drop (0 + 1)) (ds.drop 0) by simp [arrF])
  have HL := Lib.hid (show leaF l least start ds = [start] ++ runL start ((slacks least l).drop (0 + 1)) (ds.drop 0) by simp [leaF])
  have hbs1 := hb1.size
  have hbd := Lib.hid (slacks_bd HSL.out)
  generalize slacks least l = S at *
  have hS0 : 0 < S.length := by have := HLN.out; omega
  have hslt : SA = some ⟨(SA.getD ⟨0, 0, none⟩).block, 0, none⟩ := by
    obtain ⟨g, cap, hv, _, _⟩ := hos.form (by omega)
    injection hv with hA; subst hA; rfl
  obtain ⟨gs, rfl⟩ : ∃ gs, SA = some ⟨gs, 0, none⟩ := ⟨_, hslt⟩
  clear hslt
  have hgs := (own_lt hos).2
  go_wp2_with fail
  refine (mk_any _ _).mono ?_
  rintro e w2 ⟨rfl, rfl⟩
  go_wp2_with fail
  have hb0 : Below w1.heap.size w1 (((w1.alloc (.cells #[.int .i64 start] 3)).alloc (.cells #[.int .i64 start] 3)).alloc (.cells #[.int .i64 start] 3)) := below_alloc (below_alloc (below_alloc (Below.refl _ _) _) _) _
  have ha0 := ((own_lit1 w1 w1.heap.size 3 start (Nat.le_refl _)).alloc (.cells #[.int .i64 start] 3)).alloc (.cells #[.int .i64 start] 3)
  have hl0 : (((w1.alloc (.cells #[.int .i64 start] 3)).alloc (.cells #[.int .i64 start] 3)).alloc (.cells #[.int .i64 start] 3)).ownsRow w1.heap.size 3 1 (.slice (some ⟨w1.heap.size + 1, 0, none⟩) 1 1) 1 (ints [start]) := by
    have := (own_lit1 (w1.alloc (.cells #[.int .i64 start] 3)) w1.heap.size 3 start (by simp)).alloc (.cells #[.int .i64 start] 3)
    simpa using this
  go_loopw [15, 16, 54] (fun va vl i wr => ∃ (k ga ca gl cl : Nat) (pa pl : List Int) (late : Int), k ≤ ds.length ∧ i = .int .i64 k ∧ va = .slice (some ⟨ga, 0, none⟩) pa.length ca ∧ vl = .slice (some ⟨gl, 0, none⟩) pl.length cl ∧ Hid (pa.length = k + 1) ∧ Hid (pl.length = k + 1) ∧ 0 ≤ late ∧ late ≤ 300 * (k + 1) ∧
    Hid ((ds.take k).all (fun d => inB d 0 300) = true) ∧ Hid (arrF l least start ds = pa ++ runA late (S.drop (k + 1)) (ds.drop k)) ∧ Hid (leaF l least start ds = pl ++ runL late (S.drop (k + 1)) (ds.drop k)) ∧ ga ≠ gl ∧ ga ≠ w1.heap.size + 1 + 1 ∧ gl ≠ w1.heap.size + 1 + 1 ∧ w1.heap.size + 1 + 1 < wr.heap.size ∧
    wr.cell? ⟨w1.heap.size + 1 + 1, 0, none⟩ = some (.int .i64 late) ∧ wr.frozen? ⟨w1.heap.size + 1 + 1, 0, none⟩ = false ∧
    wr.ownsRow w1.heap.size 3 1 (.slice (some ⟨ga, 0, none⟩) pa.length ca) pa.length (ints pa) ∧ wr.ownsRow w1.heap.size 3 1 (.slice (some ⟨gl, 0, none⟩) pl.length cl) pl.length (ints pl) ∧ Below w1.heap.size w1 wr) (fun _ _ i _ => ds.length - (intOf i).toNat)
  case atStart => exact ⟨0, _, _, _, _, [start], [start], start, Nat.zero_le _, rfl, rfl, rfl, rfl, rfl, hst1, by omega, rfl, HA, HL, by omega, by omega, by omega, by simp, by simp [go_sem], by simp [go_sem], ha0, hl0, hb0⟩
  case round =>
    obtain ⟨k, ga, ca, gl, cl, pa, pl, late, hk, rfl, rfl, rfl, HPA, HPL, hlt1, hlt2, HALL, HRA, HRL, hne, hneb, hneb', hbx, cbx, fbx, hoa, hol, hb⟩ := hrel
    clear ha0 hl0 hb0
    have hbs := hb.size
    have hb1r := hb1.trans (hb.mono hbs1)
    by_cases hlt : k < ds.length
    · have hpa8 : pa.length ≤ 8 := by have := HPA.out; omega
      have hpl8 : pl.length ≤ 8 := by have := HPL.out; omega
      have hSl : k + 1 < S.length := by have := HLN.out; omega
      obtain ⟨bd, od, rfl, _, hbd1, cd⟩ := (hrd.below hb1r hhd).at1 k hlt
      obtain ⟨bs, os, es, _, hbs2, cs⟩ := ((Rd.of_own hos).below hb (Nat.le_refl _)).at1 (k + 1) hSl
      injection es with es; injection es with es1 es2; subst es1 es2
      rw [Nat.zero_add] at cs
      obtain ⟨hsb1, hsb2⟩ := hbd.out (k + 1) hSl
      have hstA := Lib.hid (runA_step late S ds k hSl hlt)
      have hstL := Lib.hid (runL_step late S ds k hSl hlt)
      have hal := Lib.hid (fun h => all_take_succ k hlt HALL.out h)
      have hfa := Lib.hid (fun h => all_false k hlt h)
      obtain ⟨sl, hsl⟩ : ∃ sl, sl = S[k + 1] := ⟨_, rfl⟩
      obtain ⟨dd, hdd⟩ : ∃ dd, dd = ds[k] := ⟨_, rfl⟩
      rw [← hsl] at cs hsb1 hsb2 hstA hstL
      rw [← hdd] at cd hstA hstL hal hfa
      clear hsl hdd
      have hgaw := (own_lt hoa).2
      have hglw := (own_lt hol).2
      go_wp2_with fail
      refine (delayValid_any _ _).mono ?_
      rintro e wq ⟨rfl, rfl⟩
      cases hin : inB dd 0 300
      · have hres := Lib.hid (show lateOk n l least start ds = false by simp only [lateOk, hfa.out hin, Bool.and_false])
        clear hin
        go_wp2_with fail
        go_ret3
        exact retLLB_no hres.out (HNO.out hres.out).1 (HNO.out hres.out).2 hb1r rfl rfl
      · obtain ⟨p1, p2⟩ := of_inB hin
        have HAL2 := Lib.hid (hal.out hin)
        clear hin hal hfa
        obtain ⟨hlb1, hlb2⟩ := lstep_bd hlt1 hlt2 p1 p2 hsb1
        have hkl : (k : Int) + 1 < (l.length : Int) := by omega
        go_wp2_with fail
        refine (step_any late dd sl _ _ hlt1 (by omega) p1 p2 hsb1 hsb2 cbx fbx).mono ?_
        rintro e w3 ⟨q3, rfl, rfl⟩
        obtain ⟨w3, hw3⟩ : ∃ w3, w3 = (wr.setCell ⟨w1.heap.size + 1 + 1, 0, none⟩ (.int .i64 (lstep late dd sl))).drewN q3 := ⟨_, rfl⟩
        have hoa3 : w3.ownsRow w1.heap.size 3 1 (.slice (some ⟨ga, 0, none⟩) pa.length ca) pa.length (ints pa) := by rw [hw3]; exact own_drewN (own_setCell hoa hneb) _
        have hol3 : w3.ownsRow w1.heap.size 3 1 (.slice (some ⟨gl, 0, none⟩) pl.length cl) pl.length (ints pl) := by rw [hw3]; exact own_drewN (own_setCell hol hneb') _
        have hb3 : Below w1.heap.size w1 w3 := by rw [hw3]; exact below_drewN (hb.setCell (p := ⟨w1.heap.size + 1 + 1, 0, none⟩) (by show _ ≤ w1.heap.size + 1 + 1; omega) _) _
        have cb3 : w3.cell? ⟨w1.heap.size + 1 + 1, 0, none⟩ = some (.int .i64 (lstep late dd sl)) := by rw [hw3, World.cell?_drewN]; exact World.cell?_setCell_same _ _ _ cbx
        have fb3 : w3.frozen? ⟨w1.heap.size + 1 + 1, 0, none⟩ = false := by rw [hw3, World.frozen?_drewN, World.frozen?_setCell]; exact fbx
        have hsz3 : wr.heap.size ≤ w3.heap.size := by rw [hw3]; simp
        rw [← hw3]
        clear hw3 hoa hol hb cbx fbx cd cs
        have hbs3 := hb3.size
        have hga3 : ga < w3.heap.size := by omega
        have hgl3 : gl < w3.heap.size := by omega
        have hbx3 : w1.heap.size + 1 + 1 < w3.heap.size := by omega
        have HRA2 := Lib.hid (show arrF l least start ds = (pa ++ [late + dd]) ++ runA (lstep late dd sl) (S.drop (k + 1 + 1)) (ds.drop (k + 1)) by rw [HRA.out, hstA.out]; simp)
        have HRL2 := Lib.hid (show leaF l least start ds = (pl ++ [lstep late dd sl]) ++ runL (lstep late dd sl) (S.drop (k + 1 + 1)) (ds.drop (k + 1)) by rw [HRL.out, hstL.out]; simp)
        have HPL2 := Lib.hid (show (pl ++ [lstep late dd sl]).length = k + 1 + 1 by have := HPL.out; simp [this])
        have HPA2 := Lib.hid (show (pa ++ [late + dd]).length = k + 1 + 1 by have := HPA.out; simp [this])
        generalize lstep late dd sl = nl at *
        clear HRA HRL hstA hstL
        have tok1 : True := trivial
        go_wp2_with (first | (at_builtin; have _t := tok1; go_must (refine wpList_append1 rfl _ _ 26 rfl w1.heap.size 3 i0 _ Try.underlying26 hi0 hz0 hz1 hz2 rfl (.slice (some ⟨ga, 0, none⟩) pa.length ca) pa rfl (hoa3.alloc _) w3.heap.size _ (nb1 _ _) rfl (by omega) (ls1 hbs3 _) ?_); intro g4 cap4 w4 hoa4 hg4 hor4 hltg4; have hol4 := own_ne (hol3.alloc _) hg4 (Ne.symm hne); have hb4 := below_grown (below_alloc hb3 _) (ls1 hbs3 _) (hoa3.alloc _) (Nat.le_refl _) hg4; have hne4 := ne_of_or hor4 hne (by simp; omega); have hneb4 := ne_of_or hor4 hneb (by simp; omega); have cb4 := (cell_ne (o := 0) hg4 (by simp; omega) (Ne.symm hneb)).trans ((cell_alloc1 (p := ⟨w1.heap.size + 1 + 1, 0, none⟩) _ hbx3).trans cb3); have fb4 := (frozen_ne (o := 0) hg4 (by simp; omega) (Ne.symm hneb)).trans ((frozen_alloc1 (p := ⟨w1.heap.size + 1 + 1, 0, none⟩) _ hbx3).trans fb3); have hsz4 := hg4.size; have hbs4 := hb4.size; simp only [World.size_alloc] at hsz4; have hbx4 : w1.heap.size + 1 + 1 < w4.heap.size := (by omega); clear hor4 hg4 tok1 cb3 fb3 hoa3 hol3 hb3) | (at_builtin; go_must (refine wpList_append1 rfl _ _ 26 rfl w1.heap.size 3 i0 _ Try.underlying26 hi0 hz0 hz1 hz2 rfl (.slice (some ⟨gl, 0, none⟩) pl.length cl) pl rfl (hol4.alloc _) w4.heap.size _ (nb1 _ _) rfl (by omega) (ls1 hbs4 _) ?_); intro g5 cap5 w5 hol5 hg5 hor5 hltg5; have hoa5 := own_ne (hoa4.alloc _) hg5 hne4; have hb5 := below_grown (below_alloc hb4 _) (ls1 hbs4 _) (hol4.alloc _) (Nat.le_refl _) hg5; have hne5 := ne_of_or hor5 (Ne.symm hne4) (by simp; omega); have hneb5 := ne_of_or hor5 hneb' (by simp; omega); have cb5 := (cell_ne (o := 0) hg5 (by simp; omega) (Ne.symm hneb')).trans ((cell_alloc1 (p := ⟨w1.heap.size + 1 + 1, 0, none⟩) _ hbx4).trans cb4); have fb5 := (frozen_ne (o := 0) hg5 (by simp; omega) (Ne.symm hneb')).trans ((frozen_alloc1 (p := ⟨w1.heap.size + 1 + 1, 0, none⟩) _ hbx4).trans fb4); have hsz5 := hg5.size; simp only [World.size_alloc] at hsz5; clear hor5 hg5))
        go_roundw
        case rel => exact ⟨k + 1, g4, cap4, g5, cap5, pa ++ [late + dd], pl ++ [nl], nl, by omega, by go_num, by simp, by simp, HPA2, HPL2, by omega, by omega, HAL2, HRA2, HRL2, Ne.symm hne5, hneb4, hneb5, by omega, cb5, fb5, by simpa using hoa5, by simpa using hol5, hb5⟩
        case measure => simp [intOf]; omega
    · obtain rfl : k = ds.length := by omega
      have hok : lateOk n l least start ds = true := by
        have hal := HALL.out
        rw [List.take_length] at hal
        simp only [lateOk, HSL.out, HST.out, hal, Bool.true_and, Bool.and_true, decide_eq_true_eq]
        exact HLEN.out
      have hfa : arrL n l least start ds = pa := by rw [arrL, if_pos hok, HRA.out, runA_end _ _ _ _ (Nat.le_refl _), List.append_nil]
      have hfl : leaL n l least start ds = pl := by rw [leaL, if_pos hok, HRL.out, runL_end _ _ _ _ (Nat.le_refl _), List.append_nil]
      have HOK := Lib.hid hok
      have HFA := Lib.hid hfa
      have HFL := Lib.hid hfl
      clear hfa hfl hok
      go_wp2_with fail
      go_ret3
      rw [HFA.out, HFL.out, HOK.out]
      exact ⟨_, _, _, _, rfl, own_mono hoa hbs1, own_mono hol hbs1, hb1r⟩

end Go.Proofs.Yteceohdchknbbaa

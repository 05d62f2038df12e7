/-
  Contracts of LateSlack and LateFree, the reference's and the program's.
-/
import Derived.Test.YteceohdchknbbaaLateMath
import Derived.Test.YteceohdchknbbaaStopsS
import Derived.Test.YteceohdchknbbaaStopsI
import Derived.Test.YteceohdchknbbaaDelay
import Derived.Test.YteceohdchknbbaaOwn
import Derived.Test.YteceohdchknbbaaInts
namespace Go.Proofs.Yteceohdchknbbaa
open Go.RowKit

set_option maxHeartbeats 400000 in
theorem l6lSlack_any (s : T3) (least : Int) (w : World) (h1 : 0 ≤ s.2.1) (h2 : s.2.1 ≤ s.2.2) (h3 : s.2.2 ≤ 10000) (h4 : 0 ≤ least) (h5 : least ≤ 300) :
    Calls Try.prog 62 #[.agg #[.int .i64 s.1, .int .i64 s.2.1, .int .i64 s.2.2], .int .i64 least] w fun e w' => e = .returned (.int .i64 (slackOf least s)) ∧ Below w.heap.size w w' := by
  obtain ⟨t, a, b⟩ := s
  simp only at h1 h2 h3 ⊢
  go_enter Try.func62, Try.ntmps62
  go_wp2
  all_goals (go_ret; exact ⟨ret_int (by simp only [slackOf]; omega), below_alloc (Below.refl _ _) _⟩)

set_option maxHeartbeats 2000000 in
theorem sSlack_any (n : Int) (A : Option Addr) (c lo hi : Nat) (l : List T3) (least : Int) (w : World) (hl : l.length ≤ 1048576) (hr : Rd w lo hi A (flat3 l)) (hh : hi ≤ w.heap.size) :
    Calls Try.prog 17 #[.int .i64 n, .slice A l.length c, .int .i64 least] w (RetLB 3 (slackL n l least) (slackOk n l least) w) := by
  obtain ⟨i0, hi0, hz0, hz1, hz2⟩ := info_parts infoInt
  have hb0 : Below w.heap.size w (w.alloc (.cells #[] 3)) := below_alloc (Below.refl _ _) _
  have hr0 := hr.below hb0 hh
  have hh0 := Nat.le_trans hh hb0.size
  have hown0 := own_lit0 w w.heap.size 3 1 (Nat.le_refl _)
  cases hok : slackOk n l least
  · have HL := Lib.hid (show slackL n l least = [] by simp [slackL, hok])
    have HO := Lib.hid hok
    cases hv : stopsB n l
    · have HV := Lib.hid hv
      clear hv hok
      go_enter Try.func17, Try.ntmps17
      go_wp2_with fail
      refine (sStopsValid n _ _ _ _ l _ hl hr0 hh0).mono ?_
      rintro e w1 ⟨rfl, hb1⟩
      rw [HV.out]
      go_wp2_with fail
      go_ret2
      rw [HL.out]
      exact ⟨_, _, rfl, own_below hown0 hb1, hb0.trans (hb1.mono hb0.size)⟩
    · have HV := Lib.hid hv
      have HI := Lib.hid (show inB least 0 300 = false by rw [slackOk, hv, Bool.true_and] at hok; exact hok)
      clear hv hok
      go_enter Try.func17, Try.ntmps17
      go_wp2_with fail
      refine (sStopsValid n _ _ _ _ l _ hl hr0 hh0).mono ?_
      rintro e w1 ⟨rfl, hb1⟩
      rw [HV.out]
      go_wp2_with fail
      refine (l6In_any _ _ _ _).mono ?_
      rintro e w2 ⟨rfl, rfl⟩
      rw [HI.out]
      go_wp2_with fail
      go_ret2
      rw [HL.out]
      exact ⟨_, _, rfl, own_below hown0 hb1, hb0.trans (hb1.mono hb0.size)⟩
  · have HL := Lib.hid (show slackL n l least = slacks least l by simp [slackL, hok])
    have HO := Lib.hid hok
    obtain ⟨hv, hle1, hle2⟩ := slackOk_and hok
    have HV := Lib.hid hv
    have HI := Lib.hid (inB_true (n := least) (lo := 0) (hi := 300) ⟨hle1, hle2⟩)
    obtain ⟨_, _, hl2, hl8⟩ := stopsB_n hv
    clear hv hok
    go_enter Try.func17, Try.ntmps17
    go_wp2_with fail
    refine (sStopsValid n _ _ _ _ l _ hl hr0 hh0).mono ?_
    rintro e w1 ⟨rfl, hb1⟩
    rw [HV.out]
    go_wp2_with fail
    refine (l6In_any _ _ _ _).mono ?_
    rintro e w2 ⟨rfl, rfl⟩
    rw [HI.out]
    have hown1 := own_below hown0 hb1
    have hb01 := hb0.trans (hb1.mono hb0.size)
    clear hr0 hh0 hown0 hb0 hb1
    go_wp2_with fail
    go_loopw [8, 9] (fun v i wr => ∃ (k g cap : Nat) (L : List Int), k ≤ l.length ∧ i = .int .i64 k ∧ Hid (L = (slacks least l).take k) ∧ v = .slice (some ⟨g, 0, none⟩) L.length cap ∧ L.length = k ∧ wr.ownsRow w.heap.size 3 1 (.slice (some ⟨g, 0, none⟩) L.length cap) L.length (ints L) ∧ Below w.heap.size w wr) (fun _ i _ => l.length - (intOf i).toNat)
    case atStart => exact ⟨0, _, _, [], Nat.zero_le _, rfl, by simp [Hid], rfl, rfl, hown1, hb01⟩
    case round =>
      obtain ⟨k, g, cap, L, hk, rfl, HT, rfl, hLk, hown, hb⟩ := hrel
      clear hown1 hb01
      have HLK := Lib.hid hLk
      have hL8 : L.length ≤ 8 := by omega
      clear hLk
      have hbs := hb.size
      by_cases hlt : k < l.length
      · rcases Nat.eq_zero_or_pos k with rfl | hp
        · have hz : ((0 : Int) == 0) = true := by decide
          have hstep := Lib.hid (show L ++ [0] = (slacks least l).take (0 + 1) by rw [HT.out, slacks_take_one least l (by omega)]; rfl)
          go_wp2_with (at_builtin; go_must (refine wpList_append1 rfl _ _ 26 rfl w.heap.size 3 i0 _ Try.underlying26 hi0 hz0 hz1 hz2 rfl _ L rfl (hown.alloc _) wr.heap.size _ (nb1 _ _) rfl (by omega) (ls1 hbs _) ?_); intro g2 cap2 w2 hown2 hg2 _ _)
          have hb2 := below_grown (below_alloc hb _) (ls1 hbs _) (hown.alloc _) (Nat.le_refl _) hg2
          go_roundw
          case rel => exact ⟨0 + 1, g2, cap2, L ++ [0], by omega, by go_num, hstep, by simp, by have := HLK.out; simp [this], by simpa using hown2, hb2⟩
          case measure => simp [intOf]; omega
        · have hz : ((k : Int) == 0) = false := by simp; omega
          obtain ⟨b, off, rfl, hlo, hhi, c0, c1, c2⟩ := (hr.below hb hh).at3 k hlt
          have hg := stopsB_get HV.out k hlt
          have hstep := Lib.hid (show L ++ [slackOf least l[k]] = (slacks least l).take (k + 1) by rw [HT.out, slacks_take_succ least l k hlt hp])
          obtain ⟨x, hx⟩ : ∃ x, x = l[k] := ⟨_, rfl⟩
          rw [← hx] at c0 c1 c2 hg hstep
          clear hx
          obtain ⟨q1, q2, q3, q4, q5⟩ := hg
          go_wp2_with fail
          refine (l6lSlack_any x least _ q3 q4 q5 hle1 hle2).mono ?_
          rintro e w2 ⟨rfl, hb2⟩
          have hown2 := own_below hown hb2
          have hb12 := hb.trans (hb2.mono hbs)
          have hbs2 := hb12.size
          obtain ⟨sl, hsl⟩ : ∃ sl, sl = slackOf least x := ⟨_, rfl⟩
          rw [← hsl] at hstep ⊢
          clear hsl hown hb hb2 c0 c1 c2
          go_wp2_with (at_builtin; go_must (refine wpList_append1 rfl _ _ 26 rfl w.heap.size 3 i0 _ Try.underlying26 hi0 hz0 hz1 hz2 rfl _ L rfl (hown2.alloc _) w2.heap.size _ (nb1 _ _) rfl (by omega) (ls1 hbs2 _) ?_); intro g2 cap2 w3 hown3 hg3 _ _)
          have hb3 := below_grown (below_alloc hb12 _) (ls1 hbs2 _) (hown2.alloc _) (Nat.le_refl _) hg3
          go_roundw
          case rel => exact ⟨k + 1, g2, cap2, L ++ [sl], by omega, by go_num, hstep, by simp, by have := HLK.out; simp [this], by simpa using hown3, hb3⟩
          case measure => simp [intOf]; omega
      · have hfin : L = slacks least l := by rw [HT.out, List.take_of_length_le (by rw [slacks_length]; omega)]
        have HF := Lib.hid hfin
        clear hfin
        go_wp2_with fail
        go_ret2
        rw [HL.out, ← HF.out]
        exact ⟨_, _, rfl, hown, hb⟩

set_option maxHeartbeats 2000000 in
theorem iSlack_any (n : Int) (A : Option Addr) (c lo hi : Nat) (l : List T3) (least : Int) (w : World) (hl : l.length ≤ 1048576) (hr : Rd w lo hi A (flat3 l)) (hh : hi ≤ w.heap.size) (hcap : l.length ≤ c) :
    Calls Try.prog 16 #[.int .i64 n, .slice A l.length c, .int .i64 least] w (RetLB 3 (slackL n l least) (slackOk n l least) w) := by
  obtain ⟨i0, hi0, hz0, hz1, hz2⟩ := info_parts infoInt
  cases hok : slackOk n l least
  · have HL := Lib.hid (show slackL n l least = [] by simp [slackL, hok])
    have HO := Lib.hid hok
    cases hv : stopsB n l
    · have HV := Lib.hid hv
      clear hv hok
      go_enter Try.func16, Try.ntmps16
      go_wp2_with fail
      refine (iStopsValid n _ _ _ _ l _ hl hr hh).mono ?_
      rintro e w1 ⟨rfl, hb1⟩
      rw [HV.out]
      go_wp2_with fail
      go_ret2
      exact retLB_no rfl HL.out hb1 rfl
    · have HV := Lib.hid hv
      have HI := Lib.hid (show inB least 0 300 = false by rw [slackOk, hv, Bool.true_and] at hok; exact hok)
      clear hv hok
      go_enter Try.func16, Try.ntmps16
      go_wp2_with fail
      refine (iStopsValid n _ _ _ _ l _ hl hr hh).mono ?_
      rintro e w1 ⟨rfl, hb1⟩
      rw [HV.out]
      go_wp2_with fail
      refine (delayValid_any _ _).mono ?_
      rintro e w2 ⟨rfl, rfl⟩
      rw [HI.out]
      go_wp2_with fail
      go_ret2
      exact retLB_no rfl HL.out hb1 rfl
  · have HL := Lib.hid (show slackL n l least = slacks least l by simp [slackL, hok])
    have HO := Lib.hid hok
    obtain ⟨hv, hle1, hle2⟩ := slackOk_and hok
    have HV := Lib.hid hv
    have HI := Lib.hid (inB_true (n := least) (lo := 0) (hi := 300) ⟨hle1, hle2⟩)
    obtain ⟨_, _, hl2, hl8⟩ := stopsB_n hv
    clear hv hok
    obtain ⟨b, off, rfl, hlo, hhi, _⟩ := hr.at3 0 (by omega)
    have hc1 : (c = 1) = False := by simp; omega
    go_enter Try.func16, Try.ntmps16
    go_wp2_with fail
    refine (iStopsValid n _ _ _ _ l _ hl hr hh).mono ?_
    rintro e w1 ⟨rfl, hb1⟩
    rw [HV.out]
    go_wp2_with fail
    refine (delayValid_any _ _).mono ?_
    rintro e w2 ⟨rfl, rfl⟩
    rw [HI.out]
    go_wp2_with fail
    have hown1 := own_lit1 w1 w.heap.size 3 0 hb1.size
    have hb01 := below_alloc hb1 (.cells #[.int .i64 0] 3)
    clear hc1 hb1
    go_loopw [8, 25] (fun v i wr => ∃ (k g cap : Nat) (L : List Int), k ≤ l.length - 1 ∧ i = .int .i64 k ∧ Hid (L = (slacks least l).take (k + 1)) ∧ v = .slice (some ⟨g, 0, none⟩) L.length cap ∧ L.length = k + 1 ∧ wr.ownsRow w.heap.size 3 1 (.slice (some ⟨g, 0, none⟩) L.length cap) L.length (ints L) ∧ Below w.heap.size w wr) (fun _ i _ => l.length - (intOf i).toNat)
    case atStart => exact ⟨0, _, _, [0], Nat.zero_le _, rfl, by simp only [Hid]; rw [slacks_take_one least l (by omega)], rfl, rfl, hown1, hb01⟩
    case round =>
      obtain ⟨k, g, cap, L, hk, rfl, HT, rfl, hLk, hown, hb⟩ := hrel
      clear hown1 hb01
      have HLK := Lib.hid hLk
      have hL8 : L.length ≤ 8 := by omega
      clear hLk
      have hbs := hb.size
      by_cases hlt : k < l.length - 1
      · obtain ⟨b', off', e, _, _, c0, c1, c2⟩ := (hr.below hb hh).at3 (k + 1) (by omega)
        injection e with e; injection e with e1 e2; subst e1 e2
        have ea : off + (k + 1) * 3 = off + 3 + k * 3 := by omega
        rw [ea] at c0 c1 c2
        clear ea
        have hg := stopsB_get HV.out (k + 1) (by omega)
        have hstep := Lib.hid (show L ++ [slackOf least l[k + 1]] = (slacks least l).take (k + 1 + 1) by rw [HT.out, slacks_take_succ least l (k + 1) (by omega) (by omega)])
        obtain ⟨x, hx⟩ : ∃ x, x = l[k + 1] := ⟨_, rfl⟩
        rw [← hx] at c0 c1 c2 hg hstep
        clear hx
        obtain ⟨q1, q2, q3, q4, q5⟩ := hg
        by_cases hsl : x.2.2 - x.2.1 - least < 0
        · have hs0 := Lib.hid (show slackOf least x = 0 by unfold slackOf; omega)
          rw [hs0.out] at hstep
          go_wp2_with (at_builtin; go_must (refine wpList_append1 rfl _ _ 26 rfl w.heap.size 3 i0 _ Try.underlying26 hi0 hz0 hz1 hz2 rfl _ L rfl ((hown.alloc _).alloc _) (wr.heap.size + 1) _ (nb2 _ _ _) rfl (by omega) (ls2 hbs _ _) ?_); intro g2 cap2 w2 hown2 hg2 _ _)
          have hb2 := below_grown (below_alloc (below_alloc hb _) _) (ls2 hbs _ _) ((hown.alloc _).alloc _) (Nat.le_refl _) hg2
          go_roundw
          case rel => exact ⟨k + 1, g2, cap2, L ++ [0], by omega, by go_num, hstep, by simp, by have := HLK.out; simp [this], by simpa using hown2, hb2⟩
          case measure => simp [intOf]; omega
        · have hsl' : 0 ≤ x.2.2 - x.2.1 - least := by omega
          have hs0 := Lib.hid (show slackOf least x = x.2.2 - x.2.1 - least by unfold slackOf; omega)
          rw [hs0.out] at hstep
          clear hsl
          go_wp2_with (at_builtin; go_must (refine wpList_append1 rfl _ _ 26 rfl w.heap.size 3 i0 _ Try.underlying26 hi0 hz0 hz1 hz2 rfl _ L rfl ((hown.alloc _).alloc _) (wr.heap.size + 1) _ (nb2 _ _ _) rfl (by omega) (ls2 hbs _ _) ?_); intro g2 cap2 w2 hown2 hg2 _ _)
          have hb2 := below_grown (below_alloc (below_alloc hb _) _) (ls2 hbs _ _) ((hown.alloc _).alloc _) (Nat.le_refl _) hg2
          go_roundw
          case rel => exact ⟨k + 1, g2, cap2, L ++ [x.2.2 - x.2.1 - least], by omega, by go_num, hstep, by simp, by have := HLK.out; simp [this], by simpa using hown2, hb2⟩
          case measure => simp [intOf]; omega
      · have hfin : L = slacks least l := by rw [HT.out, List.take_of_length_le (by rw [slacks_length]; omega)]
        have HF := Lib.hid hfin
        clear hfin
        go_wp2_with fail
        go_ret2
        rw [HL.out, ← HF.out]
        exact ⟨_, _, rfl, hown, hb⟩
set_option maxHeartbeats 2000000 in
theorem sFree_any (n : Int) (A : Option Addr) (c lo hi : Nat) (l : List T3) (least : Int) (w : World) (hl : l.length ≤ 1048576) (hr : Rd w lo hi A (flat3 l)) (hh : hi ≤ w.heap.size) :
    Calls Try.prog 33 #[.int .i64 n, .slice A l.length c, .int .i64 least] w fun e w' => e = .returned (.int .i64 (freeV n l least)) ∧ Below w.heap.size w w' := by
  cases hok : slackOk n l least
  · have HL := Lib.hid (show freeV n l least = -1 by simp [freeV, hok])
    have HO := Lib.hid hok
    clear hok
    go_enter Try.func33, Try.ntmps33
    go_wp2_with fail
    refine (sSlack_any n _ _ _ _ l least _ hl hr hh).mono ?_
    rintro e w1 ⟨B1, d1, rfl, ho1, hb1⟩
    rw [HO.out]
    go_wp2_with fail
    go_ret
    exact ⟨ret_int HL.out.symm, hb1⟩
  · have HL := Lib.hid (show freeV n l least = min (sumI ((slacks least l).take (l.length - 1))) 300 by simp [freeV, hok])
    have HS := Lib.hid (show slackL n l least = slacks least l by simp [slackL, hok])
    have HO := Lib.hid hok
    obtain ⟨_, _, hl2, hl8⟩ := stopsB_n (slackOk_and hok).1
    have hz0 := slacks_take_one least l (by omega)
    have HZ := Lib.hid hz0
    clear hok hz0
    go_enter Try.func33, Try.ntmps33
    go_wp2_with fail
    refine (sSlack_any n _ _ _ _ l least _ hl hr hh).mono ?_
    rintro e w1 ⟨B1, d1, rfl, ho1, hb1⟩
    rw [HO.out, HS.out, slacks_length]
    rw [HS.out, slacks_length] at ho1
    have hrd := Rd.of_own ho1
    have hbd := Lib.hid (slacks_bd HO.out)
    have HLN := Lib.hid (slacks_length least l)
    generalize slacks least l = L at *
    clear ho1
    go_wp2_with fail
    go_loop [9, 10] (fun s i => ∃ (k : Nat) (sm : Int), 1 ≤ k ∧ k ≤ l.length - 1 ∧ i = .int .i64 k ∧ s = .int .i64 sm ∧ Hid (sm = sumI (L.take k)) ∧ 0 ≤ sm ∧ sm ≤ k * 10000) (fun _ i => l.length - (intOf i).toNat)
    case atStart => exact ⟨1, 0, by omega, by omega, rfl, rfl, by simp only [Hid]; rw [HZ.out]; rfl, by omega, by omega⟩
    case round =>
      obtain ⟨k, sm, hk1, hk2, rfl, rfl, H, hs1, hs2⟩ := hrel
      by_cases hlt : k < l.length - 1
      · have hkL : k < L.length := by have := HLN.out; omega
        obtain ⟨b', off', rfl, _, _, c0⟩ := hrd.at1 k hkL
        have hq := hbd.out k hkL
        have hst := Lib.hid (show sm + L[k] = sumI (L.take (k + 1)) by rw [List.take_succ_eq_append_getElem hkL, sumI_snoc, H.out])
        generalize L[k] = x at *
        have hlt' : (k : Int) + 1 < (l.length : Int) := by omega
        go_wp2
        go_round
        case rel => exact ⟨k + 1, _, by omega, by omega, by go_num, rfl, hst, by omega, by omega⟩
        case measure => simp [intOf]; omega
      · obtain rfl : k = l.length - 1 := by omega
        have hlt' : ¬ ((l.length - 1 : Nat) : Int) + 1 < (l.length : Int) := by omega
        have hfin := Lib.hid (show freeV n l least = min sm 300 by rw [HL.out, H.out])
        go_wp2
        all_goals (go_ret; exact ⟨ret_int (by rw [hfin.out]; omega), hb1⟩)
set_option maxHeartbeats 2000000 in
theorem iFree_any (n : Int) (A : Option Addr) (c lo hi : Nat) (l : List T3) (least : Int) (w : World) (hl : l.length ≤ 1048576) (hr : Rd w lo hi A (flat3 l)) (hh : hi ≤ w.heap.size) (hcap : l.length ≤ c) :
    Calls Try.prog 32 #[.int .i64 n, .slice A l.length c, .int .i64 least] w fun e w' => e = .returned (.int .i64 (freeV n l least)) ∧ Below w.heap.size w w' := by
  cases hok : slackOk n l least
  · have HL := Lib.hid (show freeV n l least = -1 by simp [freeV, hok])
    have HO := Lib.hid hok
    clear hok
    go_enter Try.func32, Try.ntmps32
    go_wp2_with fail
    refine (iSlack_any n _ _ _ _ l least _ hl hr hh hcap).mono ?_
    rintro e w1 ⟨B1, d1, rfl, ho1, hb1⟩
    rw [HO.out]
    go_wp2_with fail
    go_ret
    exact ⟨ret_int HL.out.symm, hb1⟩
  · have HL := Lib.hid (show freeV n l least = min (sumI ((slacks least l).take (l.length - 1))) 300 by simp [freeV, hok])
    have HS := Lib.hid (show slackL n l least = slacks least l by simp [slackL, hok])
    have HO := Lib.hid hok
    obtain ⟨_, _, hl2, hl8⟩ := stopsB_n (slackOk_and hok).1
    clear hok
    go_enter Try.func32, Try.ntmps32
    go_wp2_with fail
    refine (iSlack_any n _ _ _ _ l least _ hl hr hh hcap).mono ?_
    rintro e w1 ⟨B1, d1, rfl, ho1, hb1⟩
    rw [HO.out, HS.out, slacks_length]
    rw [HS.out, slacks_length] at ho1
    have hcp := own_cap ho1
    have hrd := Rd.of_own ho1
    have hbd := Lib.hid (slacks_bd HO.out)
    have HLN := Lib.hid (slacks_length least l)
    generalize slacks least l = L at *
    obtain ⟨g1, off1, rfl, _, _, _⟩ := hrd.at1 0 (by have := HLN.out; omega)
    clear ho1
    have hsub : ((l.length : Int) - 1).toNat = l.length - 1 := by omega
    go_wp2_with fail
    clear hsub
    go_loop [9, 27] (fun s i => ∃ (k : Nat) (sm : Int), k ≤ l.length - 1 ∧ i = .int .i64 k ∧ s = .int .i64 sm ∧ Hid (sm = sumI (L.take k)) ∧ 0 ≤ sm ∧ sm ≤ k * 10000) (fun _ i => l.length - (intOf i).toNat)
    case atStart => exact ⟨0, 0, by omega, rfl, rfl, by simp [Hid, sumI], by omega, by omega⟩
    case round =>
      obtain ⟨k, sm, hk2, rfl, rfl, H, hs1, hs2⟩ := hrel
      by_cases hlt : k < l.length - 1
      · have hkL : k < L.length := by have := HLN.out; omega
        obtain ⟨b', off', e, _, _, c0⟩ := hrd.at1 k hkL
        injection e with e; injection e with e1 e2; subst e1 e2
        have hq := hbd.out k hkL
        have hst := Lib.hid (show sm + L[k] = sumI (L.take (k + 1)) by rw [List.take_succ_eq_append_getElem hkL, sumI_snoc, H.out])
        generalize L[k] = x at *
        go_wp2
        go_round
        case rel => exact ⟨k + 1, _, by omega, by go_num, rfl, hst, by omega, by omega⟩
        case measure => simp [intOf]; omega
      · obtain rfl : k = l.length - 1 := by omega
        have hfin := Lib.hid (show freeV n l least = min sm 300 by rw [HL.out, H.out])
        go_wp2
        all_goals (go_ret; exact ⟨ret_int (by rw [hfin.out]; omega), hb1⟩)

end Go.Proofs.Yteceohdchknbbaa

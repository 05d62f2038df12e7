/-
  Contract of the drawer of gates.
-/
import Derived.Test.YtgalkbnlpadpfaaGatesDrawWay
namespace Go.Proofs.Ytgalkbnlpadpfaa
open Go.RowKit

set_option maxRecDepth 100000 in
set_option maxHeartbeats 8000000 in
theorem gates_any (R p : Nat) (f : Nat → Int → Int) (w : World) (h : IsRdr w R p f) (hp : p ≤ 900000) :
    Calls Try.prog 28 #[.pointer (some ⟨R, 0, none⟩)] w (DrewS 37 R p f w) := by
  obtain ⟨i0, hi0, hz0, hz1, hz2⟩ := info_parts infoGate
  have hRw := h.lt
  have h1 := drawF_bd (n := 20) h (p := p) (by omega) (by omega)
  have h2 := drawF_bd (n := 9) h (p := p + 1) (by omega) (by omega)
  go_enter Try.func28, Try.ntmps28
  go_wp2_with fail
  refine (pick_any 20 R p f _ (h.alloc _) (by omega) (by omega) (by omega)).mono ?_
  rintro e w1 ⟨rfl, hs1⟩
  have hr1 := hs1.rdr (h.alloc _)
  have hg1 := (gr_alloc (gr_refl w (some R)) (.cells #[] 37)).trans hs1.grown
  have ho1 := hs1.own (own_lit0 w w.heap.size 37 3 (Nat.le_refl _)) hRw
  go_wp2_with fail
  refine (pick_any 9 R (p + 1) f _ hr1 (by omega) (by omega) (by omega)).mono ?_
  rintro e w2 ⟨rfl, hs2⟩
  have hr2 := hs2.rdr hr1
  have hg2 := hg1.trans hs2.grown
  have ho2 := hs2.own ho1 hRw
  obtain ⟨nn, hnn⟩ := Int.eq_ofNat_of_zero_le h2.1
  have hn8 : nn ≤ 8 := by omega
  rw [hnn]
  generalize f p 20 = m0 at *
  clear hnn h2 ho1 hr1 hg1 hs1 hs2
  go_wp2_with fail
  go_loopw [3, 4, 6] (fun v mi i wr => ∃ (k g cap : Nat) (L : List T3) (m : Int), k ≤ nn ∧ i = .int .i64 k ∧ mi = .int .i64 m ∧ 0 ≤ m ∧ m ≤ 20 + 20 * k ∧ L.length = k ∧ v = .slice (some ⟨g, 0, none⟩) L.length cap ∧ wr.ownsRow w.heap.size 37 3 (.slice (some ⟨g, 0, none⟩) L.length cap) L.length (flat3 L) ∧ IsRdr wr R (p + 2 + 3 * k) f ∧ w.grownBy wr (some R)) (fun _ _ i _ => nn - (intOf i).toNat)
  case atStart => exact ⟨0, _, _, [], m0, Nat.zero_le _, rfl, rfl, by omega, by omega, rfl, rfl, ho2, hr2, hg2⟩
  case round =>
    obtain ⟨k, g, cap, L, m, hk, rfl, rfl, hm0, hm1, hLk, rfl, hown, hrd, hgr⟩ := hrel
    clear ho2 hr2 hg2
    have HLK := Lib.hid hLk
    have hL8 : L.length ≤ 8 := by omega
    by_cases hlt : k < nn
    · clear hLk
      have b1 := drawF_bd (n := 5) hrd (p := p + 2 + 3 * k) (by omega) (by omega)
      have b2 := drawF_bd (n := 5) hrd (p := p + 2 + 3 * k + 1) (by omega) (by omega)
      have b3 := drawF_bd (n := 20) hrd (p := p + 2 + 3 * k + 1 + 1) (by omega) (by omega)
      have hsz := hgr.size
      go_wp2_with fail
      refine (pick_any 5 R (p + 2 + 3 * k) f _ hrd (by omega) (by omega) (by omega)).mono ?_
      rintro e w3 ⟨rfl, hs3⟩
      have hr3 := hs3.rdr hrd
      have hg3 := hgr.trans hs3.grown
      have ho3 := hs3.own hown hRw
      generalize f (p + 2 + 3 * k) 5 = tr at *
      go_wp2_with fail
      refine (pick_any 5 R (p + 2 + 3 * k + 1) f _ (hr3.alloc _) (by omega) (by omega) (by omega)).mono ?_
      rintro e w4 ⟨rfl, hs4⟩
      have hr4 := hs4.rdr (hr3.alloc _)
      have hg4 := (gr_alloc hg3 _).trans hs4.grown
      have ho4 := hs4.own (ho3.alloc _) hRw
      have hsz4 := hg4.size
      obtain ⟨j, hj⟩ := Int.eq_ofNat_of_zero_le b2.1
      have hj5 : j < 5 := by omega
      rw [hj]
      have hlc := (hs4.cell (b := w3.heap.size) (o := j) (by have := hg3.size; omega)).trans (lit_cell w3 [1, 3, 10, 6, 12] 3 j hj5)
      generalize [(1 : Int), 3, 10, 6, 12][j] = toll at hlc
      have hj0 : (0 : Int) ≤ (j : Int) := by omega
      have hj1 : (j : Int) < 5 := by omega
      clear hj b2 hs3 hs4 ho3 hr3 hg3 hown hrd hgr
      go_wp2_with (at_builtin; go_must (refine wpList_append3 rfl _ _ 25 rfl w.heap.size 37 i0 _ Try.underlying25 hi0 hz0 hz1 hz2 rfl (.slice (some ⟨g, 0, none⟩) L.length cap) L rfl (ho4.alloc _) w4.heap.size _ _ _ (nb1 _ _) rfl (by omega) (ls1 hsz4 _) ?_); intro g2 cap2 w5 ho5 hg5 hor5 hlt5; have hr5 := (hr4.alloc _).grown hg5 (by have := (own_lt ho4).1; omega); have hgr5 := draw_grown (gr_alloc hg4 _) hg5 (own_lt ho4).1)
      refine (pick_any 20 R (p + 2 + 3 * k + 1 + 1) f _ hr5 (by omega) (by omega) (by omega)).mono ?_
      rintro e w6 ⟨rfl, hs6⟩
      have hr6 := hs6.rdr hr5
      have hg6 := hgr5.trans hs6.grown
      have ho6 := hs6.own ho5 hRw
      generalize f (p + 2 + 3 * k + 1 + 1) 20 = mi at *
      have e6 : p + 2 + 3 * k + 1 + 1 + 1 = p + 2 + 3 * (k + 1) := by omega
      rw [e6] at hr6
      clear e6
      go_wp2_with fail
      go_roundw
      case rel => exact ⟨k + 1, g2, cap2, L ++ [(m, tr / 2, toll)], m + 1 + mi, by omega, by go_num, rfl, by omega, by omega, by have := HLK.out; simp [this], by simp, by simpa using ho6, hr6, hg6⟩
      case measure => simp [intOf]; omega
    · obtain rfl : k = nn := by omega
      rcases Nat.eq_zero_or_pos k with hkz | hkp
      · have hd : decide (0 < k) = false := decide_eq_false (by omega)
        have hp2 : p + 2 + 3 * k ≤ p + 200 := by omega
        clear hkz hLk
        go_wp2_with fail
        go_ret
        exact ⟨_, _, _, L, rfl, by omega, hown, by omega, hp2, hrd, hgr⟩
      · have hd : decide (0 < k) = true := decide_eq_true hkp
        have hLle : k ≤ L.length := by omega
        have hLge : L.length ≤ k := by omega
        clear hLk
        have b1 := drawF_bd (n := 40) hrd (p := p + 2 + 3 * k) (by omega) (by omega)
        go_wp2_with fail
        refine (pick_any 40 R (p + 2 + 3 * k) f _ hrd (by omega) (by omega) (by omega)).mono ?_
        rintro e w3 ⟨rfl, hs3⟩
        have hr3 := hs3.rdr hrd
        have hg3 := hgr.trans hs3.grown
        have ho3 := hs3.own hown hRw
        generalize f (p + 2 + 3 * k) 40 = sw at *
        clear hown hrd hgr hs3
        have hgR : g ≠ R := by have := (own_lt ho3).1; omega
        have hgs := (own_lt ho3).2
        have hsz := hg3.size
        have b2 := drawF_bd (n := 2) hr3 (p := p + 2 + 3 * k + 1) (by omega) (by omega)
        have b3 := drawF_bd (n := 3) hr3 (p := p + 2 + 3 * k + 1) (by omega) (by omega)
        by_cases hs0 : sw = 0
        · have d0 : (sw == 0) = true := by simp [hs0]
          clear hs0
          have hgb : w.heap.size ≤ g := (own_lt ho3).1
          go_wp2_with fail
          refine (pick_any 2 R (p + 2 + 3 * k + 1) f _ (hr3.alloc _) (by omega) (by omega) (by omega)).mono ?_
          rintro e w4 ⟨rfl, hs4⟩
          have hr4 := hs4.rdr (hr3.alloc _)
          have hg4 := (gr_alloc hg3 _).trans hs4.grown
          have ho4 := hs4.own (ho3.alloc _) hRw
          obtain ⟨j, hj⟩ := Int.eq_ofNat_of_zero_le b2.1
          have hj2 : j < 2 := by omega
          rw [hj]
          have hlc := (hs4.cell (b := w3.heap.size) (o := j) (by omega)).trans (lit_cell w3 [0, 100] 3 j hj2)
          generalize [(0 : Int), 100][j] = val at hlc
          obtain ⟨L', hL', hset⟩ := flat3_set_any L 2 val (by omega)
          have hown := own_write ho4 hset
          have hL0 : 0 < L.length := by omega
          obtain ⟨c0, c1, c2⟩ := own3_cells ho4 0 hL0
          simp only [Nat.zero_mul, Nat.zero_add] at c0 c1 c2
          have fz := ho4.frozenAt 2
          have hj0 : (0 : Int) ≤ (j : Int) := by omega
          have hj1 : (j : Int) < 2 := by omega
          have hp2 : p + 2 + 3 * k + 1 + 1 ≤ p + 200 := by omega
          have hrf := hr4.setCell (S := g) (o := 2) (u := .int .i64 val) (by omega)
          have hgf := draw_set hg4 (g := g) (o := 2) (u := .int .i64 val) (by omega)
          generalize L[0] = x0 at *
          have HL' := Lib.hid hL'
          clear hj b2 hs4 ho4 hr4 hg4 hset hL' HLK
          go_wp2_with fail
          go_ret
          exact ⟨_, _, _, L', by rw [HL'.out]; rfl, by have := HL'.out; omega, by rw [HL'.out]; exact hown, by omega, hp2, hrf, hgf⟩
        · have d0 : (sw == 0) = false := by simp [hs0]
          by_cases hs1 : sw = 1
          · have d1 : (sw == 1) = true := by simp [hs1]
            clear hs1 hs0
            have hgb : w.heap.size ≤ g := (own_lt ho3).1
            go_wp2_with fail
            refine (pick_any 2 R (p + 2 + 3 * k + 1) f _ (hr3.alloc _) (by omega) (by omega) (by omega)).mono ?_
            rintro e w4 ⟨rfl, hs4⟩
            have hr4 := hs4.rdr (hr3.alloc _)
            have hg4 := (gr_alloc hg3 _).trans hs4.grown
            have ho4 := hs4.own (ho3.alloc _) hRw
            obtain ⟨j, hj⟩ := Int.eq_ofNat_of_zero_le b2.1
            have hj2 : j < 2 := by omega
            rw [hj]
            have hlc := (hs4.cell (b := w3.heap.size) (o := j) (by omega)).trans (lit_cell w3 [-1, 4] 3 j hj2)
            generalize [(-1 : Int), 4][j] = val at hlc
            obtain ⟨L', hL', hset⟩ := flat3_set_any L 1 val (by omega)
            have hown := own_write ho4 hset
            have hL0 : 0 < L.length := by omega
            obtain ⟨c0, c1, c2⟩ := own3_cells ho4 0 hL0
            simp only [Nat.zero_mul, Nat.zero_add] at c0 c1 c2
            have fz := ho4.frozenAt 1
            have hj0 : (0 : Int) ≤ (j : Int) := by omega
            have hj1 : (j : Int) < 2 := by omega
            have hp2 : p + 2 + 3 * k + 1 + 1 ≤ p + 200 := by omega
            have hrf := hr4.setCell (S := g) (o := 1) (u := .int .i64 val) (by omega)
            have hgf := draw_set hg4 (g := g) (o := 1) (u := .int .i64 val) (by omega)
            generalize L[0] = x0 at *
            have HL' := Lib.hid hL'
            clear hj b2 hs4 ho4 hr4 hg4 hset hL' HLK
            go_wp2_with fail
            go_ret
            exact ⟨_, _, _, L', by rw [HL'.out]; rfl, by have := HL'.out; omega, by rw [HL'.out]; exact hown, by omega, hp2, hrf, hgf⟩
          · have d1 : (sw == 1) = false := by simp [hs1]
            by_cases hs2 : sw = 2
            · have d2 : (sw == 2) = true := by simp [hs2]
              clear hs2 hs1 hs0
              have hgb : w.heap.size ≤ g := (own_lt ho3).1
              obtain ⟨k', rfl⟩ : ∃ k', k = k' + 1 := ⟨k - 1, by omega⟩
              have hL0 : 0 < L.length := by omega
              have hLk' : k' < L.length := by omega
              obtain ⟨c0, _, _⟩ := own3_cells ho3 0 hL0
              simp only [Nat.zero_mul] at c0
              obtain ⟨e0, _, _⟩ := own3_cells ho3 k' hLk'
              have fz := ho3.frozenAt (k' * 3)
              have hk0 : (0 : Int) ≤ (k' : Int) := by omega
              have hk1 : (k' : Int) < (L.length : Int) := by omega
              have hkw : IntKind.i64.wrap (k' : Int) = k' := IntWalk.i64_in _ (by omega)
              have hR3 := hr3.lt
              have hR3ne : R ≠ w3.heap.size := by omega
              have hg3ne : g ≠ w3.heap.size := by omega
              obtain ⟨x0, hx0⟩ : ∃ x0, x0 = L[0].1 := ⟨_, rfl⟩
              obtain ⟨x1, hx1⟩ : ∃ x1, x1 = L[k'].1 := ⟨_, rfl⟩
              rw [← hx0] at c0
              rw [← hx1] at e0
              clear hx0 hx1
              have HP := Lib.hid (show p + 2 + 3 * (k' + 1) + 1 + 1 ≤ p + 200 by omega)
              obtain ⟨P, hP⟩ : ∃ P, P = p + 2 + 3 * (k' + 1) + 1 := ⟨_, rfl⟩
              have hPb : P ≤ 1000000 := by omega
              have hPp : p ≤ P := by omega
              have hPq : P + 1 ≤ p + 200 := by omega
              rw [← hP] at hr3 b2 b3
              clear hP
              have hv : f P 3 = 0 ∨ f P 3 = 1 ∨ f P 3 = 2 := by omega
              have hl8' : L.length * 3 ≤ 100 := by omega
              have hj3 : k' * 3 < L.length * 3 := by omega
              clear HLK b2 b3
              have hRg : R < g := by omega
              rcases hv with hv | hv | hv
              · obtain ⟨L', hL', hset⟩ := flat3_set_any L (k' * 3) 999 hj3
                have HL' := Lib.hid hL'
                have HSET := Lib.hid hset
                clear hL' hset
                go_wp2_with fail
                go_region_with (first | (go_at_call 29; ((with_reducible refine (pick_any 3 R P f _ (by (repeat (first | assumption | apply IsRdr.drewN | apply IsRdr.drew | apply IsRdr.alloc | refine IsRdr.step' ?_ (by omega)))) (by omega) (by omega) (by omega)).mono ?_); rintro e w4 ⟨rfl, q4, rfl⟩)))
                all_goals
                  go_wp2
                  go_ret
                  exact ⟨_, _, P + 1, L', by rw [HL'.out]; rfl, by have := HL'.out; omega, by rw [HL'.out]; (repeat (first | exact ho3 | apply own_drewN | apply own_drew | apply own_alloc | refine own_write ?_ HSET.out | refine own_setCell ?_ hgR)), by omega, by omega, by (repeat (first | exact hr3 | apply IsRdr.drewN | apply IsRdr.drew | apply IsRdr.alloc | refine IsRdr.step' ?_ (by omega) | refine IsRdr.setCell ?_ hRg)), by (repeat (first | exact hg3 | apply gr_drewN | apply gr_drew | apply gr_alloc | apply gr_set | refine draw_set ?_ hgb))⟩
              · obtain ⟨L', hL', hset⟩ := flat3_set_any L (k' * 3) 1000 hj3
                have HL' := Lib.hid hL'
                have HSET := Lib.hid hset
                clear hL' hset
                go_wp2_with fail
                go_region_with (first | (go_at_call 29; ((with_reducible refine (pick_any 3 R P f _ (by (repeat (first | assumption | apply IsRdr.drewN | apply IsRdr.drew | apply IsRdr.alloc | refine IsRdr.step' ?_ (by omega)))) (by omega) (by omega) (by omega)).mono ?_); rintro e w4 ⟨rfl, q4, rfl⟩)))
                all_goals
                  go_wp2
                  go_ret
                  exact ⟨_, _, P + 1, L', by rw [HL'.out]; rfl, by have := HL'.out; omega, by rw [HL'.out]; (repeat (first | exact ho3 | apply own_drewN | apply own_drew | apply own_alloc | refine own_write ?_ HSET.out | refine own_setCell ?_ hgR)), by omega, by omega, by (repeat (first | exact hr3 | apply IsRdr.drewN | apply IsRdr.drew | apply IsRdr.alloc | refine IsRdr.step' ?_ (by omega) | refine IsRdr.setCell ?_ hRg)), by (repeat (first | exact hg3 | apply gr_drewN | apply gr_drew | apply gr_alloc | apply gr_set | refine draw_set ?_ hgb))⟩
              · obtain ⟨L', hL', hset⟩ := flat3_set_any L (k' * 3) x0 hj3
                have HL' := Lib.hid hL'
                have HSET := Lib.hid hset
                clear hL' hset
                go_wp2_with fail
                go_region_with (first | (go_at_call 29; ((with_reducible refine (pick_any 3 R P f _ (by (repeat (first | assumption | apply IsRdr.drewN | apply IsRdr.drew | apply IsRdr.alloc | refine IsRdr.step' ?_ (by omega)))) (by omega) (by omega) (by omega)).mono ?_); rintro e w4 ⟨rfl, q4, rfl⟩)))
                all_goals
                  go_wp2
                  go_ret
                  exact ⟨_, _, P + 1, L', by rw [HL'.out]; rfl, by have := HL'.out; omega, by rw [HL'.out]; (repeat (first | exact ho3 | apply own_drewN | apply own_drew | apply own_alloc | refine own_write ?_ HSET.out | refine own_setCell ?_ hgR)), by omega, by omega, by (repeat (first | exact hr3 | apply IsRdr.drewN | apply IsRdr.drew | apply IsRdr.alloc | refine IsRdr.step' ?_ (by omega) | refine IsRdr.setCell ?_ hRg)), by (repeat (first | exact hg3 | apply gr_drewN | apply gr_drew | apply gr_alloc | apply gr_set | refine draw_set ?_ hgb))⟩
            · have d2 : (sw == 2) = false := by simp [hs2]
              have hp2 : p + 2 + 3 * k + 1 ≤ p + 200 := by omega
              clear hs0 hs1 hs2
              go_wp2_with fail
              go_ret
              exact ⟨_, _, _, L, rfl, by omega, ho3, by omega, hp2, hr3, hg3⟩

end Go.Proofs.Ytgalkbnlpadpfaa

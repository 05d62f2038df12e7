/-
  What the laws on shares draw: roads in parts, stretches, amounts taken.
-/
import Derived.Test.YtmeaegopenbelaaPartsDraw
import Derived.Test.YtmeaegopenbelaaInts
namespace Go.Proofs.Ytmeaegopenbelaa
open Go.RowKit

theorem Rd.draw {w w' : World} {lo hi R : Nat} {A : Option Addr} {xs : List Value} (h : Rd w lo hi A xs) (hh : hi ≤ w.heap.size) (hg : w.grownBy w' (some R)) (hR : R < lo) : Rd w' lo w'.heap.size A xs :=
  (h.keep fun p h1 h2 => World.cell?_of_block (hg.block p.block (by omega) (fun e => by injection e with e; omega))).more (Nat.le_refl _) (Nat.le_trans hh hg.size)
def DrewM (R p : Nat) (f : Nat → Int → Int) (w : World) (e : Ending) (w' : World) : Prop :=
  ∃ (A : Option Addr) (c : Nat) (ps : List T2) (x y : Int) (p' : Nat), e = .returned (.tuple #[.slice A ps.length c, .int .i64 x, .int .i64 y]) ∧ ps.length ≤ 6 ∧ Rd w' w.heap.size w'.heap.size A (flat2 ps) ∧ (0 ≤ x ∧ x ≤ 2000) ∧ (0 ≤ y ∧ y ≤ 4000) ∧ p ≤ p' ∧ p' ≤ p + 200 ∧ IsRdr w' R p' f ∧ w.grownBy w' (some R)
theorem lenV_case (ps : List T2) : lenV ps = -1 ∨ (1 ≤ lenV ps ∧ lenV ps ≤ 1188) := by
  unfold lenV
  cases h : partsB ps
  · exact .inl rfl
  · right
    obtain ⟨_, _, p3, p4, _⟩ := parts_pos h
    simp only [if_true]; omega
set_option maxRecDepth 100000 in
set_option maxHeartbeats 4000000 in
theorem mile_any (R p : Nat) (f : Nat → Int → Int) (w : World) (h : IsRdr w R p f) (hp : p ≤ 800000) :
    Calls Try.prog 50 #[.pointer (some ⟨R, 0, none⟩)] w (DrewM R p f w) := by
  have hR := h.lt
  go_enter Try.func50, Try.ntmps50
  go_wp2_with fail
  refine (parts_any R p f _ h (by omega)).mono ?_
  rintro e w1 ⟨A, c, ps, p1, rfl, hl6, hrd, hp11, hp12, hr1, hg1⟩
  have hz1 := hg1.size
  have hl := lenV_case ps
  obtain ⟨V, hV⟩ : ∃ V, V = lenV ps := ⟨_, rfl⟩
  rw [← hV] at hl
  have HV := Lib.hid hV
  clear hV h
  go_wp2_with fail
  refine (sPartsLength_any _ _ _ _ ps _ (by omega) hrd (Nat.le_refl _)).mono ?_
  rintro e w2 ⟨rfl, hb2⟩
  rw [← HV.out]
  have hr2 := hr1.below hb2
  have hg2 := hg1.trans (grown_of_below hb2 (some R))
  have HRD := Lib.hid ((hrd.below hb2 (Nat.le_refl _)).more (Nat.le_refl _) hb2.size)
  have hz2 := hg2.size
  clear hr1 hrd hg1 hb2
  have hN : V ≤ 1 ∨ 1 < V := by omega
  rcases hN with hN | hN
  · have hM1 : 1 ≤ 1 := by omega
    have hM2 : 1 ≤ 1188 := by omega
    have b3 := drawF_bd (n := 1) hr2 (p := p1) (by omega) (by omega)
    go_wp2_with fail
    refine (pick_any 1 R p1 f _ hr2 (by omega) (by omega) (by omega)).mono ?_
    rintro e w3 ⟨rfl, hs3⟩
    have hr3 := hs3.rdr hr2
    have hg3 := hg2.trans hs3.grown
    have HRD3 := Lib.hid (HRD.out.draw (Nat.le_refl _) hs3.grown hR)
    have hz3 := hg3.size
    have b4 := drawF_bd (n := 20) hr3 (p := p1 + 1) (by omega) (by omega)
    generalize f p1 1 = x at *
    obtain ⟨b30, b31⟩ := b3
    clear hs3 hr2
    go_wp2_with fail
    refine (pick_any 20 R (p1 + 1) f _ hr3 (by omega) (by omega) (by omega)).mono ?_
    rintro e w4 ⟨rfl, hs4⟩
    have hr4 := hs4.rdr hr3
    have hg4 := hg3.trans hs4.grown
    have HRD4 := Lib.hid (HRD3.out.draw (Nat.le_refl _) hs4.grown hR)
    have hz4 := hg4.size
    generalize f (p1 + 1) 20 = y at *
    clear hs4 hr3
    by_cases hy : y = 0
    · have d : (y == 0) = true := by simp [hy]
      have b5 := drawF_bd (n := 2) hr4 (p := p1 + 1 + 1) (by omega) (by omega)
      have hv : f (p1 + 1 + 1) 2 = 0 ∨ f (p1 + 1 + 1) 2 = 1 := by omega
      have hRw := hr4.lt
      have hRne : R ≠ w4.heap.size := by omega
      have wn : IntKind.i64.wrap (1 + 1) = 1 + 1 := IntWalk.i64_in _ (by omega)
      have w22 : IntKind.i64.wrap 2 = 2 := IntWalk.i64_in 2 (by omega)
      clear hy b5 hN hl
      rcases hv with hv | hv
      all_goals
        go_wp2_with fail
        go_region_with (first | (go_at_call 49; ((with_reducible refine (pick_any 2 R (p1 + 1 + 1) f _ (by (repeat (first | assumption | apply IsRdr.drewN | apply IsRdr.drew | apply IsRdr.alloc | refine IsRdr.step' ?_ (by omega)))) (by omega) (by omega) (by omega)).mono ?_); rintro e w5 ⟨rfl, q5, rfl⟩)))
        all_goals
          go_wp2
          go_ret3
          refine ⟨A, c, ps, x, _, p1 + 1 + 1 + 1, rfl, hl6, HRD4.out.draw (R := R) (Nat.le_refl _) (by (repeat (first | assumption | apply gr_drewN | apply gr_drew | apply gr_alloc | apply gr_set)); exact gr_refl _ _) hR, ⟨by omega, by omega⟩, ⟨by omega, by omega⟩, by omega, by omega, by (repeat (first | assumption | apply IsRdr.drewN | apply IsRdr.drew | apply IsRdr.alloc | refine IsRdr.step' ?_ (by omega))), by (repeat (first | assumption | apply gr_drewN | apply gr_drew | apply gr_alloc | apply gr_set))⟩
    · have d : (y == 0) = false := by simp [hy]
      have wn1 : IntKind.i64.wrap (x + 1) = x + 1 := IntWalk.i64_in _ (by omega)
      have wn2 : IntKind.i64.wrap (1 - x) = 1 - x := IntWalk.i64_in _ (by omega)
      have b5 := drawF_bd (n := 1 - x) hr4 (p := p1 + 1 + 1) (by omega) (by omega)
      clear hy hN hl
      go_wp2_with fail
      refine (pick_any (1 - x) R (p1 + 1 + 1) f _ hr4 (by omega) (by omega) (by omega)).mono ?_
      rintro e w5 ⟨rfl, hs5⟩
      have hr5 := hs5.rdr hr4
      have hg5 := hg4.trans hs5.grown
      have HRD5 := Lib.hid (HRD4.out.draw (Nat.le_refl _) hs5.grown hR)
      generalize f (p1 + 1 + 1) (1 - x) = v at *
      obtain ⟨b50, b51⟩ := b5
      have wn3 : IntKind.i64.wrap (x + 1 + v) = x + 1 + v := IntWalk.i64_in _ (by omega)
      clear hs5
      go_wp2_with fail
      go_ret3
      exact ⟨A, c, ps, x, x + 1 + v, p1 + 1 + 1 + 1, rfl, hl6, HRD5.out, ⟨by omega, by omega⟩, ⟨by omega, by omega⟩, by omega, by omega, hr5, hg5⟩
  · have hM1 : 1 ≤ V := by omega
    have hM2 : V ≤ 1188 := by omega
    have b3 := drawF_bd (n := V) hr2 (p := p1) (by omega) (by omega)
    go_wp2_with fail
    refine (pick_any V R p1 f _ hr2 (by omega) (by omega) (by omega)).mono ?_
    rintro e w3 ⟨rfl, hs3⟩
    have hr3 := hs3.rdr hr2
    have hg3 := hg2.trans hs3.grown
    have HRD3 := Lib.hid (HRD.out.draw (Nat.le_refl _) hs3.grown hR)
    have hz3 := hg3.size
    have b4 := drawF_bd (n := 20) hr3 (p := p1 + 1) (by omega) (by omega)
    generalize f p1 V = x at *
    obtain ⟨b30, b31⟩ := b3
    clear hs3 hr2
    go_wp2_with fail
    refine (pick_any 20 R (p1 + 1) f _ hr3 (by omega) (by omega) (by omega)).mono ?_
    rintro e w4 ⟨rfl, hs4⟩
    have hr4 := hs4.rdr hr3
    have hg4 := hg3.trans hs4.grown
    have HRD4 := Lib.hid (HRD3.out.draw (Nat.le_refl _) hs4.grown hR)
    have hz4 := hg4.size
    generalize f (p1 + 1) 20 = y at *
    clear hs4 hr3
    by_cases hy : y = 0
    · have d : (y == 0) = true := by simp [hy]
      have b5 := drawF_bd (n := 2) hr4 (p := p1 + 1 + 1) (by omega) (by omega)
      have hv : f (p1 + 1 + 1) 2 = 0 ∨ f (p1 + 1 + 1) 2 = 1 := by omega
      have hRw := hr4.lt
      have hRne : R ≠ w4.heap.size := by omega
      have wn : IntKind.i64.wrap (V + 1) = V + 1 := IntWalk.i64_in _ (by omega)
      have w22 : IntKind.i64.wrap 2 = 2 := IntWalk.i64_in 2 (by omega)
      clear hy b5 hN hl
      rcases hv with hv | hv
      all_goals
        go_wp2_with fail
        go_region_with (first | (go_at_call 49; ((with_reducible refine (pick_any 2 R (p1 + 1 + 1) f _ (by (repeat (first | assumption | apply IsRdr.drewN | apply IsRdr.drew | apply IsRdr.alloc | refine IsRdr.step' ?_ (by omega)))) (by omega) (by omega) (by omega)).mono ?_); rintro e w5 ⟨rfl, q5, rfl⟩)))
        all_goals
          go_wp2
          go_ret3
          refine ⟨A, c, ps, x, _, p1 + 1 + 1 + 1, rfl, hl6, HRD4.out.draw (R := R) (Nat.le_refl _) (by (repeat (first | assumption | apply gr_drewN | apply gr_drew | apply gr_alloc | apply gr_set)); exact gr_refl _ _) hR, ⟨by omega, by omega⟩, ⟨by omega, by omega⟩, by omega, by omega, by (repeat (first | assumption | apply IsRdr.drewN | apply IsRdr.drew | apply IsRdr.alloc | refine IsRdr.step' ?_ (by omega))), by (repeat (first | assumption | apply gr_drewN | apply gr_drew | apply gr_alloc | apply gr_set))⟩
    · have d : (y == 0) = false := by simp [hy]
      have wn1 : IntKind.i64.wrap (x + 1) = x + 1 := IntWalk.i64_in _ (by omega)
      have wn2 : IntKind.i64.wrap (V - x) = V - x := IntWalk.i64_in _ (by omega)
      have b5 := drawF_bd (n := V - x) hr4 (p := p1 + 1 + 1) (by omega) (by omega)
      clear hy hN hl
      go_wp2_with fail
      refine (pick_any (V - x) R (p1 + 1 + 1) f _ hr4 (by omega) (by omega) (by omega)).mono ?_
      rintro e w5 ⟨rfl, hs5⟩
      have hr5 := hs5.rdr hr4
      have hg5 := hg4.trans hs5.grown
      have HRD5 := Lib.hid (HRD4.out.draw (Nat.le_refl _) hs5.grown hR)
      generalize f (p1 + 1 + 1) (V - x) = v at *
      obtain ⟨b50, b51⟩ := b5
      have wn3 : IntKind.i64.wrap (x + 1 + v) = x + 1 + v := IntWalk.i64_in _ (by omega)
      clear hs5
      go_wp2_with fail
      go_ret3
      exact ⟨A, c, ps, x, x + 1 + v, p1 + 1 + 1 + 1, rfl, hl6, HRD5.out, ⟨by omega, by omega⟩, ⟨by omega, by omega⟩, by omega, by omega, hr5, hg5⟩

def RetM2 (w : World) (e : Ending) (w' : World) : Prop :=
  ∃ (A : Option Addr) (c : Nat) (ps : List T2) (x : Int), e = .returned (.tuple #[.slice A ps.length c, .int .i64 x]) ∧ ps.length ≤ 6 ∧ Rd w' 0 w'.heap.size A (flat2 ps) ∧ (-1 ≤ x ∧ x ≤ 1000001) ∧ Below w.heap.size w w'
set_option maxRecDepth 100000 in
set_option maxHeartbeats 2000000 in
theorem dMake_any (A : Option Addr) (n c : Nat) (bs : Nat → Int) (w : World) (h : Byt w w.heap.size A n bs) (hn : n ≤ 1048576) (hc : n ≤ c) :
    Calls Try.prog 10 #[.slice A n c] w (RetM2 w) := by
  go_enter Try.func10, Try.ntmps10
  go_wp2_with fail
  refine (open_any A n c bs _ h hn hc).mono ?_
  rintro e w1 ⟨f, rfl, hr1, hb1, hs1⟩
  have hb1 := Lib.hid hb1
  have hsz := Lib.hid hs1
  have hs1 : w.heap.size < w1.heap.size := by omega
  go_wp2_with fail
  refine (parts_any w.heap.size 0 f _ hr1 (by omega)).mono ?_
  rintro e w2 ⟨A, c, ps, p2, rfl, hl6, hrd, -, hp2, hr2, hg2⟩
  have HRD := Lib.hid hrd
  have hz2 := hg2.size
  clear hrd
  go_wp2_with fail
  refine (amt_any w.heap.size p2 f _ hr2 (by omega)).mono ?_
  rintro e w3 ⟨v, p3, rfl, hv0, hv1, -, -, hr3, hg3⟩
  have HRD3 := Lib.hid ((HRD.out.draw (Nat.le_refl _) hg3 hs1).more (Nat.zero_le _) (Nat.le_refl _))
  go_wp2_with fail
  go_ret2
  exact ⟨A, c, ps, v, rfl, hl6, HRD3.out, ⟨hv0, hv1⟩, below_draw hb1.out (hg2.trans hg3) (Nat.le_refl _)⟩
def RetM4 (w : World) (e : Ending) (w' : World) : Prop :=
  ∃ (A : Option Addr) (c : Nat) (ps : List T2) (x y a : Int), e = .returned (.tuple #[.slice A ps.length c, .int .i64 x, .int .i64 y, .int .i64 a]) ∧ ps.length ≤ 6 ∧ Rd w' 0 w'.heap.size A (flat2 ps) ∧ (0 ≤ x ∧ x ≤ 2000) ∧ (0 ≤ y ∧ y ≤ 4000) ∧ (-1 ≤ a ∧ a ≤ 1000001) ∧ Below w.heap.size w w'
set_option maxRecDepth 100000 in
set_option maxHeartbeats 2000000 in
theorem dRide_any (A : Option Addr) (n c : Nat) (bs : Nat → Int) (w : World) (h : Byt w w.heap.size A n bs) (hn : n ≤ 1048576) (hc : n ≤ c) :
    Calls Try.prog 30 #[.slice A n c] w (RetM4 w) := by
  go_enter Try.func30, Try.ntmps30
  go_wp2_with fail
  refine (open_any A n c bs _ h hn hc).mono ?_
  rintro e w1 ⟨f, rfl, hr1, hb1, hs1⟩
  have hb1 := Lib.hid hb1
  have hsz := Lib.hid hs1
  have hs1 : w.heap.size < w1.heap.size := by omega
  go_wp2_with fail
  refine (mile_any w.heap.size 0 f _ hr1 (by omega)).mono ?_
  rintro e w2 ⟨A, c, ps, x, y, p2, rfl, hl6, hrd, hx, hy, -, hp2, hr2, hg2⟩
  have HRD := Lib.hid hrd
  have hz2 := hg2.size
  clear hrd
  go_wp2_with fail
  refine (amt_any w.heap.size p2 f _ hr2 (by omega)).mono ?_
  rintro e w3 ⟨v, p3, rfl, hv0, hv1, -, -, hr3, hg3⟩
  have HRD3 := Lib.hid ((HRD.out.draw (Nat.le_refl _) hg3 hs1).more (Nat.zero_le _) (Nat.le_refl _))
  go_wp2_with fail
  refine bodyPost_ret (v := .tuple #[.slice A ps.length c, .int .i64 x, .int .i64 y, .int .i64 v]) (by simp [results, Try.results30, go_sem]) rfl ?_
  exact ⟨A, c, ps, x, y, v, rfl, hl6, HRD3.out, hx, hy, ⟨hv0, hv1⟩, below_draw hb1.out (hg2.trans hg3) (Nat.le_refl _)⟩

end Go.Proofs.Ytmeaegopenbelaa

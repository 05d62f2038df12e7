/-
  Contracts of GatesPassed, the reference's and the program's.
-/
import Derived.Test.YtgalkbnlpadpfaaSel
import Derived.Test.YtgalkbnlpadpfaaGates
import Derived.Test.YtgalkbnlpadpfaaOwn
import Derived.Test.YtgalkbnlpadpfaaInts
namespace Go.Proofs.Ytgalkbnlpadpfaa
open Go.RowKit

theorem gatesB_le10 {l : List T3} (h : gatesB l = true) : l.length ≤ 10 := by
  simp only [gatesB, Bool.and_eq_true, decide_eq_true_eq] at h; exact h.1
def wayB (l : List T3) (a b : Int) : Bool := gatesB l && inB a 0 1000 && inB b 0 1000
def onWay (a b : Int) (g : T3) : Bool := decide (a ≤ g.1 ∧ g.1 < b)
def passL (l : List T3) (a b : Int) : List Int := if wayB l a b then selI (onWay a b) l l.length else []

theorem mileValid_any (n : Int) (w : World) :
    Calls Try.prog 32 #[.int .i64 n] w fun e w' => e = .returned (.bool (inB n 0 1000)) ∧ w = w' := by
  by_cases h1 : 0 ≤ n
  · go_enter Try.func32, Try.ntmps32
    go_wp2
    go_ret
    exact ⟨by simp [inB, h1], rfl⟩
  · have h1' : decide (0 ≤ n) = false := by simpa using h1
    go_enter Try.func32, Try.ntmps32
    go_wp2
    go_ret
    exact ⟨by simp [inB, h1'], rfl⟩

set_option maxHeartbeats 1000000 in
theorem sWay_any (A : Option Addr) (c lo hi : Nat) (l : List T3) (a b : Int) (w : World) (hl : l.length ≤ 1048576) (hr : Rd w lo hi A (flat3 l)) (hh : hi ≤ w.heap.size) :
    Calls Try.prog 33 #[.slice A l.length c, .int .i64 a, .int .i64 b] w fun e w' => e = .returned (.bool (wayB l a b)) ∧ Below w.heap.size w w' := by
  go_enter Try.func33, Try.ntmps33
  go_wp2_with fail
  refine (sGatesValid A c lo hi l _ hl hr hh).mono ?_
  rintro e w1 ⟨rfl, hb1⟩
  cases hv : gatesB l
  · have hres := Lib.hid (show wayB l a b = false by simp [wayB, hv])
    clear hv
    go_wp2_with fail
    go_ret
    exact ⟨ret_bool hres.out.symm, hb1⟩
  · have HV := Lib.hid hv
    clear hv
    go_wp2_with fail
    refine (l6In_any _ _ _ _).mono ?_
    rintro e w2 ⟨rfl, rfl⟩
    cases ha : inB a 0 1000
    · have hres := Lib.hid (show wayB l a b = false by simp [wayB, ha])
      clear ha
      go_wp2_with fail
      go_ret
      exact ⟨ret_bool hres.out.symm, hb1⟩
    · have hres := Lib.hid (show wayB l a b = inB b 0 1000 by simp [wayB, ha, HV.out])
      clear ha
      go_wp2_with fail
      refine (l6In_any _ _ _ _).mono ?_
      rintro e w2 ⟨rfl, rfl⟩
      go_wp2_with fail
      go_ret
      exact ⟨ret_bool hres.out.symm, hb1⟩

def passRel (B : Nat) (E : TypeId) (L : List Int) (v : Value) (wr : World) : Prop :=
  ∃ g cap, v = .slice (some ⟨g, 0, none⟩) L.length cap ∧ wr.ownsRow B E 1 v L.length (ints L)
theorem retI_of {E : TypeId} {L M : List Int} {w w' : World} {v : Value} (h : passRel w.heap.size E M v w') (e : M = L) (hb : Below w.heap.size w w') : RetI E L w (.returned v) w' := by
  subst e; obtain ⟨g, cap, rfl, h⟩ := h; exact ⟨_, _, rfl, h, hb⟩

set_option maxHeartbeats 2000000 in
theorem sPass_any (A : Option Addr) (c lo hi : Nat) (l : List T3) (a b : Int) (w : World) (hl : l.length ≤ 1048576) (hr : Rd w lo hi A (flat3 l)) (hh : hi ≤ w.heap.size) :
    Calls Try.prog 19 #[.slice A l.length c, .int .i64 a, .int .i64 b] w (RetI 3 (passL l a b) w) := by
  obtain ⟨i0, hi0, hz0, hz1, hz2⟩ := info_parts infoInt
  cases hw : wayB l a b
  · have hres := Lib.hid (show passL l a b = [] by simp [passL, hw])
    have HW := Lib.hid hw
    clear hw
    by_cases hz : 0 < l.length
    · have hz3 : decide (0 < l.length) = true := decide_eq_true hz
      go_enter Try.func19, Try.ntmps19
      go_wp2_with fail
      refine wp_loop_rounds 1 ?_
      rw [rounds_succ]
      go_wp2_with fail
      have hb1 : Below w.heap.size w (w.alloc (.cells #[] 3)) := below_alloc (Below.refl _ _) _
      refine (sWay_any _ _ _ _ l a b _ hl (hr.below hb1 hh) (Nat.le_trans hh hb1.size)).mono ?_
      rintro e w2 ⟨rfl, hb2⟩
      rw [HW.out]
      go_wp2_with fail
      go_ret
      exact retI_of (M := []) ⟨_, _, rfl, own_below (own_lit0 w _ 3 1 (Nat.le_refl _)) hb2⟩ hres.out.symm (hb1.trans (hb2.mono hb1.size))
    · have hz3 : decide (0 < l.length) = false := decide_eq_false hz
      clear hz
      generalize hn : l.length = n at *
      go_enter Try.func19, Try.ntmps19
      go_wp2_with fail
      refine wp_loop_rounds 1 ?_
      rw [rounds_succ]
      go_wp2_with fail
      go_ret
      exact retI_of (M := []) ⟨_, _, rfl, own_lit0 w _ 3 1 (Nat.le_refl _)⟩ hres.out.symm (below_alloc (Below.refl _ _) _)
  · have hres := Lib.hid (show passL l a b = selI (onWay a b) l l.length by simp [passL, hw])
    have HW := Lib.hid hw
    have hl10 : l.length ≤ 10 := gatesB_le10 (by simp only [wayB, Bool.and_eq_true] at hw; exact hw.1.1)
    clear hw
    go_enter Try.func19, Try.ntmps19
    go_wp2_with fail
    go_loopw [7, 8] (fun v i wr => ∃ j : Nat, j ≤ l.length ∧ i = .int .i64 j ∧ passRel w.heap.size 3 (selI (onWay a b) l j) v wr ∧ Below w.heap.size w wr) (fun _ i _ => l.length - (intOf i).toNat)
    case atStart => exact ⟨0, Nat.zero_le _, rfl, ⟨_, _, rfl, own_lit0 w _ _ 1 (Nat.le_refl _)⟩, below_alloc (Below.refl _ _) _⟩
    case round =>
      obtain ⟨j, hj, rfl, ⟨g, cap, rfl, hown⟩, hb⟩ := hrel
      have hbs := hb.size
      by_cases hlt : j < l.length
      · go_wp2_with fail
        refine (sWay_any _ _ _ _ l a b _ hl (hr.below hb hh) (Nat.le_trans hh hbs)).mono ?_
        rintro e w2 ⟨rfl, hb2⟩
        rw [HW.out]
        have hb12 := hb.trans (hb2.mono hbs)
        have hown2 := own_below hown hb2
        have hbs2 := hb12.size
        have hlj := selI_len (onWay a b) l j
        have hy := Lib.hid (selI_yes (onWay a b) l j hlt)
        have hn := Lib.hid (selI_no (onWay a b) l j hlt)
        obtain ⟨bb, off, rfl, hlo, hhi, c0, c1, c2⟩ := (hr.below hb12 hh).at3 j hlt
        obtain ⟨x, hx⟩ : ∃ x, x = l[j] := ⟨_, rfl⟩
        rw [← hx] at c0 c1 c2 hy hn
        clear hx hown hb hb2 hbs
        generalize selI (onWay a b) l j = L at *
        by_cases h1 : a ≤ x.1
        · by_cases h2 : x.1 < b
          · have hst := Lib.hid (hy.out (decide_eq_true ⟨h1, h2⟩))
            go_wp2_with (at_builtin; go_must (refine wpList_append1 rfl _ _ 32 rfl w.heap.size 3 i0 _ Try.underlying32 hi0 hz0 hz1 hz2 rfl (.slice (some ⟨g, 0, none⟩) L.length cap) L rfl (hown2.alloc _) w2.heap.size _ (nb1 _ _) rfl (by omega) (ls1 hbs2 _) ?_); intro g2 cap2 w3 hown3 hg3 _ _)
            have hb3 := below_grown (below_alloc hb12 _) (ls1 hbs2 _) (hown2.alloc _) (Nat.le_refl _) hg3
            go_roundw
            case rel => exact ⟨j + 1, by omega, by go_num, ⟨g2, cap2, by rw [hst.out]; simp, by rw [hst.out]; simpa using hown3⟩, hb3⟩
            case measure => simp [intOf]; omega
          · have hst := Lib.hid (hn.out (decide_eq_false (by omega)))
            go_wp2_with fail
            go_roundw
            case rel => exact ⟨j + 1, by omega, by go_num, ⟨g, cap, by rw [hst.out], by rw [hst.out]; exact hown2⟩, hb12⟩
            case measure => simp [intOf]; omega
        · have hst := Lib.hid (hn.out (decide_eq_false (by omega)))
          go_wp2_with fail
          go_roundw
          case rel => exact ⟨j + 1, by omega, by go_num, ⟨g, cap, by rw [hst.out], by rw [hst.out]; exact hown2⟩, hb12⟩
          case measure => simp [intOf]; omega
      · obtain rfl : j = l.length := by omega
        have hrow : passRel w.heap.size 3 (selI (onWay a b) l l.length) (.slice (some ⟨g, 0, none⟩) (selI (onWay a b) l l.length).length cap) wr := ⟨g, cap, rfl, hown⟩
        generalize selI (onWay a b) l l.length = L at *
        go_wp2_with fail
        go_ret
        exact retI_of hrow hres.out.symm hb

set_option maxHeartbeats 2000000 in
theorem iPass_any (A : Option Addr) (c lo hi : Nat) (l : List T3) (a b : Int) (w : World) (hl : l.length ≤ 1048576) (hr : Rd w lo hi A (flat3 l)) (hh : hi ≤ w.heap.size) :
    Calls Try.prog 18 #[.slice A l.length c, .int .i64 a, .int .i64 b] w (RetI 3 (passL l a b) w) := by
  obtain ⟨i0, hi0, hz0, hz1, hz2⟩ := info_parts infoInt
  have hb1 : Below w.heap.size w (w.alloc (.cells #[] 3)) := below_alloc (Below.refl _ _) _
  have hsh := Lib.hid (show wayB l a b = (gatesB l && inB a 0 1000 && inB b 0 1000) from rfl)
  go_enter Try.func18, Try.ntmps18
  go_wp2_with fail
  refine (iGatesValid A c lo hi l _ hl (hr.below hb1 hh) (Nat.le_trans hh hb1.size)).mono ?_
  rintro e w2 ⟨rfl, hb2⟩
  have hb12 := hb1.trans (hb2.mono hb1.size)
  have hown2 := own_below (own_lit0 w _ 3 1 (Nat.le_refl _)) hb2
  have hbs2 := hb12.size
  clear hb1 hb2
  cases hv : gatesB l
  · have hres := Lib.hid (show passL l a b = [] by simp [passL, hsh.out, hv])
    clear hv
    go_wp2_with fail
    go_ret
    exact retI_of (M := []) ⟨_, _, rfl, hown2⟩ hres.out.symm hb12
  have HV := Lib.hid hv
  clear hv
  go_wp2_with fail
  refine (mileValid_any _ _).mono ?_
  rintro e w3 ⟨rfl, rfl⟩
  cases ha : inB a 0 1000
  · have hres := Lib.hid (show passL l a b = [] by simp [passL, hsh.out, ha])
    clear ha
    go_wp2_with fail
    go_ret
    exact retI_of (M := []) ⟨_, _, rfl, hown2⟩ hres.out.symm hb12
  have HA := Lib.hid ha
  clear ha
  go_wp2_with fail
  refine (mileValid_any _ _).mono ?_
  rintro e w3 ⟨rfl, rfl⟩
  cases hb : inB b 0 1000
  · have hres := Lib.hid (show passL l a b = [] by simp [passL, hsh.out, hb])
    clear hb
    go_wp2_with fail
    go_ret
    exact retI_of (M := []) ⟨_, _, rfl, hown2⟩ hres.out.symm hb12
  have hres := Lib.hid (show passL l a b = selI (onWay a b) l l.length by simp [passL, hsh.out, hb, HA.out, HV.out])
  clear hb
  have hl10 : l.length ≤ 10 := gatesB_le10 HV.out
  go_wp2_with fail
  go_loopw [7, 27] (fun v i wr => ∃ j : Nat, j ≤ l.length ∧ i = .int .i64 j ∧ passRel w.heap.size 3 (selI (onWay a b) l j) v wr ∧ Below w.heap.size w wr) (fun _ i _ => l.length - (intOf i).toNat)
  case atStart => exact ⟨0, Nat.zero_le _, rfl, ⟨_, _, rfl, hown2⟩, hb12⟩
  case round =>
    obtain ⟨j, hj, rfl, ⟨g, cap, rfl, hown⟩, hb⟩ := hrel
    have hbs := hb.size
    by_cases hlt : j < l.length
    · have hlj := selI_len (onWay a b) l j
      have hy := Lib.hid (selI_yes (onWay a b) l j hlt)
      have hn := Lib.hid (selI_no (onWay a b) l j hlt)
      obtain ⟨bb, off, rfl, hlo, hhi, c0, c1, c2⟩ := (hr.below hb hh).at3 j hlt
      obtain ⟨x, hx⟩ : ∃ x, x = l[j] := ⟨_, rfl⟩
      rw [← hx] at c0 c1 c2 hy hn
      clear hx hown2 hb12 hbs2
      generalize selI (onWay a b) l j = L at *
      by_cases h1 : a ≤ x.1
      · by_cases h2 : x.1 < b
        · have hst := Lib.hid (hy.out (decide_eq_true ⟨h1, h2⟩))
          go_wp2_with (at_builtin; go_must (refine wpList_append1 rfl _ _ 32 rfl w.heap.size 3 i0 _ Try.underlying32 hi0 hz0 hz1 hz2 rfl (.slice (some ⟨g, 0, none⟩) L.length cap) L rfl ((hown.alloc _).alloc _) (wr.heap.size + 1) _ (nb2 _ _ _) rfl (by omega) (ls2 hbs _ _) ?_); intro g2 cap2 w3 hown3 hg3 _ _)
          have hb3 := below_grown (below_alloc (below_alloc hb _) _) (ls2 hbs _ _) ((hown.alloc _).alloc _) (Nat.le_refl _) hg3
          go_roundw
          case rel => exact ⟨j + 1, by omega, by go_num, ⟨g2, cap2, by rw [hst.out]; simp, by rw [hst.out]; simpa using hown3⟩, hb3⟩
          case measure => simp [intOf]; omega
        · have hst := Lib.hid (hn.out (decide_eq_false (by omega)))
          go_wp2_with fail
          go_roundw
          case rel => exact ⟨j + 1, by omega, by go_num, ⟨g, cap, by rw [hst.out], by rw [hst.out]; exact hown.alloc _⟩, below_alloc hb _⟩
          case measure => simp [intOf]; omega
      · have hst := Lib.hid (hn.out (decide_eq_false (by omega)))
        go_wp2_with fail
        go_roundw
        case rel => exact ⟨j + 1, by omega, by go_num, ⟨g, cap, by rw [hst.out], by rw [hst.out]; exact hown.alloc _⟩, below_alloc hb _⟩
        case measure => simp [intOf]; omega
    · obtain rfl : j = l.length := by omega
      have hrow : passRel w.heap.size 3 (selI (onWay a b) l l.length) (.slice (some ⟨g, 0, none⟩) (selI (onWay a b) l l.length).length cap) wr := ⟨g, cap, rfl, hown⟩
      generalize selI (onWay a b) l l.length = L at *
      go_wp2_with fail
      go_ret
      exact retI_of hrow hres.out.symm hb

end Go.Proofs.Ytgalkbnlpadpfaa

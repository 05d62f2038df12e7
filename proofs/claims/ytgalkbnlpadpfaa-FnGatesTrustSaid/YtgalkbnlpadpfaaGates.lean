/-
  Contracts of the functions on gates.
-/
import Derived.Test.YtgalkbnlpadpfaaBase
namespace Go.Proofs.Ytgalkbnlpadpfaa
open Go.RowKit

def inB (n lo hi : Int) : Bool := decide (lo ≤ n) && decide (n ≤ hi)

set_option maxHeartbeats 400000 in
theorem l6In_any (n lo hi : Int) (w : World) :
    Calls Try.prog 24 #[.int .i64 n, .int .i64 lo, .int .i64 hi] w fun e w' => e = .returned (.bool (inB n lo hi)) ∧ w = w' := by
  by_cases h1 : lo ≤ n
  · go_enter Try.func24, Try.ntmps24
    go_wp2
    go_ret
    exact ⟨by simp [inB, h1], rfl⟩
  · have h1' : decide (lo ≤ n) = false := by simpa using h1
    go_enter Try.func24, Try.ntmps24
    go_wp2
    go_ret
    exact ⟨by simp [inB, h1'], rfl⟩

def gOk (last : Int) (g : T3) : Bool := decide (last + 1 ≤ g.1 ∧ g.1 ≤ 999 ∧ 0 ≤ g.2.1 ∧ g.2.1 ≤ 3 ∧ 1 ≤ g.2.2 ∧ g.2.2 ≤ 99)
def gatesFrom (last : Int) : List T3 → Bool
  | [] => true
  | g :: r => gOk last g && gatesFrom g.1 r
def gatesB (l : List T3) : Bool := decide (l.length ≤ 10) && gatesFrom (-1) l

theorem gates_stop {l : List T3} {k : Nat} {last : Int} {x : T3} (H : gatesFrom (-1) l = gatesFrom last (l.drop k)) (hk : k < l.length) (hx : x = l[k]) (hg : gOk last x = false) : gatesB l = false := by
  unfold gatesB
  rw [H, List.drop_eq_getElem_cons hk, gatesFrom, ← hx, hg]
  simp
theorem gates_go {l : List T3} {k : Nat} {last : Int} {x : T3} (H : gatesFrom (-1) l = gatesFrom last (l.drop k)) (hk : k < l.length) (hx : x = l[k]) (hg : gOk last x = true) : gatesFrom (-1) l = gatesFrom x.1 (l.drop (k + 1)) := by
  rw [H, List.drop_eq_getElem_cons hk, gatesFrom, ← hx, hg]
  simp

set_option maxHeartbeats 1000000 in
theorem sGatesValid (A : Option Addr) (c lo hi : Nat) (l : List T3) (w : World) (hl : l.length ≤ 1048576) (hr : Rd w lo hi A (flat3 l)) (hh : hi ≤ w.heap.size) :
    Calls Try.prog 8 #[.slice A l.length c] w fun e w' => e = .returned (.bool (gatesB l)) ∧ Below w.heap.size w w' := by
  go_enter Try.func8, Try.ntmps8
  go_wp2
  go_loopw [3, 4] (fun p i wr => ∃ (k : Nat) (last : Int), k ≤ l.length ∧ i = .int .i64 k ∧ p = .int .i64 last ∧ -1 ≤ last ∧ last ≤ 999 ∧ Hid (gatesFrom (-1) l = gatesFrom last (l.drop k)) ∧ Below w.heap.size w wr) (fun _ i _ => l.length - (intOf i).toNat)
  case atStart => exact ⟨0, -1, Nat.zero_le _, rfl, rfl, by omega, by omega, by simp [Hid], Below.refl _ _⟩
  case round =>
    obtain ⟨k, last, hk, rfl, rfl, hl1, hl2, H, hb⟩ := hrel
    by_cases hlt : k < l.length
    · obtain ⟨b, off, rfl, hlo, hhi, c0, c1, c2⟩ := (hr.below hb hh).at3 k hlt
      obtain ⟨x, hx⟩ : ∃ x, x = l[k] := ⟨_, rfl⟩
      rw [← hx] at c0 c1 c2
      have HX := Lib.hid hx
      clear hx
      cases hg : gOk last x
      · have HG := Lib.hid hg
        have hn : ¬ (last + 1 ≤ x.1 ∧ x.1 ≤ 999 ∧ 0 ≤ x.2.1 ∧ x.2.1 ≤ 3 ∧ 1 ≤ x.2.2 ∧ x.2.2 ≤ 99) := of_decide_eq_false hg
        clear hg
        have hres := Lib.hid (gates_stop H.out hlt HX.out HG.out)
        go_wp2
        all_goals first
          | (go_ret; exact ⟨ret_bool hres.out.symm, hb.alloc hb.size _⟩)
          | (exfalso; have hq : (!decide (x.2.2 ≤ 99)) = false := by assumption
             simp at hq; omega)
      · have HG := Lib.hid hg
        obtain ⟨q1, q2, q3, q4, q5, q6⟩ := of_decide_eq_true hg
        clear hg
        have hres := Lib.hid (gates_go H.out hlt HX.out HG.out)
        go_wp2
        go_roundw
        case rel => exact ⟨k + 1, x.1, by omega, by go_num, rfl, by omega, by omega, hres, hb.alloc hb.size _⟩
        case measure => simp [intOf]; omega
    · have hkl : k = l.length := by omega
      have hres : gatesB l = decide (l.length ≤ 10) := by
        have h := H.out
        rw [hkl, List.drop_length] at h
        unfold gatesB
        rw [h]
        simp [gatesFrom]
      have HR := Lib.hid hres
      clear hres
      go_wp2
      go_ret
      exact ⟨ret_bool (by rw [HR.out]; simp; omega), hb⟩

def lastAt (l : List T3) (k : Nat) (last : Int) : Prop := (k = 0 ∧ last = -1) ∨ ∃ j, ∃ h : j < l.length, k = j + 1 ∧ l[j].1 = last

set_option maxHeartbeats 2000000 in
theorem iGatesValid (A : Option Addr) (c lo hi : Nat) (l : List T3) (w : World) (hl : l.length ≤ 1048576) (hr : Rd w lo hi A (flat3 l)) (hh : hi ≤ w.heap.size) :
    Calls Try.prog 10 #[.slice A l.length c] w fun e w' => e = .returned (.bool (gatesB l)) ∧ Below w.heap.size w w' := by
  by_cases hten : l.length ≤ 10
  case neg =>
    have hres := Lib.hid (show gatesB l = false by simp [gatesB, hten])
    go_enter Try.func10, Try.ntmps10
    go_wp2
    go_ret
    exact ⟨ret_bool hres.out.symm, Below.refl _ _⟩
  case pos =>
  have hten' : ¬ (10 : Int) < (l.length : Int) := by omega
  go_enter Try.func10, Try.ntmps10
  go_wp2
  go_loopw [10] (fun i wr => ∃ (k : Nat) (last : Int), k ≤ l.length ∧ i = .int .i64 k ∧ -1 ≤ last ∧ last ≤ 999 ∧ lastAt l k last ∧ Hid (gatesFrom (-1) l = gatesFrom last (l.drop k)) ∧ Below w.heap.size w wr) (fun i _ => l.length - (intOf i).toNat)
  case atStart => exact ⟨0, -1, Nat.zero_le _, rfl, by omega, by omega, .inl ⟨rfl, rfl⟩, by simp [Hid], Below.refl _ _⟩
  case round =>
    obtain ⟨k, last, hk, rfl, hl1, hl2, hla, H, hb⟩ := hrel
    by_cases hlt : k < l.length
    · obtain ⟨b, off, rfl, hlo, hhi, c0, c1, c2⟩ := (hr.below hb hh).at3 k hlt
      obtain ⟨x, hx⟩ : ∃ x, x = l[k] := ⟨_, rfl⟩
      rw [← hx] at c0 c1 c2
      have HX := Lib.hid hx
      clear hx
      by_cases hn : 0 ≤ x.1 ∧ x.1 ≤ 999 ∧ 0 ≤ x.2.1 ∧ x.2.1 ≤ 3 ∧ 1 ≤ x.2.2 ∧ x.2.2 ≤ 99
      · obtain ⟨q1, q2, q3, q4, q5, q6⟩ := hn
        rcases hla with ⟨rfl, rfl⟩ | ⟨j, hj, rfl, hlast⟩
        · have hres := Lib.hid (gates_go H.out hlt HX.out (by simp only [gOk, decide_eq_true_eq]; omega))
          simp only [Nat.zero_mul, Nat.add_zero] at c0 c1 c2
          have hz : decide ((0 : Int) < 0) = false := by decide
          go_wp2
          go_quiet (fail)
          go_wp2
          go_roundw
          case rel => exact ⟨0 + 1, x.1, by omega, by go_num, by omega, by omega, .inr ⟨0, hlt, rfl, by rw [HX.out]⟩, hres, below_drewN (hb.alloc hb.size _) _⟩
          case measure => simp [intOf]; omega
        · obtain ⟨b', off', e, _, _, d0, _, _⟩ := (hr.below hb hh).at3 j hj
          injection e with e; injection e with e1 e2; subst e1 e2
          rw [hlast] at d0
          have HL := Lib.hid hlast
          clear hlast
          have hbw : b < wr.heap.size := by have := hb.size; omega
          have hw1 : IntKind.i64.wrap (j : Int) = j := IntWalk.i64_in _ (by omega)
          have hw2 : (0 : Int) ≤ j := by omega
          have hw3 : (j : Int) < l.length := by omega
          rcases Int.lt_or_le x.1 (last + 1) with hgt | hgt
          rotate_left
          · have hres := Lib.hid (gates_go H.out hlt HX.out (by simp only [gOk, decide_eq_true_eq]; omega))
            go_wp2
            go_quiet (fail)
            clear hw1
            go_wp2
            go_roundw
            case rel => exact ⟨j + 1 + 1, x.1, by omega, by go_num, by omega, by omega, .inr ⟨j + 1, hlt, rfl, by rw [HX.out]⟩, hres, below_drewN (hb.alloc hb.size _) _⟩
            case measure => simp [intOf]; omega
          · have hres := Lib.hid (gates_stop H.out hlt HX.out (by simp only [gOk, decide_eq_false_iff_not]; omega))
            go_wp2
            all_goals try (exfalso; omega)
            go_quiet (fail)
            clear hw1
            go_wp2
            go_ret
            exact ⟨ret_bool hres.out.symm, below_drewN (hb.alloc hb.size _) _⟩
      · have hres := Lib.hid (gates_stop H.out hlt HX.out (by simp only [gOk, decide_eq_false_iff_not]; omega))
        go_wp2
        all_goals first
          | (go_ret; exact ⟨ret_bool hres.out.symm, hb.alloc hb.size _⟩)
    · have hkl : k = l.length := by omega
      have hres : gatesB l = true := by
        have h := H.out
        rw [hkl, List.drop_length] at h
        unfold gatesB
        rw [h]
        simp [gatesFrom, hten]
      have HR := Lib.hid hres
      clear hres
      go_wp2
      go_ret
      exact ⟨ret_bool (by rw [HR.out]), hb⟩

end Go.Proofs.Ytgalkbnlpadpfaa

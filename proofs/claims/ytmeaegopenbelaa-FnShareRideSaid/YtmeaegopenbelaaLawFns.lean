/-
  Contracts of the laws' own small functions: sumOf, hasInt, nothing.
-/
import Derived.Test.YtmeaegopenbelaaLateMath
import Derived.Test.YtmeaegopenbelaaOwn
import Derived.Test.YtmeaegopenbelaaInts
namespace Go.Proofs.Ytmeaegopenbelaa
open Go.RowKit

theorem sumI_take_succ (l : List Int) (k : Nat) (h : k < l.length) : sumI (l.take (k + 1)) = sumI (l.take k) + l[k] := by
  rw [List.take_succ_eq_append_getElem h, sumI_snoc]
theorem sumI_take_bd (l : List Int) (B : Int) (k : Nat) (h : ∀ x ∈ l, -B ≤ x ∧ x ≤ B) (hk : k ≤ l.length) : -(k * B) ≤ sumI (l.take k) ∧ sumI (l.take k) ≤ k * B := by
  induction k with
  | zero => simp [sumI_nil]
  | succ k ih =>
    have ih := ih (by omega)
    have hx := h l[k] (List.getElem_mem (by omega))
    rw [sumI_take_succ l k (by omega)]
    have e : ((k + 1 : Nat) : Int) * B = k * B + B := by rw [Int.natCast_add, Int.add_mul]; simp
    rw [e]
    omega
theorem Rd.all1 {w : World} {lo hi : Nat} {A : Option Addr} {L : List Int} (h : Rd w lo hi A (ints L)) (hp : 0 < L.length) : ∃ b off, A = some ⟨b, off, none⟩ ∧ ∀ j, j < L.length → w.cell? ⟨b, off + j, none⟩ = some (.int .i64 (L.getD j 0)) := by
  obtain ⟨b, off, e, _, _, _⟩ := h.at1 0 hp
  refine ⟨b, off, e, fun j hj => ?_⟩
  obtain ⟨b', off', e', _, _, hc⟩ := h.at1 j hj
  rw [e] at e'
  injection e' with e'; injection e' with e1 e2; subst e1 e2
  rw [hc]; simp [List.getD, hj]
theorem not_wrong {x y : Int} (h : x = y) : (x != y) = false := by simp [h]
set_option maxHeartbeats 1000000 in
theorem sumOf_any (A : Option Addr) (c lo hi : Nat) (l : List Int) (w : World) (hl : l.length ≤ 1000) (hr : Rd w lo hi A (ints l)) (hb : ∀ x ∈ l, -2000000 ≤ x ∧ x ≤ 2000000) :
    Calls Try.prog 17 #[.slice A l.length c] w fun e w' => e = .returned (.int .i64 (sumI l)) ∧ w = w' := by
  have HB := Lib.hid hb
  clear hb
  go_enter Try.func17, Try.ntmps17
  go_wp2
  go_loop [3, 4] (fun q i => ∃ k : Nat, k ≤ l.length ∧ i = .int .i64 k ∧ q = .int .i64 (sumI (l.take k))) (fun _ i => l.length - (intOf i).toNat)
  case atStart => exact ⟨0, Nat.zero_le _, rfl, rfl⟩
  case round =>
    obtain ⟨k, hk, rfl, rfl⟩ := hrel
    by_cases hlt : k < l.length
    · obtain ⟨b, off, rfl, hlo, hhi, c0⟩ := hr.at1 k hlt
      have hx := HB.out l[k] (List.getElem_mem hlt)
      have hs := sumI_take_bd l 2000000 k HB.out hk
      have hst := Lib.hid (sumI_take_succ l k hlt)
      generalize l[k] = x at *
      generalize sumI (l.take k) = s at *
      obtain ⟨hx1, hx2⟩ := hx
      obtain ⟨hs1, hs2⟩ := hs
      have hs3 : -2000000000 ≤ s := by omega
      have hs4 : s ≤ 2000000000 := by omega
      clear hs1 hs2
      go_wp2
      go_round
      case rel => exact ⟨k + 1, by omega, by go_num, by rw [hst.out]⟩
      case measure => simp [intOf]; omega
    · have hkl : k = l.length := by omega
      subst hkl
      have hres := Lib.hid (show sumI (l.take l.length) = sumI l by rw [List.take_length])
      generalize sumI (l.take l.length) = s at *
      go_wp2
      go_ret
      exact ⟨ret_int hres.out, rfl⟩

end Go.Proofs.Ytmeaegopenbelaa

/-
  Contract of the laws' own search in a list.
-/
import Derived.Test.YtdiichfdffhdaaaInts
namespace Go.Proofs.Ytdiichfdffhdaaa
open Go.RowKit

set_option maxHeartbeats 1000000 in
theorem hasInt_any (A : Option Addr) (c lo hi : Nat) (l : List Int) (n : Int) (w : World) (hl : l.length ≤ 1048576) (hr : Rd w lo hi A (ints l)) :
    Calls Try.prog 42 #[.slice A l.length c, .int .i64 n] w fun e w' => e = .returned (.bool (decide (n ∈ l))) ∧ w = w' := by
  go_enter Try.func42, Try.ntmps42
  go_wp2
  go_loop [5] (fun i => ∃ k : Nat, k ≤ l.length ∧ i = .int .i64 k ∧ Hid (n ∉ l.take k)) (fun i => l.length - (intOf i).toNat)
  case atStart => exact ⟨0, Nat.zero_le _, rfl, by simp [Hid]⟩
  case round =>
    obtain ⟨k, hk, rfl, H⟩ := hrel
    by_cases hlt : k < l.length
    · obtain ⟨b, off, rfl, hlo, hhi, c0⟩ := hr.at1 k hlt
      have hm := List.getElem_mem hlt
      have hst := Lib.hid (List.take_succ_eq_append_getElem hlt)
      by_cases hx : l[k] = n
      · have hd : (l[k] == n) = true := by simp [hx]
        have hres := Lib.hid (show decide (n ∈ l) = true from decide_eq_true (by rw [← hx]; exact hm))
        clear hx hm
        generalize l[k] = x at *
        go_wp2
        go_ret
        exact ⟨ret_bool hres.out.symm, rfl⟩
      · have hd : (l[k] == n) = false := by simp [hx]
        have hres := Lib.hid (show n ∉ l.take (k + 1) by rw [hst.out, List.mem_append, not_or]; exact ⟨H.out, by simp; exact fun h => hx h.symm⟩)
        clear hx hm
        generalize l[k] = x at *
        go_wp2
        go_round
        case rel => exact ⟨k + 1, by omega, by go_num, hres⟩
        case measure => simp [intOf]; omega
    · have hres := Lib.hid (show decide (n ∈ l) = false from decide_eq_false (by have h := H.out; rwa [List.take_of_length_le (by omega)] at h))
      go_wp2
      go_ret
      exact ⟨ret_bool hres.out.symm, rfl⟩

end Go.Proofs.Ytdiichfdffhdaaa

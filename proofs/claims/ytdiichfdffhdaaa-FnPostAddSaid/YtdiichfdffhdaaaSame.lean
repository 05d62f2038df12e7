/-
  Contracts of the laws' own comparisons: of timetables, of rides, of nets.
-/
import Derived.Test.YtdiichfdffhdaaaNet
import Derived.Test.YtdiichfdffhdaaaOwn
import Derived.Laws.StructEq
namespace Go.Proofs.Ytdiichfdffhdaaa
open Go.RowKit

set_option maxHeartbeats 2000000 in
theorem sameStops_any (A B : Option Addr) (c d lo hi lo' hi' : Nat) (l m : List T3) (w : World) (hm : m.length ≤ 1048576) (hr : Rd w lo hi A (flat3 l)) (hr' : Rd w lo' hi' B (flat3 m)) :
    Calls Try.prog 31 #[.slice A l.length c, .slice B m.length d] w fun e w' => e = .returned (.bool (decide (l = m))) ∧ ∃ q, w' = w.drewN q := by
  have hp : Try.prog.stoodInHeld 30 = false := by kernel_rfl
  have hmm : Try.prog.eqGuardType Try.prog.depth 30 = false := by kernel_rfl
  by_cases hlen : l.length = m.length
  case neg =>
    have hres := Lib.hid (show decide (l = m) = false from decide_eq_false (fun h => hlen (by rw [h])))
    have hne : ((l.length : Int) != (m.length : Int)) = true := by simp; omega
    clear hlen
    go_enter Try.func31, Try.ntmps31
    go_wp2
    go_ret
    exact ⟨ret_bool hres.out.symm, 0, rfl⟩
  case pos =>
    have hne : ((l.length : Int) != (m.length : Int)) = false := by simp; omega
    have hle : l.length ≤ m.length := by omega
    have HL := Lib.hid hlen
    clear hlen
    go_enter Try.func31, Try.ntmps31
    go_wp2
    go_loopw [5] (fun i wr => ∃ (k q : Nat), k ≤ l.length ∧ i = .int .i64 k ∧ Hid (l.take k = m.take k) ∧ wr = w.drewN q) (fun i _ => l.length - (intOf i).toNat)
    case atStart => exact ⟨0, 0, Nat.zero_le _, rfl, by simp [Hid], rfl⟩
    case round =>
      obtain ⟨k, q, hk, rfl, H, rfl⟩ := hrel
      by_cases hlt : k < l.length
      · have hlt' : k < m.length := by omega
        obtain ⟨b, off, rfl, hlo, hhi, c0, c1, c2⟩ := hr.at3 k hlt
        obtain ⟨b', off', rfl, hlo', hhi', d0, d1, d2⟩ := hr'.at3 k hlt'
        obtain ⟨x, hx⟩ : ∃ x, x = l[k] := ⟨_, rfl⟩
        obtain ⟨y, hy⟩ : ∃ y, y = m[k] := ⟨_, rfl⟩
        rw [← hx] at c0 c1 c2
        rw [← hy] at d0 d1 d2
        have HX := Lib.hid hx
        have HY := Lib.hid hy
        clear hx hy
        have hk0 : (0 : Int) ≤ (k : Int) := by omega
        have hk1 : (k : Int) < (l.length : Int) := by omega
        have hk2 : (k : Int) < (m.length : Int) := by omega
        by_cases hxy : x = y
        · have e1 : (x.1 == y.1) = true := by simp [hxy]
          have e2 : (x.2.1 == y.2.1) = true := by simp [hxy]
          have e3 : (x.2.2 == y.2.2) = true := by simp [hxy]
          have hres := Lib.hid (show l.take (k + 1) = m.take (k + 1) by
            rw [List.take_succ_eq_append_getElem hlt, List.take_succ_eq_append_getElem hlt', H.out, ← HX.out, ← HY.out, hxy])
          clear hxy
          go_wp2
          go_quiet (fail)
          go_wp2
          go_roundw
          case rel => exact ⟨k + 1, _, by omega, by go_num, hres, rfl⟩
          case measure => simp [intOf]; omega
        · have hres := Lib.hid (show decide (l = m) = false from decide_eq_false (fun h => hxy (by rw [HX.out, HY.out]; simp [h])))
          by_cases h1 : x.1 = y.1
          · have e1 : (x.1 == y.1) = true := by simp [h1]
            by_cases h2 : x.2.1 = y.2.1
            · have e2 : (x.2.1 == y.2.1) = true := by simp [h2]
              have e3 : (x.2.2 == y.2.2) = false := by
                rw [beq_eq_false_iff_ne]; intro h3; exact hxy (Prod.ext h1 (Prod.ext h2 h3))
              clear hxy h1 h2
              go_wp2
              go_quiet (fail)
              go_wp2
              go_ret
              exact ⟨ret_bool hres.out.symm, by first | exact ⟨q + nq, World.drewN_drewN _ _ _⟩ | exact ⟨q, rfl⟩⟩
            · have e2 : (x.2.1 == y.2.1) = false := by simp [h2]
              clear hxy h1 h2
              go_wp2
              go_quiet (fail)
              go_wp2
              go_ret
              exact ⟨ret_bool hres.out.symm, by first | exact ⟨q + nq, World.drewN_drewN _ _ _⟩ | exact ⟨q, rfl⟩⟩
          · have e1 : (x.1 == y.1) = false := by simp [h1]
            clear hxy h1
            go_wp2
            go_quiet (fail)
            go_wp2
            go_ret
            exact ⟨ret_bool hres.out.symm, by first | exact ⟨q + nq, World.drewN_drewN _ _ _⟩ | exact ⟨q, rfl⟩⟩
      · have hres := Lib.hid (show decide (l = m) = true from decide_eq_true (by
          have h := H.out
          have hl := HL.out
          have hkl : k = l.length := by omega
          subst hkl
          rw [hl, List.take_length] at h
          rw [← hl, List.take_length] at h
          exact h))
        go_wp2
        go_ret
        exact ⟨ret_bool hres.out.symm, by first | exact ⟨q + nq, World.drewN_drewN _ _ _⟩ | exact ⟨q, rfl⟩⟩

set_option maxHeartbeats 2000000 in
theorem sameRides_any (A B : Option Addr) (c d lo hi lo' hi' : Nat) (l m : List T3) (w : World) (hm : m.length ≤ 1048576) (hr : Rd w lo hi A (flat3 l)) (hr' : Rd w lo' hi' B (flat3 m)) :
    Calls Try.prog 21 #[.slice A l.length c, .slice B m.length d] w fun e w' => e = .returned (.bool (decide (l = m))) ∧ ∃ q, w' = w.drewN q := by
  have hp : Try.prog.stoodInHeld 33 = false := by kernel_rfl
  have hmm : Try.prog.eqGuardType Try.prog.depth 33 = false := by kernel_rfl
  by_cases hlen : l.length = m.length
  case neg =>
    have hres := Lib.hid (show decide (l = m) = false from decide_eq_false (fun h => hlen (by rw [h])))
    have hne : ((l.length : Int) != (m.length : Int)) = true := by simp; omega
    clear hlen
    go_enter Try.func21, Try.ntmps21
    go_wp2
    go_ret
    exact ⟨ret_bool hres.out.symm, 0, rfl⟩
  case pos =>
    have hne : ((l.length : Int) != (m.length : Int)) = false := by simp; omega
    have hle : l.length ≤ m.length := by omega
    have HL := Lib.hid hlen
    clear hlen
    go_enter Try.func21, Try.ntmps21
    go_wp2
    go_loopw [5] (fun i wr => ∃ (k q : Nat), k ≤ l.length ∧ i = .int .i64 k ∧ Hid (l.take k = m.take k) ∧ wr = w.drewN q) (fun i _ => l.length - (intOf i).toNat)
    case atStart => exact ⟨0, 0, Nat.zero_le _, rfl, by simp [Hid], rfl⟩
    case round =>
      obtain ⟨k, q, hk, rfl, H, rfl⟩ := hrel
      by_cases hlt : k < l.length
      · have hlt' : k < m.length := by omega
        obtain ⟨b, off, rfl, hlo, hhi, c0, c1, c2⟩ := hr.at3 k hlt
        obtain ⟨b', off', rfl, hlo', hhi', d0, d1, d2⟩ := hr'.at3 k hlt'
        obtain ⟨x, hx⟩ : ∃ x, x = l[k] := ⟨_, rfl⟩
        obtain ⟨y, hy⟩ : ∃ y, y = m[k] := ⟨_, rfl⟩
        rw [← hx] at c0 c1 c2
        rw [← hy] at d0 d1 d2
        have HX := Lib.hid hx
        have HY := Lib.hid hy
        clear hx hy
        have hk0 : (0 : Int) ≤ (k : Int) := by omega
        have hk1 : (k : Int) < (l.length : Int) := by omega
        have hk2 : (k : Int) < (m.length : Int) := by omega
        by_cases hxy : x = y
        · have e1 : (x.1 == y.1) = true := by simp [hxy]
          have e2 : (x.2.1 == y.2.1) = true := by simp [hxy]
          have e3 : (x.2.2 == y.2.2) = true := by simp [hxy]
          have hres := Lib.hid (show l.take (k + 1) = m.take (k + 1) by
            rw [List.take_succ_eq_append_getElem hlt, List.take_succ_eq_append_getElem hlt', H.out, ← HX.out, ← HY.out, hxy])
          clear hxy
          go_wp2
          go_quiet (fail)
          go_wp2
          go_roundw
          case rel => exact ⟨k + 1, _, by omega, by go_num, hres, rfl⟩
          case measure => simp [intOf]; omega
        · have hres := Lib.hid (show decide (l = m) = false from decide_eq_false (fun h => hxy (by rw [HX.out, HY.out]; simp [h])))
          by_cases h1 : x.1 = y.1
          · have e1 : (x.1 == y.1) = true := by simp [h1]
            by_cases h2 : x.2.1 = y.2.1
            · have e2 : (x.2.1 == y.2.1) = true := by simp [h2]
              have e3 : (x.2.2 == y.2.2) = false := by
                rw [beq_eq_false_iff_ne]; intro h3; exact hxy (Prod.ext h1 (Prod.ext h2 h3))
              clear hxy h1 h2
              go_wp2
              go_quiet (fail)
              go_wp2
              go_ret
              exact ⟨ret_bool hres.out.symm, by first | exact ⟨q + nq, World.drewN_drewN _ _ _⟩ | exact ⟨q, rfl⟩⟩
            · have e2 : (x.2.1 == y.2.1) = false := by simp [h2]
              clear hxy h1 h2
              go_wp2
              go_quiet (fail)
              go_wp2
              go_ret
              exact ⟨ret_bool hres.out.symm, by first | exact ⟨q + nq, World.drewN_drewN _ _ _⟩ | exact ⟨q, rfl⟩⟩
          · have e1 : (x.1 == y.1) = false := by simp [h1]
            clear hxy h1
            go_wp2
            go_quiet (fail)
            go_wp2
            go_ret
            exact ⟨ret_bool hres.out.symm, by first | exact ⟨q + nq, World.drewN_drewN _ _ _⟩ | exact ⟨q, rfl⟩⟩
      · have hres := Lib.hid (show decide (l = m) = true from decide_eq_true (by
          have h := H.out
          have hl := HL.out
          have hkl : k = l.length := by omega
          subst hkl
          rw [hl, List.take_length] at h
          rw [← hl, List.take_length] at h
          exact h))
        go_wp2
        go_ret
        exact ⟨ret_bool hres.out.symm, by first | exact ⟨q + nq, World.drewN_drewN _ _ _⟩ | exact ⟨q, rfl⟩⟩

set_option maxHeartbeats 2000000 in
theorem sameNet_any (A B : Option Addr) (c d lo hi lo' hi' : Nat) (l m : Net) (w : World) (hm : m.length ≤ 1048576) (hm8 : ∀ k (hk : k < m.length), m[k].length ≤ 1048576) (hr : RdN w lo hi A l) (hh : hi ≤ w.heap.size) (hr' : RdN w lo' hi' B m) (hh' : hi' ≤ w.heap.size) :
    Calls Try.prog 29 #[.slice A l.length c, .slice B m.length d] w fun e w' => e = .returned (.bool (decide (l = m))) ∧ Below w.heap.size w w' := by
  have HM8 := Lib.hid hm8
  clear hm8
  by_cases hlen : l.length = m.length
  case neg =>
    have hres := Lib.hid (show decide (l = m) = false from decide_eq_false (fun h => hlen (by rw [h])))
    have hne : ((l.length : Int) != (m.length : Int)) = true := by simp; omega
    clear hlen
    go_enter Try.func29, Try.ntmps29
    go_wp2
    go_ret
    exact ⟨ret_bool hres.out.symm, by (repeat (first | exact Below.refl _ _ | assumption | apply below_alloc | apply below_drewN | apply Below.drew | refine Below.setCell ?_ (by simp; try omega) _))⟩
  case pos =>
    have hne : ((l.length : Int) != (m.length : Int)) = false := by simp; omega
    have hle : l.length ≤ m.length := by omega
    have HL := Lib.hid hlen
    clear hlen
    go_enter Try.func29, Try.ntmps29
    go_wp2
    go_loopw [5] (fun i wr => ∃ (k : Nat), k ≤ l.length ∧ i = .int .i64 k ∧ Hid (l.take k = m.take k) ∧ Below w.heap.size w wr) (fun i _ => l.length - (intOf i).toNat)
    case atStart => exact ⟨0, Nat.zero_le _, rfl, by simp [Hid], Below.refl _ _⟩
    case round =>
      obtain ⟨k, hk, rfl, H, hb⟩ := hrel
      by_cases hlt : k < l.length
      · have hlt' : k < m.length := by omega
        obtain ⟨b, off, P, cp, rfl, hlo, hhi, c0, hcp, hrk⟩ := (hr.below hb hh) k hlt
        obtain ⟨b', off', P', cp', rfl, hlo', hhi', c0', hcp', hrk'⟩ := (hr'.below hb hh') k hlt'
        have hm8k := HM8.out k hlt'
        obtain ⟨x, hx⟩ : ∃ x, x = l[k] := ⟨_, rfl⟩
        obtain ⟨y, hy⟩ : ∃ y, y = m[k] := ⟨_, rfl⟩
        rw [← hx] at c0 hcp hrk
        rw [← hy] at c0' hcp' hrk' hm8k
        have HX := Lib.hid hx
        have HY := Lib.hid hy
        have HRK := Lib.hid hrk
        have HRK' := Lib.hid hrk'
        clear hx hy hrk hrk'
        have hk0 : (0 : Int) ≤ (k : Int) := by omega
        have hk1 : (k : Int) < (l.length : Int) := by omega
        have hk2 : (k : Int) < (m.length : Int) := by omega
        have HC := Lib.hid (fun W (hW : Rd W lo hi P (flat3 x)) (hW' : Rd W lo' hi' P' (flat3 y)) => sameStops_any P P' cp cp' lo hi lo' hi' x y W hm8k hW hW')
        by_cases hxy : x = y
        · have hres := Lib.hid (show l.take (k + 1) = m.take (k + 1) by
            rw [List.take_succ_eq_append_getElem hlt, List.take_succ_eq_append_getElem hlt', H.out, ← HX.out, ← HY.out, hxy])
          have HD := Lib.hid (show decide (x = y) = true from decide_eq_true hxy)
          clear hxy
          go_wp2_with fail
          go_quiet ((go_at_call 31; exact Calls.quiet_of (v := .bool true) ((HC.out _ (HRK.out.drewN _) (HRK'.out.drewN _)).mono fun _ _ ⟨h1, h2⟩ => ⟨by rw [h1, HD.out], h2⟩)))
          have hb2 := below_drewN hb nq
          go_wp2_with fail
          go_roundw
          case rel => exact ⟨k + 1, by omega, by go_num, hres, hb2⟩
          case measure => simp [intOf]; omega
        · have hres := Lib.hid (show decide (l = m) = false from decide_eq_false (fun h => hxy (by rw [HX.out, HY.out]; simp [h])))
          have HD := Lib.hid (show decide (x = y) = false from decide_eq_false hxy)
          clear hxy
          go_wp2_with fail
          go_quiet ((go_at_call 31; exact Calls.quiet_of (v := .bool false) ((HC.out _ (HRK.out.drewN _) (HRK'.out.drewN _)).mono fun _ _ ⟨h1, h2⟩ => ⟨by rw [h1, HD.out], h2⟩)))
          have hb2 := below_drewN hb nq
          go_wp2_with fail
          go_ret
          exact ⟨ret_bool hres.out.symm, hb2⟩
      · have hres := Lib.hid (show decide (l = m) = true from decide_eq_true (by
          have h := H.out
          have hl := HL.out
          have hkl : k = l.length := by omega
          subst hkl
          rw [hl, List.take_length] at h
          rw [← hl, List.take_length] at h
          exact h))
        go_wp2
        go_ret
        exact ⟨ret_bool hres.out.symm, hb⟩

end Go.Proofs.Ytdiichfdffhdaaa

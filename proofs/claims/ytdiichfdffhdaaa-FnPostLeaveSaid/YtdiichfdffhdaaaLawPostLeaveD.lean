/-
  For every input the law FnPostLeave returns true: who leaves no later is there in time.
-/
import Derived.Test.YtdiichfdffhdaaaPostLaws2
import Derived.Test.YtdiichfdffhdaaaNetArgs
import Derived.Test.YtdiichfdffhdaaaLeaveR
namespace Go.Proofs.Ytdiichfdffhdaaa
open Go.ChangeShapes Go.WideShapes Go.ChangeAt Go.RowKit

set_option maxRecDepth 100000 in
set_option maxHeartbeats 4000000 in
theorem postLeave_any (A0 : Option Addr) (c0 n0 : Nat) (bs0 : Nat → Int) (w : World) (hm0 : n0 ≤ maxLen) (hb0 : Byt w w.heap.size A0 n0 bs0) (hc0 : n0 ≤ c0) :
    Calls Try.prog 12 #[.slice A0 n0 c0] w fun e w' => e = .returned (.bool true) ∧ Below w.heap.size w w' := by
  unfold maxLen at hm0
  by_cases hbig0 : (1048576 : Int) < n0
  · go_enter Try.func12, Try.ntmps12
    go_wp2_with fail
    go_ret
    exact ⟨rfl, Below.refl _ _⟩
  have hn0 : n0 ≤ 1048576 := by omega
  have hni0 : (n0 : Int) ≤ 1048576 := by omega
  clear hm0
  go_enter Try.func12, Try.ntmps12
  go_wp2_with fail
  refine (dLea_any A0 n0 c0 bs0 _ hb0 hn0 hc0).mono ?_
  rintro e w1 ⟨n, A, c, fr, g, t, ch, net, rfl, hn1, hn2, ht, hch, r_N, hb⟩
  obtain ⟨ht0, ht1⟩ := ht
  obtain ⟨hch0, hch1⟩ := hch
  obtain ⟨V, hV⟩ : ∃ V, V = leaveV n net fr g t ch := ⟨_, rfl⟩
  have HV := Lib.hid hV
  clear hV
  go_wp2_with fail
  refine (iPostLeave_any n _ _ _ net fr g t ch _ (Nat.le_trans r_N.size (by omega)) r_N.2.2 (Nat.le_refl _)).mono ?_
  rintro e w2 ⟨rfl, hs⟩
  replace r_N := r_N.below hs
  replace hb := hb.trans (hs.mono hb.size)
  clear hs
  rw [← HV.out]
  go_wp2_with fail
  refine (sPostLeave_any n _ _ _ net fr g t ch _ (Nat.le_trans r_N.size (by omega)) r_N.2.2 (Nat.le_refl _)).mono ?_
  rintro e w3 ⟨rfl, hs⟩
  replace r_N := r_N.below hs
  replace hb := hb.trans (hs.mono hb.size)
  clear hs
  rw [← HV.out]
  have hne : (V != V) = false := by simp
  have hee : (V == V) = true := by simp
  by_cases hneg : V < 0
  · have hd0 : decide (V < 0) = true := decide_eq_true hneg
    go_wp2_with fail
    go_ret
    exact ⟨rfl, by (repeat (first | exact Below.refl _ _ | assumption | apply below_alloc | apply below_drewN | apply Below.drew | refine Below.setCell ?_ (by simp; try omega) _))⟩
  have hd0 : decide (V < 0) = false := decide_eq_false hneg
  have hv0 : 0 ≤ V := by omega
  clear hneg
  obtain ⟨⟨x0, x1⟩, hy, hz, hv1⟩ := leave_law (n := n) (net := net) (f := fr) (to := g) (t := t) (ch := ch) (by rw [← HV.out]; exact hv0)
  rw [← HV.out] at x0 x1 hy hz hv1
  obtain ⟨X, hX⟩ : ∃ X, X = postArr n net fr g V ch := ⟨_, rfl⟩
  rw [← hX] at x0 x1
  have HX := Lib.hid hX
  clear hX
  obtain ⟨Y, hY⟩ : ∃ Y, Y = postArr n net fr g (V + 1) ch := ⟨_, rfl⟩
  rw [← hY] at hy
  have HY := Lib.hid hY
  clear hY
  obtain ⟨Z, hZ⟩ : ∃ Z, Z = leaveV n net fr g (t + 5) ch := ⟨_, rfl⟩
  rw [← hZ] at hz
  have HZ := Lib.hid hZ
  clear hZ
  have HY1 := Lib.hid hy
  have HZ1 := Lib.hid hz
  clear hy hz hne hee hd0
  go_wp2_with fail
  refine (iPostArrive_any n _ _ _ net fr g V ch _ (Nat.le_trans r_N.size (by omega)) r_N.2.2 (Nat.le_refl _)).mono ?_
  rintro e w4 ⟨rfl, hs⟩
  replace r_N := r_N.below hs
  replace hb := hb.trans (hs.mono hb.size)
  clear hs
  rw [← HX.out]
  go_wp2_with fail
  refine (iPostArrive_any n _ _ _ net fr g (V + 1) ch _ (Nat.le_trans r_N.size (by omega)) r_N.2.2 (Nat.le_refl _)).mono ?_
  rintro e w5 ⟨rfl, hs⟩
  replace r_N := r_N.below hs
  replace hb := hb.trans (hs.mono hb.size)
  clear hs
  rw [← HY.out]
  go_wp2_with fail
  refine (iPostLeave_any n _ _ _ net fr g (t + 5) ch _ (Nat.le_trans r_N.size (by omega)) r_N.2.2 (Nat.le_refl _)).mono ?_
  rintro e w6 ⟨rfl, hs⟩
  replace r_N := r_N.below hs
  replace hb := hb.trans (hs.mono hb.size)
  clear hs
  rw [← HZ.out]
  by_cases hy : Y = -1
  · have d1 : (Y == -1) = true := by simp [hy]
    clear hy
    have hz : V ≤ Z := by have := HZ1.out; omega
    go_wp2_with fail
    go_ret
    exact ⟨rfl, by (repeat (first | exact Below.refl _ _ | assumption | apply below_alloc | apply below_drewN | apply Below.drew | refine Below.setCell ?_ (by simp; try omega) _))⟩
  · have d1 : (Y == -1) = false := by simp [hy]
    have hy2 : t < Y := HY1.out.resolve_left hy
    clear hy
    have hz : V ≤ Z := by have := HZ1.out; omega
    go_wp2_with fail
    go_ret
    exact ⟨rfl, by (repeat (first | exact Below.refl _ _ | assumption | apply below_alloc | apply below_drewN | apply Below.drew | refine Below.setCell ?_ (by simp; try omega) _))⟩

set_option maxRecDepth 100000 in
theorem postLeave_lifted (os : Os) (started : os.Started) (H : Type) (enc : TypeId × Value → H) :
    ReturnsInHanded {} Try.checked os 12 .any (Rows.fnPostLeaveSpec.pre6 enc Try.prog Try.f12 Rows.fnPostLeaveRow.domain false) (Rows.fnPostLeaveSpec.post enc Try.prog Try.f12 false true false false) := by
  refine returnsInHanded_of_change (C := Try.checked) prog_own started (by kernel_rfl) Try.func12
    (ChangeSpec.witness6 (enc := enc) (C := Try.checked) false ⟨#[], #[.slice none 0 0], []⟩ 8 (by kernel_rfl) (by kernel_rfl) (by kernel_rfl) (by kernel_rfl)) ?_
  intro W base args ds gs before hval0 hW hcnd _
  have hval : ∀ (j : Nat) t v, Try.f12.params[j]? = some t → args[j]? = some v → Value.okWide Try.prog W .any base t v := hval0
  have hW' := hW
  obtain ⟨p, q, hA0, hV, rfl, hfz, hnd⟩ := hW
  have hA : DataW.TrodAll enc Try.prog W 0 (fun _ => true) true Try.f12.params.toList args.toList ds p := hA0
  rw [Try.params12] at hA hval
  obtain ⟨v0, vs0, d0, ds0, p0, q0, hargs, rfl, rfl, h0, r0⟩ := trodAll_cons hA
  obtain ⟨rfl, rfl, rfl⟩ := trodAll_nil r0
  obtain rfl : args = #[v0] := by cases args; simp_all
  obtain ⟨rfl, rfl⟩ := trodVars_none hV
  obtain ⟨a0, len0, cap0, rfl⟩ := okWide_slice Try.underlying22 (hval 0 22 v0 rfl rfl)
  have k0 := h0
  have lt0 : ∀ x ∈ p0, x.block < W.heap.size := by obtain ⟨m, hm⟩ := k0; exact DataW.trod_lt m _ _ _ hm
  obtain ⟨fuel0, hf0⟩ := h0
  obtain ⟨bs0, hm0, hb0, hc0⟩ := open_b1 Try.underlying22 Try.underlying5 (by kernel_rfl) hf0
  clear hA0 hval0
  refine (postLeave_any a0 cap0 len0 bs0 W hm0 hb0 hc0).mono fun e W' ⟨he, bel⟩ => ?_
  subst he
  exact ⟨_, rfl, _, _, _, [], _, [], hW', trodAll_mk1 (shut_bool Try.underlying4 _), (trodAll_cons_mk (Below.trod prog_laidOut (by kernel_rfl) (of_decide_eq_true (by kernel_rfl)) k0 bel lt0) trodAll_mk0), rfl, bel.frame _, fun h => by cases h⟩

theorem postLeave_holds : Rows.FnPostLeaveSaid :=
  OpenClaim.holds_of_wide 12 Try.f12 rfl rfl rfl rfl rfl rfl rfl ⟨rfl, rfl, rfl, rfl, rfl⟩ rfl rfl rfl rfl rfl (by kernel_rfl) Try.func12 (by kernel_rfl)
    (of_decide_eq_true (by kernel_rfl)) (by unfold Func.isWrapper; first | (rw [if_pos (by decide +kernel)]; kernel_rfl) | (rw [if_neg (by decide +kernel)]; exact ⟨rfl, rfl⟩))
    (fun os started H enc _ => postLeave_lifted os started H enc)

end Go.Proofs.Ytdiichfdffhdaaa

/-
  For every input the law FnExactGatesValid returns true: the program's GatesValid returns what the reference's returns, and leaves its argument as it was.
-/
import Derived.Test.YtgalkbnlpadpfaaGates2
import Derived.Test.YtgalkbnlpadpfaaOpen
namespace Go.Proofs.Ytgalkbnlpadpfaa
open Go.ChangeShapes Go.WideShapes Go.ChangeAt Go.RowKit

theorem szGateS_any (A : Option Addr) (n c : Nat) (left : Int) (w : World) (h : n ≤ maxLen) (h0 : 0 ≤ left) (h1 : left ≤ 1048576) :
    Calls Try.prog 7 #[.slice A n c, .int .i64 left] w fun e w' => e = .returned (.int .i64 (if left < n then -1 else left - n)) ∧ w = w' := by
  unfold maxLen at h
  by_cases hlt : left < n
  · rw [if_pos hlt]
    go_enter Try.func7, Try.ntmps7
    go_wp2
    go_ret
    exact ⟨rfl, rfl⟩
  · rw [if_neg hlt]
    have hlt' : (n : Int) ≤ left := by omega
    clear hlt
    go_enter Try.func7, Try.ntmps7
    go_wp2
    go_ret
    exact ⟨rfl, rfl⟩

set_option maxHeartbeats 1000000 in
theorem exactGatesValid_any (A : Option Addr) (c : Nat) (l : List T3) (w : World) (hm : l.length ≤ maxLen) (hr : Rd w 0 w.heap.size A (flat3 l)) :
    Calls Try.prog 3 #[.slice A l.length c] w fun e w' => e = .returned (.bool true) ∧ Below w.heap.size w w' := by
  by_cases hbig : (1048576 : Int) < l.length
  · go_enter Try.func3, Try.ntmps3
    go_wp2_with fail
    refine (szGateS_any _ _ _ _ _ hm (by omega) (by omega)).mono ?_
    rw [if_pos hbig]
    rintro e w1 ⟨rfl, rfl⟩
    go_wp2_with fail
    go_ret
    exact ⟨rfl, Below.refl _ _⟩
  · have hl : l.length ≤ 1048576 := by omega
    go_enter Try.func3, Try.ntmps3
    go_wp2_with fail
    refine (szGateS_any _ _ _ _ _ hm (by omega) (by omega)).mono ?_
    rw [if_neg (by omega)]
    rintro e w1 ⟨rfl, rfl⟩
    clear hbig hm
    go_wp2_with fail
    refine (toGateS_any _ _ _ _ _ _ hl hr (Nat.le_refl _)).mono ?_
    rintro e w1 ⟨A1, c1, rfl, ho1, hb1⟩
    go_wp2_with fail
    refine (sGatesValid _ _ _ _ _ _ hl (Rd.of_own ho1) (Nat.le_refl _)).mono ?_
    rintro e w2 ⟨rfl, hb2⟩
    have hb12 := hb1.trans (hb2.mono hb1.size)
    go_wp2_with fail
    refine (toGateS_any _ _ _ _ _ _ hl (hr.below hb12 (Nat.le_refl _)) hb12.size).mono ?_
    rintro e w3 ⟨A3, c3, rfl, ho3, hb3⟩
    have hb13 := hb12.trans (hb3.mono hb12.size)
    go_wp2_with fail
    refine (iGatesValid _ _ _ _ _ _ hl (Rd.of_own ho3) (Nat.le_refl _)).mono ?_
    rintro e w4 ⟨rfl, hb4⟩
    have hb14 := hb13.trans (hb4.mono hb13.size)
    have ho4 := own_below ho3 hb4
    have hne : (gatesB l != gatesB l) = false := by simp
    go_wp2_with fail
    refine (toGateS_any _ _ _ _ _ _ hl (hr.below hb14 (Nat.le_refl _)) hb14.size).mono ?_
    rintro e w5 ⟨A5, c5, rfl, ho5, hb5⟩
    have hb15 := hb14.trans (hb5.mono hb14.size)
    go_wp2_with fail
    refine (eqGateS_any _ _ _ _ _ _ _ _ _ _ _ hl hl (Rd.of_own (own_below ho4 hb5)) (Nat.le_refl _) (Rd.of_own ho5) (Nat.le_refl _)).mono ?_
    rintro e w6 ⟨rfl, hb6⟩
    have hb16 := hb15.trans (hb6.mono hb15.size)
    go_wp2_with fail
    go_ret
    exact ⟨rfl, hb16⟩

set_option maxRecDepth 100000 in
theorem exactGatesValid_lifted (os : Os) (started : os.Started) (H : Type) (enc : TypeId × Value → H) :
    ReturnsInHanded {} Try.checked os 3 .any (Rows.fnExactGatesValidSpec.pre6 enc Try.prog Try.f3 Rows.fnExactGatesValidRow.domain false) (Rows.fnExactGatesValidSpec.post enc Try.prog Try.f3 false true false false) := by
  refine returnsInHanded_of_change (C := Try.checked) prog_own started (by kernel_rfl) Try.func3
    (ChangeSpec.witness6 (enc := enc) (C := Try.checked) false ⟨#[], #[.slice none 0 0], []⟩ 8 (by kernel_rfl) (by kernel_rfl) (by kernel_rfl) (by kernel_rfl)) ?_
  intro W base args ds gs before hval0 hW hcnd _
  have hval : ∀ (j : Nat) t v, Try.f3.params[j]? = some t → args[j]? = some v → Value.okWide Try.prog W .any base t v := hval0
  have hW' := hW
  obtain ⟨p, q, hA0, hV, rfl, hfz, hnd⟩ := hW
  have hA : DataW.TrodAll enc Try.prog W 0 (fun _ => true) true Try.f3.params.toList args.toList ds p := hA0
  rw [Try.params3] at hA hval
  obtain ⟨v0, vs0, d0, ds0, p0, q0, hargs, rfl, rfl, h0, r0⟩ := trodAll_cons hA
  obtain ⟨rfl, rfl, rfl⟩ := trodAll_nil r0
  obtain rfl : args = #[v0] := by cases args; simp_all
  obtain ⟨rfl, rfl⟩ := trodVars_none hV
  obtain ⟨a0, len0, cap0, rfl⟩ := okWide_slice Try.underlying22 (hval 0 22 v0 rfl rfl)
  have k0 := h0
  have lt0 : ∀ x ∈ p0, x.block < W.heap.size := by obtain ⟨m, hm⟩ := k0; exact DataW.trod_lt m _ _ _ hm
  obtain ⟨fuel0, hf0⟩ := h0
  obtain ⟨l0, rfl, hm0, hr0, hw0⟩ := open_s3 Try.underlying22 Try.underlying49 (by kernel_rfl) (by kernel_rfl) Try.underlying3 Try.underlying3 Try.underlying3 hf0
  clear hA0 hval0
  refine (exactGatesValid_any a0 cap0 l0 W hm0 hr0).mono fun e W' ⟨he, bel⟩ => ?_
  subst he
  exact ⟨_, rfl, _, _, _, [], _, [], hW', trodAll_mk1 (shut_bool Try.underlying4 _), (trodAll_cons_mk (Below.trod prog_laidOut (by kernel_rfl) (of_decide_eq_true (by kernel_rfl)) k0 bel lt0) trodAll_mk0), rfl, bel.frame _, fun h => by cases h⟩

theorem exactGatesValid_holds : Rows.FnExactGatesValidSaid :=
  OpenClaim.holds_of_wide 3 Try.f3 rfl rfl rfl rfl rfl rfl rfl ⟨rfl, rfl, rfl, rfl, rfl⟩ rfl rfl rfl rfl rfl (by kernel_rfl) Try.func3 (by kernel_rfl)
    (of_decide_eq_true (by kernel_rfl)) (by unfold Func.isWrapper; first | (rw [if_pos (by decide +kernel)]; kernel_rfl) | (rw [if_neg (by decide +kernel)]; exact ⟨rfl, rfl⟩))
    (fun os started H enc _ => exactGatesValid_lifted os started H enc)

end Go.Proofs.Ytgalkbnlpadpfaa

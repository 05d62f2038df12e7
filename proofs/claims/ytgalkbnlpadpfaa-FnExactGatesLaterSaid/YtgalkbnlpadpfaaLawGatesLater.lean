/-
  For every input the law FnExactGatesLater returns true: the program's GatesLater returns what the reference's returns, in memory of its own, and leaves its argument as it was.
-/
import Derived.Test.YtgalkbnlpadpfaaGatesLater
import Derived.Test.YtgalkbnlpadpfaaOpen
namespace Go.Proofs.Ytgalkbnlpadpfaa
open Go.ChangeShapes Go.WideShapes Go.ChangeAt Go.RowKit

section
variable {w w' : World} {base base' size size' n m : Nat} {e e' : TypeId} {v u : Value} {xs ys : List Value}
theorem own_apart (h : w.ownsRow base e size v n xs) (hg : w.grownBy w' u.ownBlock) (hlt : ∀ k, u.ownBlock = some k → k < base) : w'.ownsRow base e size v n xs :=
  h.kept hg (by
    cases hv : v.ownBlock with
    | none => exact .inl rfl
    | some k => refine .inr (fun e => ?_); have := (h.lt k hv).1; have := hlt k e.symm; omega)
theorem own_apart' (h : w.ownsRow base e size v n xs) (hu : w.ownsRow base' e' size' u m ys) (hg : w.grownBy w' u.ownBlock) (hlt : ∀ k, v.ownBlock = some k → k < base') : w'.ownsRow base e size v n xs :=
  h.kept hg (by
    cases hv : v.ownBlock with
    | none => exact .inl rfl
    | some k => refine .inr (fun e => ?_); have := (hu.lt k e.symm).1; have := hlt k hv; omega)
end
theorem laterL_le {l : List T3} {k : Int} (h : l.length ≤ 1048576) : (laterL l k).length ≤ 1048576 := by
  unfold laterL; split <;> simp <;> omega

set_option maxHeartbeats 1000000 in
theorem exactGatesLater_any (A : Option Addr) (c : Nat) (l : List T3) (k : Int) (w : World) (hm : l.length ≤ maxLen) (hr : Rd w 0 w.heap.size A (flat3 l)) (_ : ∀ g ∈ l, in64 g.1 ∧ in64 g.2.1 ∧ in64 g.2.2) (_ : in64 k) :
    Calls Try.prog 6 #[.slice A l.length c, .int .i64 k] w fun e w' => e = .returned (.bool true) ∧ Below w.heap.size w w' := by
  by_cases hbig : (1048576 : Int) < l.length
  · go_enter Try.func6, Try.ntmps6
    go_wp2_with fail
    refine (szGateS_any _ _ _ _ _ hm (by omega) (by omega)).mono ?_
    rw [if_pos hbig]
    rintro e w1 ⟨rfl, rfl⟩
    go_wp2_with fail
    go_ret
    exact ⟨rfl, Below.refl _ _⟩
  · have hl : l.length ≤ 1048576 := by omega
    go_enter Try.func6, Try.ntmps6
    go_wp2_with fail
    refine (szGateS_any _ _ _ _ _ hm (by omega) (by omega)).mono ?_
    rw [if_neg (by omega)]
    rintro e w1 ⟨rfl, rfl⟩
    clear hbig hm
    have hL : (laterL l k).length ≤ 1048576 := laterL_le hl
    go_wp2_with fail
    refine (toGateS_any _ _ _ _ _ _ hl hr (Nat.le_refl _)).mono ?_
    rintro e w1 ⟨A1, c1, rfl, ho1, hb1⟩
    go_wp2_with fail
    refine (sGatesLater _ _ _ _ _ k _ hl (Rd.of_own ho1) (Nat.le_refl _)).mono ?_
    rintro e w2 ⟨A2, c2, rfl, ho2, hb2⟩
    have hb12 := hb1.trans (hb2.mono hb1.size)
    go_wp2_with fail
    refine (toGateS_any _ _ _ _ _ _ hl (hr.below hb12 (Nat.le_refl _)) hb12.size).mono ?_
    rintro e w3 ⟨A3, c3, rfl, ho3, hb3⟩
    have hb13 := hb12.trans (hb3.mono hb12.size)
    have ho2_3 := own_below ho2 hb3
    go_wp2_with fail
    refine (iGatesLater _ _ _ _ _ k _ hl (Rd.of_own ho3) (Nat.le_refl _)).mono ?_
    rintro e w4 ⟨A4, c4, rfl, ho4, hb4⟩
    have hb14 := hb13.trans (hb4.mono hb13.size)
    have ho3_4 := own_below ho3 hb4
    have ho2_4 := own_below ho2_3 hb4
    have hne : (laterOk l k != laterOk l k) = false := by simp
    have heq : decide (laterL l k = laterL l k) = true := by simp
    have heq' : decide (l = l) = true := by simp
    go_wp2_with fail
    refine (eqGateS_any _ _ _ _ _ _ _ _ _ _ _ hL (Rd.of_own ho4) (Nat.le_refl _) (Rd.of_own ho2_4) (Nat.le_refl _)).mono ?_
    rintro e w5 ⟨rfl, hb5⟩
    have hb15 := hb14.trans (hb5.mono hb14.size)
    have ho3_5 := own_below ho3_4 hb5
    have ho2_5 := own_below ho2_4 hb5
    have ho4_5 := own_below ho4 hb5
    go_wp2_with fail
    refine (toGateS_any _ _ _ _ _ _ hl (hr.below hb15 (Nat.le_refl _)) hb15.size).mono ?_
    rintro e w6 ⟨A6, c6, rfl, ho6, hb6⟩
    have hb16 := hb15.trans (hb6.mono hb15.size)
    go_wp2_with fail
    refine (eqGateS_any _ _ _ _ _ _ _ _ _ _ _ hl (Rd.of_own (own_below ho3_5 hb6)) (Nat.le_refl _) (Rd.of_own ho6) (Nat.le_refl _)).mono ?_
    rintro e w7 ⟨rfl, hb7⟩
    have hb17 := hb16.trans (hb7.mono hb16.size)
    have ho3_7 := own_below (own_below ho3_5 hb6) hb7
    have ho2_7 := own_below (own_below ho2_5 hb6) hb7
    have ho4_7 := own_below (own_below ho4_5 hb6) hb7
    go_wp2_with fail
    refine (markGateS_any _ _ _ _ 1 _ (by omega) (by omega) (by omega) ho3_7).mono ?_
    rintro e w8 ⟨rfl, ho3_8, hg8⟩
    have hb18 := below_grown hb17 hb17.size ho3_7 hb12.size hg8
    have ho4_8 := own_apart ho4_7 hg8 (fun k hk => (ho3.lt k hk).2)
    have ho2_8 := own_apart' ho2_7 ho3_7 hg8 (fun k hk => (ho2.lt k hk).2)
    go_wp2_with fail
    refine (eqGateS_any _ _ _ _ _ _ _ _ _ _ _ hL (Rd.of_own ho4_8) (Nat.le_refl _) (Rd.of_own ho2_8) (Nat.le_refl _)).mono ?_
    rintro e w9 ⟨rfl, hb9⟩
    have hb19 := hb18.trans (hb9.mono hb18.size)
    have ho4_9 := own_below ho4_8 hb9
    have ho2_9 := own_below ho2_8 hb9
    go_wp2_with fail
    refine (markGateS_any _ _ _ _ 1 _ (by omega) (by omega) (by omega) ho4_9).mono ?_
    rintro e w10 ⟨rfl, ho4_10, hg10⟩
    have hb110 := below_grown hb19 hb19.size ho4_9 (Nat.le_trans hb12.size hb3.size) hg10
    have ho2_10 := own_apart' ho2_9 ho4_9 hg10 (fun k hk => Nat.lt_of_lt_of_le (ho2.lt k hk).2 hb3.size)
    go_wp2_with fail
    refine (heldGateS_any _ _ _ _ _ 1 _ (by omega) (by omega) (by omega) (Rd.of_own ho4_10)).mono ?_
    rintro e w11 ⟨rfl, rfl⟩
    have hq : ((1 : Int) + 3 * ((laterL l k).length : Int) != 1 + 3 * ((laterL l k).length : Int)) = false := by simp
    go_wp2_with fail
    refine (toGateS_any _ _ _ _ _ _ hl (hr.below hb110 (Nat.le_refl _)) hb110.size).mono ?_
    rintro e w12 ⟨A12, c12, rfl, ho12, hb12'⟩
    have hb112 := hb110.trans (hb12'.mono hb110.size)
    go_wp2_with fail
    refine (iGatesLater _ _ _ _ _ k _ hl (Rd.of_own ho12) (Nat.le_refl _)).mono ?_
    rintro e w13 ⟨A13, c13, rfl, ho13, hb13'⟩
    have hb113 := hb112.trans (hb13'.mono hb112.size)
    have ho2_13 := own_below (own_below ho2_10 hb12') hb13'
    have ho4_13 := own_below (own_below ho4_10 hb12') hb13'
    go_wp2_with fail
    refine (eqGateS_any _ _ _ _ _ _ _ _ _ _ _ hL (Rd.of_own ho13) (Nat.le_refl _) (Rd.of_own ho2_13) (Nat.le_refl _)).mono ?_
    rintro e w14 ⟨rfl, hb14'⟩
    have hb114 := hb113.trans (hb14'.mono hb113.size)
    go_wp2_with fail
    refine (heldGateS_any _ _ _ _ _ 1 _ (by omega) (by omega) (by omega) (Rd.of_own (own_below ho4_13 hb14'))).mono ?_
    rintro e w15 ⟨rfl, rfl⟩
    go_wp2_with fail
    go_ret
    exact ⟨rfl, hb114⟩

set_option maxRecDepth 100000 in
theorem exactGatesLater_lifted (os : Os) (started : os.Started) (H : Type) (enc : TypeId × Value → H) :
    ReturnsInHanded {} Try.checked os 6 .any (Rows.fnExactGatesLaterSpec.pre6 enc Try.prog Try.f6 Rows.fnExactGatesLaterRow.domain false) (Rows.fnExactGatesLaterSpec.post enc Try.prog Try.f6 false true false false) := by
  refine returnsInHanded_of_change (C := Try.checked) prog_own started (by kernel_rfl) Try.func6
    (ChangeSpec.witness6 (enc := enc) (C := Try.checked) false ⟨#[], #[.slice none 0 0, .int .i64 0], []⟩ 8 (by kernel_rfl) (by kernel_rfl) (by kernel_rfl) (by kernel_rfl)) ?_
  intro W base args ds gs before hval0 hW hcnd _
  have hval : ∀ (j : Nat) t v, Try.f6.params[j]? = some t → args[j]? = some v → Value.okWide Try.prog W .any base t v := hval0
  have hW' := hW
  obtain ⟨p, q, hA0, hV, rfl, hfz, hnd⟩ := hW
  have hA : DataW.TrodAll enc Try.prog W 0 (fun _ => true) true Try.f6.params.toList args.toList ds p := hA0
  rw [Try.params6] at hA hval
  obtain ⟨v0, vs0, d0, ds0, p0, q0, hargs, rfl, rfl, h0, r0⟩ := trodAll_cons hA
  obtain ⟨v1, vs1, d1, ds1, p1, q1, rfl, rfl, rfl, h1, r1⟩ := trodAll_cons r0
  obtain ⟨rfl, rfl, rfl⟩ := trodAll_nil r1
  obtain rfl : args = #[v0, v1] := by cases args; simp_all
  obtain ⟨rfl, rfl⟩ := trodVars_none hV
  obtain ⟨a0, len0, cap0, rfl⟩ := okWide_slice Try.underlying22 (hval 0 22 v0 rfl rfl)
  have k0 := h0
  have lt0 : ∀ x ∈ p0, x.block < W.heap.size := by obtain ⟨m, hm⟩ := k0; exact DataW.trod_lt m _ _ _ hm
  obtain ⟨fuel0, hf0⟩ := h0
  obtain ⟨l0, rfl, hm0, hr0, hw0⟩ := open_s3 Try.underlying22 Try.underlying49 (by kernel_rfl) (by kernel_rfl) Try.underlying3 Try.underlying3 Try.underlying3 hf0
  obtain ⟨n1, rfl, rfl, rfl, w1⟩ := open_int Try.underlying3 (hval 1 3 v1 rfl rfl) h1
  clear hA0 hval0
  refine (exactGatesLater_any a0 cap0 l0 n1 W hm0 hr0 hw0 (in64_of_wf w1)).mono fun e W' ⟨he, bel⟩ => ?_
  subst he
  exact ⟨_, rfl, _, _, _, [], _, [], hW', trodAll_mk1 (shut_bool Try.underlying4 _), (trodAll_cons_mk (Below.trod prog_laidOut (by kernel_rfl) (of_decide_eq_true (by kernel_rfl)) k0 bel lt0) (trodAll_cons_mk (shut_int Try.underlying3 w1) trodAll_mk0)), rfl, bel.frame _, fun h => by cases h⟩

theorem exactGatesLater_holds : Rows.FnExactGatesLaterSaid :=
  OpenClaim.holds_of_wide 6 Try.f6 rfl rfl rfl rfl rfl rfl rfl ⟨rfl, rfl, rfl, rfl, rfl⟩ rfl rfl rfl rfl rfl (by kernel_rfl) Try.func6 (by kernel_rfl)
    (of_decide_eq_true (by kernel_rfl)) (by unfold Func.isWrapper; first | (rw [if_pos (by decide +kernel)]; kernel_rfl) | (rw [if_neg (by decide +kernel)]; exact ⟨rfl, rfl⟩))
    (fun os started H enc _ => exactGatesLater_lifted os started H enc)

end Go.Proofs.Ytgalkbnlpadpfaa

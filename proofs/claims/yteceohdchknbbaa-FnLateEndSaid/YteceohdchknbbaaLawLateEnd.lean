/-
  For every input the law FnLateEnd returns true: slacks take lateness away.
-/
import Derived.Test.YteceohdchknbbaaLateLaws
import Derived.Test.YteceohdchknbbaaLawFns
import Derived.Test.YteceohdchknbbaaLateArgs
import Derived.Test.YteceohdchknbbaaLate2
namespace Go.Proofs.Yteceohdchknbbaa
open Go.ChangeShapes Go.WideShapes Go.ChangeAt Go.RowKit

set_option maxRecDepth 100000 in
set_option maxHeartbeats 4000000 in
theorem lateEnd_any (A0 : Option Addr) (c0 n0 : Nat) (bs0 : Nat → Int) (w : World) (hm0 : n0 ≤ maxLen) (hb0 : Byt w w.heap.size A0 n0 bs0) (hc0 : n0 ≤ c0) :
    Calls Try.prog 11 #[.slice A0 n0 c0] w fun e w' => e = .returned (.bool true) ∧ Below w.heap.size w w' := by
  unfold maxLen at hm0
  by_cases hbig0 : (1048576 : Int) < n0
  · go_enter Try.func11, Try.ntmps11
    go_wp2_with fail
    go_ret
    exact ⟨rfl, Below.refl _ _⟩
  have hn0 : n0 ≤ 1048576 := by omega
  have hni0 : (n0 : Int) ≤ 1048576 := by omega
  clear hm0
  go_enter Try.func11, Try.ntmps11
  go_wp2_with fail
  refine (drawLateEnd_any A0 n0 c0 bs0 _ hb0 hn0 hc0).mono ?_
  rintro e w1 ⟨n, A, c, l, least, start, B, d, ds, rfl, hl, hd, o_l, r_d, hb⟩
  have hcap := own_cap o_l
  obtain ⟨v, hv⟩ : ∃ v, v = endV n l least start ds := ⟨_, rfl⟩
  have HV := Lib.hid hv
  clear hv
  go_wp2_with fail
  refine (iEnd_any n _ _ _ _ l least start _ _ _ _ ds _ (by omega) (Rd.of_own o_l) (Nat.le_refl _) (by omega) r_d (Nat.le_refl _) hcap).mono ?_
  rintro e w2 ⟨rfl, hs⟩
  replace o_l := own_below o_l hs
  replace r_d := (r_d.below hs (Nat.le_refl _)).more (Nat.le_refl _) hs.size
  replace hb := hb.trans (hs.mono hb.size)
  clear hs
  rw [← HV.out]
  go_wp2_with fail
  refine (sEnd_any n _ _ _ _ l least start _ _ _ _ ds _ (by omega) (Rd.of_own o_l) (Nat.le_refl _) (by omega) r_d (Nat.le_refl _)).mono ?_
  rintro e w3 ⟨rfl, hs⟩
  replace o_l := own_below o_l hs
  replace r_d := (r_d.below hs (Nat.le_refl _)).more (Nat.le_refl _) hs.size
  replace hb := hb.trans (hs.mono hb.size)
  clear hs
  rw [← HV.out]
  have hne : (v != v) = false := by simp
  have hee : (v == v) = true := by simp
  by_cases hneg : v < 0
  · have hd0 : decide (v < 0) = true := decide_eq_true hneg
    go_wp2_with fail
    go_ret
    exact ⟨rfl, by (repeat (first | exact Below.refl _ _ | assumption | apply below_alloc | apply below_drewN | apply Below.drew | refine Below.setCell ?_ (by simp; try omega) _))⟩
  have hd0 : decide (v < 0) = false := decide_eq_false hneg
  have hok := endV_ok (n := n) (l := l) (least := least) (start := start) (ds := ds) (by rw [← HV.out]; omega)
  obtain ⟨hm1, hm2, hm3, hm4⟩ := late_len hok
  have hso := Lib.hid (lateOk_and hok).1
  have hst := (lateOk_and hok).2.1
  have HDS := Lib.hid (lateOk_ds hok)
  obtain ⟨S, hS⟩ : ∃ S, S = slacks least l := ⟨_, rfl⟩
  have hSl : S.length = l.length := by rw [hS, slacks_length]
  have HSL := Lib.hid (show slackL n l least = S by rw [slackL, if_pos hso.out, hS])
  have HSM := Lib.hid (fun s hs => mem_slacks (least := least) hso.out s hs)
  have HSLN := Lib.hid hSl
  have hS0 : 0 < S.length := by omega
  have hS8 : S.length ≤ 8 := by omega
  clear hSl
  have hd0' : 0 < ds.length := by omega
  obtain ⟨e1, e2, e3, e4, e5⟩ := late_end_law hok hS HV.out hS0 hd0'
  have HS := Lib.hid hS
  clear hS hok hneg
  go_wp2_with fail
  refine (iSlack_any n _ _ _ _ l least _ (by omega) (Rd.of_own o_l) (Nat.le_refl _) hcap).mono ?_
  rintro e w4 ⟨P4, d4, rfl, o_s, hs⟩
  replace o_l := own_below o_l hs
  replace r_d := (r_d.below hs (Nat.le_refl _)).more (Nat.le_refl _) hs.size
  replace hb := hb.trans (hs.mono hb.size)
  clear hs
  rw [HSL.out] at o_s ⊢
  rw [hso.out]
  go_wp2_with fail
  refine (sumOf_any _ _ _ _ ds _ (by omega) r_d (fun x hx => by have := HDS.out x hx; omega)).mono ?_
  rintro e wq ⟨rfl, rfl⟩
  have RS := Lib.hid (Rd.of_own o_s)
  obtain ⟨bs, os, rfl, -, -, k0⟩ := (Rd.of_own o_s).at1 (S.length - 1) (by omega)
  obtain ⟨bd, od, rfl, -, -, k1⟩ := r_d.at1 (ds.length - 1) (by omega)
  have hx := HSM.out S[S.length - 1] (by rw [← HS.out]; exact List.getElem_mem _)
  have hy := HDS.out ds[ds.length - 1] (List.getElem_mem _)
  have hs1 := sumI_bd ds 300 (fun k hk => HDS.out _ (List.getElem_mem hk))
  have hs2 := sumI_bd S 10000 (fun k hk => HSM.out _ (by rw [← HS.out]; exact List.getElem_mem hk))
  generalize S[S.length - 1] = x at *
  generalize ds[ds.length - 1] = y at *
  generalize sumI ds = sd at *
  obtain ⟨sS, hsS⟩ : ∃ z, z = sumI S := ⟨_, rfl⟩
  rw [← hsS] at e2 e4 hs2
  have HSS := Lib.hid hsS
  clear hsS
  have hb1 : 0 ≤ sd ∧ sd ≤ 3000 := by omega
  have hb2 : 0 ≤ sS ∧ sS ≤ 100000 := by omega
  clear hs1 hs2
  obtain ⟨hb1, hb1'⟩ := hb1
  obtain ⟨hb2, hb2'⟩ := hb2
  obtain ⟨hx1, hx2⟩ := hx
  obtain ⟨hy1, hy2⟩ := hy
  obtain ⟨hst1, hst2⟩ := hst
  have hcast : ((S.length : Int) - 1).toNat = S.length - 1 := by omega
  have hcast2 : ((ds.length : Int) - 1).toNat = ds.length - 1 := by omega
  have i1 : 0 ≤ (S.length : Int) - 1 := by omega
  have i2 : 0 ≤ (ds.length : Int) - 1 := by omega
  have q1 : IntKind.i64.wrap ((S.length : Int) - 1) = (S.length : Int) - 1 := IntWalk.i64_in _ (by omega)
  have q2 : IntKind.i64.wrap (sS - x) = sS - x := IntWalk.i64_in _ (by omega)
  go_wp2_with fail
  go_quiet ((go_at_call 19; exact Calls.quiet_of_same (v := .int .i64 sS) ((sumOf_any _ _ _ _ S _ (by omega) (RS.out.drewN _) (fun x hx => by have := HSM.out x (by rw [← HS.out]; exact hx); omega)).mono fun _ _ ⟨h1, h2⟩ => ⟨by rw [HSS.out]; exact h1, h2.symm⟩)))
  clear q1 q2
  have t1 : decide (v ≤ start + sd) = true := decide_eq_true e1
  have t2 : decide (start + sd - (sS - x) ≤ v) = true := decide_eq_true e2
  have t3 : decide (y ≤ v) = true := decide_eq_true e3
  by_cases hbt : x < sS
  · have t4 : decide (x < sS) = true := decide_eq_true hbt
    go_wp2_with fail
    go_ret
    exact ⟨rfl, by (repeat (first | exact Below.refl _ _ | assumption | apply below_alloc | apply below_drewN | apply Below.drew | refine Below.setCell ?_ (by simp; try omega) _))⟩
  · have t4 : decide (x < sS) = false := decide_eq_false hbt
    have t5 : (v == start + sd) = true := by rw [beq_iff_eq]; omega
    go_wp2_with fail
    go_ret
    exact ⟨rfl, by (repeat (first | exact Below.refl _ _ | assumption | apply below_alloc | apply below_drewN | apply Below.drew | refine Below.setCell ?_ (by simp; try omega) _))⟩

set_option maxRecDepth 100000 in
theorem lateEnd_lifted (os : Os) (started : os.Started) (H : Type) (enc : TypeId × Value → H) :
    ReturnsInHanded {} Try.checked os 11 .any (Rows.fnLateEndSpec.pre6 enc Try.prog Try.f11 Rows.fnLateEndRow.domain false) (Rows.fnLateEndSpec.post enc Try.prog Try.f11 false true false false) := by
  refine returnsInHanded_of_change (C := Try.checked) prog_own started (by kernel_rfl) Try.func11
    (ChangeSpec.witness6 (enc := enc) (C := Try.checked) false ⟨#[], #[.slice none 0 0], []⟩ 8 (by kernel_rfl) (by kernel_rfl) (by kernel_rfl) (by kernel_rfl)) ?_
  intro W base args ds gs before hval0 hW hcnd _
  have hval : ∀ (j : Nat) t v, Try.f11.params[j]? = some t → args[j]? = some v → Value.okWide Try.prog W .any base t v := hval0
  have hW' := hW
  obtain ⟨p, q, hA0, hV, rfl, hfz, hnd⟩ := hW
  have hA : DataW.TrodAll enc Try.prog W 0 (fun _ => true) true Try.f11.params.toList args.toList ds p := hA0
  rw [Try.params11] at hA hval
  obtain ⟨v0, vs0, d0, ds0, p0, q0, hargs, rfl, rfl, h0, r0⟩ := trodAll_cons hA
  obtain ⟨rfl, rfl, rfl⟩ := trodAll_nil r0
  obtain rfl : args = #[v0] := by cases args; simp_all
  obtain ⟨rfl, rfl⟩ := trodVars_none hV
  obtain ⟨a0, len0, cap0, rfl⟩ := okWide_slice Try.underlying22 (hval 0 22 v0 rfl rfl)
  have k0 := h0
  have lt0 : ∀ x ∈ p0, x.block < W.heap.size := by obtain ⟨m, hm⟩ := k0; exact DataW.trod_lt m _ _ _ hm
  obtain ⟨fuel0, hf0⟩ := h0
  obtain ⟨bs0, hm0, hb0, hc0⟩ := open_b1 Try.underlying22 Try.underlying5 (by kernel_rfl) hf0
  clear hA0 hval0
  refine (lateEnd_any a0 cap0 len0 bs0 W hm0 hb0 hc0).mono fun e W' ⟨he, bel⟩ => ?_
  subst he
  exact ⟨_, rfl, _, _, _, [], _, [], hW', trodAll_mk1 (shut_bool Try.underlying4 _), (trodAll_cons_mk (Below.trod prog_laidOut (by kernel_rfl) (of_decide_eq_true (by kernel_rfl)) k0 bel lt0) trodAll_mk0), rfl, bel.frame _, fun h => by cases h⟩

theorem lateEnd_holds : Rows.FnLateEndSaid :=
  OpenClaim.holds_of_wide 11 Try.f11 rfl rfl rfl rfl rfl rfl rfl ⟨rfl, rfl, rfl, rfl, rfl⟩ rfl rfl rfl rfl rfl (by kernel_rfl) Try.func11 (by kernel_rfl)
    (of_decide_eq_true (by kernel_rfl)) (by unfold Func.isWrapper; first | (rw [if_pos (by decide +kernel)]; kernel_rfl) | (rw [if_neg (by decide +kernel)]; exact ⟨rfl, rfl⟩))
    (fun os started H enc _ => lateEnd_lifted os started H enc)

end Go.Proofs.Yteceohdchknbbaa

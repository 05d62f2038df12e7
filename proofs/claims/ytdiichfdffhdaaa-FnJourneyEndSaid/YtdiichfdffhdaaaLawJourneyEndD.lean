/-
  For every input the law FnJourneyEnd returns true: no journey ends earlier than the post.
-/
import Derived.Test.YtdiichfdffhdaaaWayLaws
import Derived.Test.YtdiichfdffhdaaaJourneyArgs
import Derived.Test.YtdiichfdffhdaaaJourneyE
import Derived.Test.YtdiichfdffhdaaaClass
namespace Go.Proofs.Ytdiichfdffhdaaa
open Go.ChangeShapes Go.WideShapes Go.ChangeAt Go.RowKit

theorem flat3_dropJ (l : List T3) (k : Nat) : flat3 (l.drop k) = (flat3 l).drop (k * 3) := by
  induction l generalizing k with
  | nil => simp [flat3]
  | cons g r ih =>
    cases k with
    | zero => simp
    | succ k =>
      have e : (k + 1) * 3 = k * 3 + 3 := by omega
      simp only [List.drop_succ_cons, ih, e, flat3]

set_option maxRecDepth 100000 in
set_option maxHeartbeats 4000000 in
theorem journeyEnd_any (A0 : Option Addr) (c0 n0 : Nat) (bs0 : Nat → Int) (w : World) (hm0 : n0 ≤ maxLen) (hb0 : Byt w w.heap.size A0 n0 bs0) (hc0 : n0 ≤ c0) :
    Calls Try.prog 3 #[.slice A0 n0 c0] w fun e w' => e = .returned (.bool true) ∧ Below w.heap.size w w' := by
  unfold maxLen at hm0
  by_cases hbig0 : (1048576 : Int) < n0
  · go_enter Try.func3, Try.ntmps3
    go_wp2_with fail
    go_ret
    exact ⟨rfl, Below.refl _ _⟩
  have hn0 : n0 ≤ 1048576 := by omega
  have hni0 : (n0 : Int) ≤ 1048576 := by omega
  clear hm0
  go_enter Try.func3, Try.ntmps3
  go_wp2_with fail
  refine (dJE_any A0 n0 c0 bs0 _ hb0 hn0 hc0).mono ?_
  rintro e w1 ⟨n, A, c, B, d, l, ch, net, rfl, hN1, hN2, hch, hll, hld, r_l, r_N, hb⟩
  obtain ⟨hch0, hch1⟩ := hch
  obtain ⟨T, hT⟩ : ∃ T, T = jendTown n net l ch := ⟨_, rfl⟩
  have HT := Lib.hid hT
  clear hT
  obtain ⟨M, hM⟩ : ∃ M, M = jendTime n net l ch := ⟨_, rfl⟩
  have HM := Lib.hid hM
  clear hM
  obtain ⟨K, hK⟩ : ∃ K, K = jendOk n net l ch := ⟨_, rfl⟩
  have HK := Lib.hid hK
  clear hK
  go_wp2_with fail
  refine (iJourneyEnd n _ _ _ _ net _ _ _ _ l ch _ (Nat.le_trans r_N.size (by omega)) r_N.2.2 (Nat.le_refl _) (by omega) r_l (Nat.le_refl _)).mono ?_
  rintro e w2 ⟨rfl, hs⟩
  replace r_l := (r_l.below hs (Nat.le_refl _)).more (Nat.le_refl _) hs.size
  replace r_N := r_N.below hs
  replace hb := hb.trans (hs.mono hb.size)
  clear hs
  rw [← HT.out, ← HM.out, ← HK.out]
  go_wp2_with fail
  refine (sJourneyEnd n _ _ _ _ net _ _ _ _ l ch _ (Nat.le_trans r_N.size (by omega)) r_N.2.2 (Nat.le_refl _) (by omega) r_l (Nat.le_refl _)).mono ?_
  rintro e w3 ⟨rfl, hs⟩
  replace r_l := (r_l.below hs (Nat.le_refl _)).more (Nat.le_refl _) hs.size
  replace r_N := r_N.below hs
  replace hb := hb.trans (hs.mono hb.size)
  clear hs
  rw [← HT.out, ← HM.out, ← HK.out]
  have tt : (T == T) = true := by simp
  have tn : (T != T) = false := by simp
  have mm : (M == M) = true := by simp
  have mn : (M != M) = false := by simp
  cases K
  · skip
    go_wp2_with fail
    go_ret
    exact ⟨rfl, by (repeat (first | exact Below.refl _ _ | assumption | apply below_alloc | apply below_drewN | apply Below.drew | refine Below.setCell ?_ (by simp; try omega) _))⟩
  have hK : jendOk n net l ch = true := HK.out.symm
  obtain ⟨hp, hr0, hq0, hq1⟩ := jend_post hK
  obtain ⟨e1, e2, e3⟩ := jend_last hK
  rw [← HT.out] at e2 hq0 hq1
  rw [← HM.out] at e3 hq1
  have hjb : journeyB n net l ch = true := by
    rcases jend_case n net l ch with e | ⟨_, h, _⟩
    · rw [hK] at e; cases e
    · exact h
  have HNB := Lib.hid (journey_and hjb).1
  have HE1 := Lib.hid e1
  have HE2 := Lib.hid e2
  have HE3 := Lib.hid e3
  clear hjb e1 e2 e3 hK tn mn
  obtain ⟨bb, ob, hPb, -, hbb', c0, c1, c2⟩ := r_l.at3 0 hp
  subst hPb
  simp only [Nat.zero_mul, Nat.add_zero] at c0 c1 c2
  have hp2 : (0 : Int) < (l.length : Int) := by omega
  obtain ⟨r, hr⟩ : ∃ r, r = l[0] := ⟨_, rfl⟩
  rw [← hr] at c0 c1 c2 hr0 hq0 hq1
  have HRR := Lib.hid hr
  obtain ⟨xc, xf, xt, x1, x2, x3, x4, x5, x8, sx1, -⟩ := ride_get HNB.out hr0
  obtain ⟨bn, on, Bx, ccx, hA, -, hbn, hx0, hxc, hxr⟩ := r_N.2.2 r.1.toNat xc
  subst hA
  obtain ⟨bx, ox, hBx, -, hbx, g0, g1, g2⟩ := hxr.at3 r.2.1.toNat xf
  subst hBx
  obtain ⟨mx, hmx⟩ : ∃ mx, mx = net[r.1.toNat].length := ⟨_, rfl⟩
  obtain ⟨sx, hsx⟩ : ∃ sx, sx = net[r.1.toNat][r.2.1.toNat] := ⟨_, rfl⟩
  rw [← hmx] at hx0 x5 x8 hxc
  rw [← hsx] at g0 g1 g2 sx1
  have HSX := Lib.hid (show fromOf net r = sx from sx1)
  have y1 : r.2.1 < (mx : Int) := by omega
  clear hr sx1 hmx hsx xf xt hxr xc c2
  go_wp2_with fail
  go_region_held3 (fun w' => w'.cell? ⟨bb, ob, none⟩ = some (.int .i64 r.1) ∧ w'.cell? ⟨bb, ob + 1, none⟩ = some (.int .i64 r.2.1) ∧ w'.cell? ⟨bn, on + r.1.toNat, none⟩ = some (.slice (some ⟨bx, ox, none⟩) mx ccx) ∧ w'.cell? ⟨bx, ox + r.2.1.toNat * 3, none⟩ = some (.int .i64 sx.1) ∧ w'.cell? ⟨bx, ox + r.2.1.toNat * 3 + 1, none⟩ = some (.int .i64 sx.2.1) ∧ w'.cell? ⟨bx, ox + r.2.1.toNat * 3 + 2, none⟩ = some (.int .i64 sx.2.2)) (simp (maxDischargeDepth := 8) [*, World.cell?_alloc_some, World.cell?_setCell_far]) (fail)
  go_wp2_with fail
  refine Calls.at_world ?_
  intro wF hwF
  have hbF : Below w3.heap.size w3 wF := by rw [hwF]; (repeat (first | exact Below.refl _ _ | assumption | apply below_alloc | apply below_drewN | apply Below.drew | refine Below.setCell ?_ (by simp; try omega) _))
  have cF0 : wF.cell? ⟨w3.heap.size, 0, none⟩ = some (.int .i64 sx.1) := by rw [hwF]; simp [go_sem]
  have cF2 : wF.cell? ⟨w3.heap.size, 2, none⟩ = some (.int .i64 sx.2.2) := by rw [hwF]; simp [go_sem]
  have hzF : w3.heap.size < wF.heap.size := by rw [hwF]; simp
  clear hwF g0 g1 g2 c0 c1 hx0
  rw [HSX.out] at hq0 hq1
  obtain ⟨X, hX⟩ : ∃ X, X = postArr n net sx.1 T sx.2.2 ch := ⟨_, rfl⟩
  rw [← hX] at hq0 hq1
  have HX := Lib.hid hX
  clear hX
  replace r_N := r_N.below hbF
  replace r_l := (r_l.below hbF (Nat.le_refl _)).more (Nat.le_refl _) hbF.size
  replace hb := hb.trans (hbF.mono hb.size)
  clear hbF
  refine (iPostArrive_any n _ _ _ net sx.1 T sx.2.2 ch _ (Nat.le_trans r_N.size (by omega)) r_N.2.2 (Nat.le_refl _)).mono ?_
  rintro e w5 ⟨rfl, hs⟩
  replace r_l := (r_l.below hs (Nat.le_refl _)).more (Nat.le_refl _) hs.size
  replace r_N := r_N.below hs
  replace hb := hb.trans (hs.mono hb.size)
  replace cF2 := (hs.cell (p := ⟨w3.heap.size, 2, none⟩) hzF).trans cF2
  replace hzF := Nat.lt_of_lt_of_le hzF hs.size
  clear hs cF0
  rw [← HX.out]
  have wl : IntKind.i64.wrap ((l.length : Int) - 1) = (l.length : Int) - 1 := IntWalk.i64_in _ (by omega)
  have ek : ((l.length : Int) - 1).toNat = l.length - 1 := by omega
  have k0 : (0 : Int) ≤ (l.length : Int) - 1 := by omega
  have k1 : (l.length : Int) - 1 ≤ (l.length : Int) := by omega
  have k2 : l.length - 1 ≤ l.length := by omega
  have hce : (d = l.length - 1) = False := by simp; omega
  have RC := r_l.cut (k := l.length - 1) (size := 3) (n := l.length) (cap := d) (by rw [flat3_length]) (by omega) hld
  rw [if_neg (by omega)] at RC
  have hml : l.length - (l.length - 1) = 1 := by omega
  have HRC := Lib.hid RC
  clear RC
  obtain ⟨q, hq⟩ : ∃ q, l.drop (l.length - 1) = [q] := List.length_eq_one_iff.1 (by rw [List.length_drop]; omega)
  rw [hq] at HE1 HE2 HE3
  have RQ : Rd w5 0 w5.heap.size (some ⟨bb, ob + (l.length - 1) * 3, none⟩) (flat3 [q]) := by
    have h := HRC.out
    rw [← flat3_dropJ, hq] at h
    simpa [Addr.add_lit] using h
  have HRQ := Lib.hid RQ
  clear RQ HRC hq hld
  go_wp2_with fail
  refine (iJourneyEnd n _ _ _ _ net _ _ _ _ [q] ch _ (Nat.le_trans r_N.size (by omega)) r_N.2.2 (Nat.le_refl _) (by simp) HRQ.out (Nat.le_refl _)).mono ?_
  rintro e wz ⟨rfl, hs⟩
  replace cF2 := (hs.cell (p := ⟨w3.heap.size, 2, none⟩) hzF).trans cF2
  have hbb := hb.trans (hs.mono hb.size)
  clear hs
  rw [HE1.out, HE2.out, HE3.out]
  by_cases hmx : M < sx.2.2
  · have hx2 : X ≤ sx.2.2 := by omega
    have hd1 : decide (X ≤ sx.2.2) = true := decide_eq_true hx2
    have hd0 : decide (0 ≤ X) = true := decide_eq_true hq0
    go_wp2_with fail
    go_ret
    exact ⟨rfl, hbb⟩
  · have hmx2 : sx.2.2 ≤ M := by omega
    have hd1 : decide (X ≤ M) = true := decide_eq_true hq1
    have hd0 : decide (0 ≤ X) = true := decide_eq_true hq0
    go_wp2_with fail
    go_ret
    exact ⟨rfl, hbb⟩

set_option maxRecDepth 100000 in
theorem journeyEnd_lifted (os : Os) (started : os.Started) (H : Type) (enc : TypeId × Value → H) :
    ReturnsInHanded {} Try.checked os 3 .any (Rows.fnJourneyEndSpec.pre6 enc Try.prog Try.f3 Rows.fnJourneyEndRow.domain false) (Rows.fnJourneyEndSpec.post enc Try.prog Try.f3 false true false false) := by
  refine returnsInHanded_of_change (C := Try.checked) prog_own started (by kernel_rfl) Try.func3
    (ChangeSpec.witness6 (enc := enc) (C := Try.checked) false ⟨#[], #[.slice none 0 0], []⟩ 8 (by kernel_rfl) (by kernel_rfl) (by kernel_rfl) (by kernel_rfl)) ?_
  intro W base args ds gs before hval0 hW hcnd _
  have hval : ∀ (j : Nat) t v, Try.f3.params[j]? = some t → args[j]? = some v → Value.okWide Try.prog W .any base t v := hval0
  have hW' := hW
  obtain ⟨p, q, hA0, hV, rfl, hfz, hnd⟩ := hW
  have hA : DataW.TrodAll enc Try.prog W 0 (fun _ => true) true Try.f3.params.toList args.toList ds p := hA0
  rw [Try.params3] at hA hval
  obtain ⟨v0, vs0, d0, ds0, p0, q0, hargs, rfl, rfl, h0, r0⟩ := trodAll_cons hA
  obtain ⟨rfl, rfl, rfl⟩ := trodAll_nil r0
  obtain rfl : args = #[v0] := by cases args; simp_all
  obtain ⟨rfl, rfl⟩ := trodVars_none hV
  obtain ⟨a0, len0, cap0, rfl⟩ := okWide_slice Try.underlying22 (hval 0 22 v0 rfl rfl)
  have k0 := h0
  have lt0 : ∀ x ∈ p0, x.block < W.heap.size := by obtain ⟨m, hm⟩ := k0; exact DataW.trod_lt m _ _ _ hm
  obtain ⟨fuel0, hf0⟩ := h0
  obtain ⟨bs0, hm0, hb0, hc0⟩ := open_b1 Try.underlying22 Try.underlying5 (by kernel_rfl) hf0
  clear hA0 hval0
  refine (journeyEnd_any a0 cap0 len0 bs0 W hm0 hb0 hc0).mono fun e W' ⟨he, bel⟩ => ?_
  subst he
  exact ⟨_, rfl, _, _, _, [], _, [], hW', trodAll_mk1 (shut_bool Try.underlying4 _), (trodAll_cons_mk (Below.trod prog_laidOut (by kernel_rfl) (of_decide_eq_true (by kernel_rfl)) k0 bel lt0) trodAll_mk0), rfl, bel.frame _, fun h => by cases h⟩

theorem journeyEnd_holds : Rows.FnJourneyEndSaid :=
  OpenClaim.holds_of_wide 3 Try.f3 rfl rfl rfl rfl rfl rfl rfl ⟨rfl, rfl, rfl, rfl, rfl⟩ rfl rfl rfl rfl rfl (by kernel_rfl) Try.func3 (by kernel_rfl)
    (of_decide_eq_true (by kernel_rfl)) (by unfold Func.isWrapper; first | (rw [if_pos (by decide +kernel)]; kernel_rfl) | (rw [if_neg (by decide +kernel)]; exact ⟨rfl, rfl⟩))
    (fun os started H enc _ => journeyEnd_lifted os started H enc)

end Go.Proofs.Ytdiichfdffhdaaa

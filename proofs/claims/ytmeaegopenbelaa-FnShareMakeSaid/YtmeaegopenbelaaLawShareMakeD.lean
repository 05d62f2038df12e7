/-
  For every input the law FnShareMake returns true: shares are the amount.
-/
import Derived.Test.YtmeaegopenbelaaShareLaws
import Derived.Test.YtmeaegopenbelaaPartsArgs
import Derived.Test.YtmeaegopenbelaaDueI
import Derived.Test.YtmeaegopenbelaaLawFns
import Derived.Test.YtmeaegopenbelaaInts
namespace Go.Proofs.Ytmeaegopenbelaa
open Go.ChangeShapes Go.WideShapes Go.ChangeAt Go.RowKit

set_option maxRecDepth 100000 in
set_option maxHeartbeats 4000000 in
theorem shareMake_any (A0 : Option Addr) (c0 n0 : Nat) (bs0 : Nat → Int) (w : World) (hm0 : n0 ≤ maxLen) (hb0 : Byt w w.heap.size A0 n0 bs0) (hc0 : n0 ≤ c0) :
    Calls Try.prog 4 #[.slice A0 n0 c0] w fun e w' => e = .returned (.bool true) ∧ Below w.heap.size w w' := by
  unfold maxLen at hm0
  by_cases hbig0 : (1048576 : Int) < n0
  · go_enter Try.func4, Try.ntmps4
    go_wp2_with fail
    go_ret
    exact ⟨rfl, Below.refl _ _⟩
  have hn0 : n0 ≤ 1048576 := by omega
  have hni0 : (n0 : Int) ≤ 1048576 := by omega
  clear hm0
  go_enter Try.func4, Try.ntmps4
  go_wp2_with fail
  refine (dMake_any A0 n0 c0 bs0 _ hb0 hn0 hc0).mono ?_
  rintro e w1 ⟨A, c, ps, am, rfl, hl6, r_ps, ham, hb⟩
  obtain ⟨a, ha⟩ : ∃ a, makeV ps am = a := ⟨_, rfl⟩
  have HA := Lib.hid ha
  have hal : a.length ≤ 6 := by rw [← ha]; exact makeV_len ps am
  clear ha
  cases hok : makeOk ps am
  · have HOK := Lib.hid hok
    clear hok
    go_wp2_with fail
    refine (iShareMake_any _ _ _ _ ps am _ (by omega) r_ps (Nat.le_refl _)).mono ?_
    rintro e w2 ⟨P2, d2, rfl, o_a, hs⟩
    replace r_ps := (r_ps.below hs (Nat.le_refl _)).more (Nat.le_refl _) hs.size
    replace hb := hb.trans (hs.mono hb.size)
    clear hs
    rw [HA.out] at o_a ⊢
    rw [HOK.out]
    go_wp2_with fail
    refine (sShareMake_any _ _ _ _ ps am _ (by omega) r_ps (Nat.le_refl _)).mono ?_
    rintro e w3 ⟨P3, d3, rfl, o_a2, hs⟩
    replace r_ps := (r_ps.below hs (Nat.le_refl _)).more (Nat.le_refl _) hs.size
    replace o_a := own_below o_a hs
    replace hb := hb.trans (hs.mono hb.size)
    clear hs
    rw [HA.out] at o_a2 ⊢
    rw [HOK.out]
    go_wp2_with fail
    refine (sameInts_any _ _ _ _ _ _ _ _ a a _ (by omega) (Rd.of_own o_a) (Rd.of_own o_a2)).mono ?_
    rintro e w4 ⟨rfl, hs⟩
    replace r_ps := (r_ps.below hs (Nat.le_refl _)).more (Nat.le_refl _) hs.size
    replace o_a := own_below o_a hs
    replace o_a2 := own_below o_a2 hs
    replace hb := hb.trans (hs.mono hb.size)
    clear hs
    rw [show decide (a = a) = true from decide_eq_true rfl]
    go_wp2_with fail
    refine (sameInts_any _ _ _ _ _ _ _ _ a a _ (by omega) (Rd.of_own o_a) (Rd.of_own o_a2)).mono ?_
    rintro e w5 ⟨rfl, hs⟩
    replace r_ps := (r_ps.below hs (Nat.le_refl _)).more (Nat.le_refl _) hs.size
    replace o_a := own_below o_a hs
    replace o_a2 := own_below o_a2 hs
    replace hb := hb.trans (hs.mono hb.size)
    clear hs
    rw [show decide (a = a) = true from decide_eq_true rfl]
    go_wp2_with fail
    go_ret
    exact ⟨rfl, by (repeat (first | exact Below.refl _ _ | assumption | apply below_alloc | apply below_drewN | apply Below.drew | refine Below.setCell ?_ (by simp; try omega) _))⟩
  have HOK := Lib.hid hok
  clear hok
  go_wp2_with fail
  refine (iShareMake_any _ _ _ _ ps am _ (by omega) r_ps (Nat.le_refl _)).mono ?_
  rintro e w2 ⟨P2, d2, rfl, o_a, hs⟩
  replace r_ps := (r_ps.below hs (Nat.le_refl _)).more (Nat.le_refl _) hs.size
  replace hb := hb.trans (hs.mono hb.size)
  clear hs
  rw [HA.out] at o_a ⊢
  rw [HOK.out]
  go_wp2_with fail
  refine (sShareMake_any _ _ _ _ ps am _ (by omega) r_ps (Nat.le_refl _)).mono ?_
  rintro e w3 ⟨P3, d3, rfl, o_a2, hs⟩
  replace r_ps := (r_ps.below hs (Nat.le_refl _)).more (Nat.le_refl _) hs.size
  replace o_a := own_below o_a hs
  replace hb := hb.trans (hs.mono hb.size)
  clear hs
  rw [HA.out] at o_a2 ⊢
  rw [HOK.out]
  go_wp2_with fail
  refine (sameInts_any _ _ _ _ _ _ _ _ a a _ (by omega) (Rd.of_own o_a) (Rd.of_own o_a2)).mono ?_
  rintro e w4 ⟨rfl, hs⟩
  replace r_ps := (r_ps.below hs (Nat.le_refl _)).more (Nat.le_refl _) hs.size
  replace o_a := own_below o_a hs
  replace o_a2 := own_below o_a2 hs
  replace hb := hb.trans (hs.mono hb.size)
  clear hs
  rw [show decide (a = a) = true from decide_eq_true rfl]
  clear o_a2
  obtain ⟨p1, ⟨am0, am1⟩, p3, p4, p5, p6, p7, p8, p9, p10, p11, p12, p13⟩ := make_law HOK.out
  obtain ⟨M, hM⟩ : ∃ M, M = cntL (ownersL ps) := ⟨_, rfl⟩
  rw [← hM] at p4 p5 p6 p7 p13
  rw [HA.out] at p5 p10 p11 p12
  obtain ⟨N, hN⟩ : ∃ N : Int, N = ((ownersL ps).length : Nat) := ⟨_, rfl⟩
  rw [← hN] at p3 p7
  have hN1 : 1 ≤ N := by omega
  have hN2 : N ≤ 1188 := by omega
  have hML : M.length = 6 := by rw [hM]; exact cntL_len _
  obtain ⟨D, hD⟩ : ∃ D, D = M.map (fun x => x * am) := ⟨_, rfl⟩
  have hDL : D.length = 6 := by rw [hD, List.length_map, hML]
  have HDU := Lib.hid (show dueV ps am = D by unfold dueV; rw [HOK.out, hD, hM]; rfl)
  have HLAW := Lib.hid (show ∀ k : Nat, k < 6 → D.getD k 0 = M.getD k 0 * am ∧ (0 ≤ M.getD k 0 ∧ M.getD k 0 ≤ 1188) ∧ (0 ≤ a.getD k 0 ∧ a.getD k 0 ≤ 1000000) ∧ 0 - N < a.getD k 0 * N - M.getD k 0 * am ∧ a.getD k 0 * N - M.getD k 0 * am < N ∧ (M.getD k 0 = 0 → a.getD k 0 = 0) from fun k hk => by
    have hd := share_due (m := M) (a := am) p6 (i := k) (by omega)
    rw [← p5, p7, Int.mul_comm am] at hd
    have e1 : M.getD k 0 ∈ M := by rw [List.getD_eq_getElem?_getD, List.getElem?_eq_getElem (by omega)]; exact List.getElem_mem _
    have e2 : a.getD k 0 ∈ a := by rw [List.getD_eq_getElem?_getD, List.getElem?_eq_getElem (by omega)]; exact List.getElem_mem _
    refine ⟨?_, p13 _ e1, p11 _ e2, hd⟩
    rw [hD, List.getD_eq_getElem?_getD, List.getD_eq_getElem?_getD, List.getElem?_map, List.getElem?_eq_getElem (by omega)]; rfl)
  have HP1 := Lib.hid p1
  have HP3 := Lib.hid p3
  have HP4 := Lib.hid p4
  have HP10 := Lib.hid p10
  have HP11 := Lib.hid p11
  have HP12 := Lib.hid p12
  have HML := Lib.hid hML
  have HDL := Lib.hid hDL
  have ha6 : 6 ≤ a.length := by omega
  have hD6 : D.length ≤ 6 := by omega
  have hD6g : 6 ≤ D.length := by omega
  have hM6 : M.length ≤ 6 := by omega
  have hM6g : 6 ≤ M.length := by omega
  have NQ : ((D.length : Int) != (a.length : Int)) = false := by rw [bne_eq_false_iff_eq]; omega
  clear p1 p3 p4 p5 p6 p7 p8 p9 p10 p11 p12 p13 hM hN hML hD hDL
  go_wp2_with fail
  refine (iShareDue_any _ _ _ _ ps am _ (by omega) r_ps (Nat.le_refl _)).mono ?_
  rintro e w5 ⟨P5, d5, rfl, o_d, hs⟩
  replace r_ps := (r_ps.below hs (Nat.le_refl _)).more (Nat.le_refl _) hs.size
  replace o_a := own_below o_a hs
  replace hb := hb.trans (hs.mono hb.size)
  clear hs
  rw [HDU.out] at o_d ⊢
  rw [HOK.out]
  go_wp2_with fail
  refine (iPartsMiles_any _ _ _ _ ps _ (by omega) r_ps (Nat.le_refl _)).mono ?_
  rintro e w6 ⟨P6, d6, rfl, o_m, hs⟩
  replace r_ps := (r_ps.below hs (Nat.le_refl _)).more (Nat.le_refl _) hs.size
  replace o_a := own_below o_a hs
  replace o_d := own_below o_d hs
  replace hb := hb.trans (hs.mono hb.size)
  clear hs
  rw [HP4.out] at o_m ⊢
  rw [HP1.out]
  go_wp2_with fail
  refine (iPartsLength_any _ _ _ _ ps _ (by omega) r_ps (Nat.le_refl _)).mono ?_
  rintro e w7 ⟨rfl, hs⟩
  replace r_ps := (r_ps.below hs (Nat.le_refl _)).more (Nat.le_refl _) hs.size
  replace o_a := own_below o_a hs
  replace o_d := own_below o_d hs
  replace o_m := own_below o_m hs
  replace hb := hb.trans (hs.mono hb.size)
  clear hs
  rw [HP3.out]
  have hsum := Lib.hid (fun W (hW : Rd W w1.heap.size w7.heap.size P2 (ints a)) => sumOf_any P2 d2 w1.heap.size w7.heap.size a W (by omega) hW (fun x hx => by have := HP11.out x hx; omega))
  have HRA := Lib.hid (Rd.of_own o_a)
  obtain ⟨ba, oa, rfl, ca⟩ := (Rd.of_own o_a).all1 (by omega)
  obtain ⟨bd, od, rfl, cd⟩ := (Rd.of_own o_d).all1 (by omega)
  obtain ⟨bm, om, rfl, cm⟩ := (Rd.of_own o_m).all1 (by omega)
  have CA := Lib.hid ca
  have CD := Lib.hid cd
  have CM := Lib.hid cm
  clear ca cd cm o_a o_d o_m r_ps
  go_wp2_with fail
  go_loopw [14] (fun i wr => ∃ (k q : Nat), k ≤ 6 ∧ i = .int .i64 k ∧ wr = w7.drewN q) (fun i _ => 6 - (intOf i).toNat)
  case atStart => exact ⟨0, 0, by omega, rfl, rfl⟩
  case round =>
    obtain ⟨k, q, hk, rfl, rfl⟩ := hrel
    by_cases hk6 : k < 6
    · have hka : (k : Int) < (a.length : Int) := by omega
      have hkd : (k : Int) < (D.length : Int) := by omega
      have hkm : (k : Int) < (M.length : Int) := by omega
      have hk0 : (0 : Int) ≤ (k : Int) := by omega
      have a1 := CA.out k (by omega)
      have d1 := CD.out k (by omega)
      have m1 := CM.out k (by omega)
      obtain ⟨e0, ⟨m0, m2⟩, ⟨x0, x1⟩, e1, e2, e3⟩ := HLAW.out k hk6
      generalize a.getD k 0 = x at *
      generalize D.getD k 0 = y at *
      generalize M.getD k 0 = z at *
      subst e0
      obtain ⟨u, hu⟩ : ∃ u, u = x * N := ⟨_, rfl⟩
      obtain ⟨v, hv⟩ : ∃ v, v = z * am := ⟨_, rfl⟩
      have hu0 : 0 ≤ u ∧ u ≤ 1188000000 := by
        rw [hu]
        refine ⟨Int.mul_nonneg x0 (by omega), ?_⟩
        have : x * N ≤ 1000000 * 1188 := Int.mul_le_mul x1 hN2 (by omega) (by omega)
        omega
      have hv0 : 0 ≤ v ∧ v ≤ 1188000000 := by
        rw [hv]
        refine ⟨Int.mul_nonneg m0 am0, ?_⟩
        have : z * am ≤ 1188 * 1000000 := Int.mul_le_mul m2 am1 am0 (by omega)
        omega
      rw [← hv] at d1
      rw [← hu, ← hv] at e1 e2
      have wu : IntKind.i64.wrap (x * N) = u := by rw [← hu]; exact IntWalk.i64_in _ (by omega)
      have wd : IntKind.i64.wrap (u - v) = u - v := IntWalk.i64_in _ (by omega)
      have wn : IntKind.i64.wrap (0 - N) = 0 - N := IntWalk.i64_in _ (by omega)
      have wn2 : IntKind.i64.wrap (-N) = -N := IntWalk.i64_in _ (by omega)
      have t1 : decide (u - v ≤ 0 - N) = false := decide_eq_false (by omega)
      have t2 : decide (u - v ≤ -N) = false := decide_eq_false (by omega)
      have t3 : decide (N ≤ u - v) = false := decide_eq_false (by omega)
      clear hu hv hu0 hv0 e1 e2 x0 x1
      by_cases hz : z = 0
      · have tz : (z == 0) = true := by simp [hz]
        have tx : (x != 0) = false := by rw [bne_eq_false_iff_eq]; exact e3 hz
        clear hz e3
        go_wp2_with fail
        go_quiet (fail)
        go_wp2_with fail
        go_roundw
        case rel => exact ⟨k + 1, _, by omega, by go_num, rfl⟩
        case measure => simp [intOf]; omega
      · have tz : (z == 0) = false := by simp [hz]
        clear hz e3
        go_wp2_with fail
        go_quiet (fail)
        go_wp2_with fail
        go_roundw
        case rel => exact ⟨k + 1, _, by omega, by go_num, rfl⟩
        case measure => simp [intOf]; omega
    · have hka : ¬ (k : Int) < (a.length : Int) := by omega
      have tt : (am == am) = true := by simp
      have hbb : Below w.heap.size w (w7.drewN q) := below_drewN hb q
      go_wp2_with fail
      refine (hsum.out _ (HRA.out.below (below_drewN (Below.refl _ _) q) (Nat.le_refl _))).mono ?_
      rintro e wq ⟨rfl, rfl⟩
      rw [HP12.out]
      go_wp2_with fail
      go_ret
      exact ⟨rfl, hbb⟩

set_option maxRecDepth 100000 in
theorem shareMake_lifted (os : Os) (started : os.Started) (H : Type) (enc : TypeId × Value → H) :
    ReturnsInHanded {} Try.checked os 4 .any (Rows.fnShareMakeSpec.pre6 enc Try.prog Try.f4 Rows.fnShareMakeRow.domain false) (Rows.fnShareMakeSpec.post enc Try.prog Try.f4 false true false false) := by
  refine returnsInHanded_of_change (C := Try.checked) prog_own started (by kernel_rfl) Try.func4
    (ChangeSpec.witness6 (enc := enc) (C := Try.checked) false ⟨#[], #[.slice none 0 0], []⟩ 8 (by kernel_rfl) (by kernel_rfl) (by kernel_rfl) (by kernel_rfl)) ?_
  intro W base args ds gs before hval0 hW hcnd _
  have hval : ∀ (j : Nat) t v, Try.f4.params[j]? = some t → args[j]? = some v → Value.okWide Try.prog W .any base t v := hval0
  have hW' := hW
  obtain ⟨p, q, hA0, hV, rfl, hfz, hnd⟩ := hW
  have hA : DataW.TrodAll enc Try.prog W 0 (fun _ => true) true Try.f4.params.toList args.toList ds p := hA0
  rw [Try.params4] at hA hval
  obtain ⟨v0, vs0, d0, ds0, p0, q0, hargs, rfl, rfl, h0, r0⟩ := trodAll_cons hA
  obtain ⟨rfl, rfl, rfl⟩ := trodAll_nil r0
  obtain rfl : args = #[v0] := by cases args; simp_all
  obtain ⟨rfl, rfl⟩ := trodVars_none hV
  obtain ⟨a0, len0, cap0, rfl⟩ := okWide_slice Try.underlying22 (hval 0 22 v0 rfl rfl)
  have k0 := h0
  have lt0 : ∀ x ∈ p0, x.block < W.heap.size := by obtain ⟨m, hm⟩ := k0; exact DataW.trod_lt m _ _ _ hm
  obtain ⟨fuel0, hf0⟩ := h0
  obtain ⟨bs0, hm0, hb0, hc0⟩ := open_b1 Try.underlying22 Try.underlying5 (by kernel_rfl) hf0
  clear hA0 hval0
  refine (shareMake_any a0 cap0 len0 bs0 W hm0 hb0 hc0).mono fun e W' ⟨he, bel⟩ => ?_
  subst he
  exact ⟨_, rfl, _, _, _, [], _, [], hW', trodAll_mk1 (shut_bool Try.underlying4 _), (trodAll_cons_mk (Below.trod prog_laidOut (by kernel_rfl) (of_decide_eq_true (by kernel_rfl)) k0 bel lt0) trodAll_mk0), rfl, bel.frame _, fun h => by cases h⟩

theorem shareMake_holds : Rows.FnShareMakeSaid :=
  OpenClaim.holds_of_wide 4 Try.f4 rfl rfl rfl rfl rfl rfl rfl ⟨rfl, rfl, rfl, rfl, rfl⟩ rfl rfl rfl rfl rfl (by kernel_rfl) Try.func4 (by kernel_rfl)
    (of_decide_eq_true (by kernel_rfl)) (by unfold Func.isWrapper; first | (rw [if_pos (by decide +kernel)]; kernel_rfl) | (rw [if_neg (by decide +kernel)]; exact ⟨rfl, rfl⟩))
    (fun os started H enc _ => shareMake_lifted os started H enc)

end Go.Proofs.Ytmeaegopenbelaa

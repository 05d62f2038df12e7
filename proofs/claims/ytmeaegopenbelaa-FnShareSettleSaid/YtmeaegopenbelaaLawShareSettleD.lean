/-
  For every input the law FnShareSettle returns true: settlements are nothing together.
-/
import Derived.Test.YtmeaegopenbelaaShareLaws
import Derived.Test.YtmeaegopenbelaaSettleArgs
import Derived.Test.YtmeaegopenbelaaSettleI
import Derived.Test.YtmeaegopenbelaaLawFns
import Derived.Test.YtmeaegopenbelaaInts
namespace Go.Proofs.Ytmeaegopenbelaa
open Go.ChangeShapes Go.WideShapes Go.ChangeAt Go.RowKit

set_option maxRecDepth 100000 in
set_option maxHeartbeats 4000000 in
theorem shareSettle_any (A0 : Option Addr) (c0 n0 : Nat) (bs0 : Nat → Int) (w : World) (hm0 : n0 ≤ maxLen) (hb0 : Byt w w.heap.size A0 n0 bs0) (hc0 : n0 ≤ c0) :
    Calls Try.prog 7 #[.slice A0 n0 c0] w fun e w' => e = .returned (.bool true) ∧ Below w.heap.size w w' := by
  unfold maxLen at hm0
  by_cases hbig0 : (1048576 : Int) < n0
  · go_enter Try.func7, Try.ntmps7
    go_wp2_with fail
    go_ret
    exact ⟨rfl, Below.refl _ _⟩
  have hn0 : n0 ≤ 1048576 := by omega
  have hni0 : (n0 : Int) ≤ 1048576 := by omega
  clear hm0
  go_enter Try.func7, Try.ntmps7
  go_wp2_with fail
  refine (dSettle_any A0 n0 c0 bs0 _ hb0 hn0 hc0).mono ?_
  rintro e w1 ⟨A, c, ps, B, d, tk, rfl, hl6, r_ps, ht6, r_tk, hb⟩
  obtain ⟨a, ha⟩ : ∃ a, settleV ps tk = a := ⟨_, rfl⟩
  have HA := Lib.hid ha
  have hal : a.length ≤ 6 := by rw [← ha]; exact settleV_len ps tk
  clear ha
  cases hok : settleOk ps tk
  · have HOK := Lib.hid hok
    clear hok
    go_wp2_with fail
    refine (iSettle_any _ _ _ _ ps _ _ _ _ tk _ (by omega) r_ps (Nat.le_refl _) (by omega) r_tk (Nat.le_refl _)).mono ?_
    rintro e w2 ⟨P2, d2, rfl, o_a, hs⟩
    replace r_ps := (r_ps.below hs (Nat.le_refl _)).more (Nat.le_refl _) hs.size
    replace r_tk := (r_tk.below hs (Nat.le_refl _)).more (Nat.le_refl _) hs.size
    replace hb := hb.trans (hs.mono hb.size)
    clear hs
    rw [HA.out] at o_a ⊢
    rw [HOK.out]
    go_wp2_with fail
    refine (sSettle_any _ _ _ _ ps _ _ _ _ tk _ (by omega) r_ps (Nat.le_refl _) (by omega) r_tk (Nat.le_refl _)).mono ?_
    rintro e w3 ⟨P3, d3, rfl, o_a2, hs⟩
    replace r_ps := (r_ps.below hs (Nat.le_refl _)).more (Nat.le_refl _) hs.size
    replace r_tk := (r_tk.below hs (Nat.le_refl _)).more (Nat.le_refl _) hs.size
    replace o_a := own_below o_a hs
    replace hb := hb.trans (hs.mono hb.size)
    clear hs
    rw [HA.out] at o_a2 ⊢
    rw [HOK.out]
    go_wp2_with fail
    refine (sameInts_any _ _ _ _ _ _ _ _ a a _ (by omega) (Rd.of_own o_a) (Rd.of_own o_a2)).mono ?_
    rintro e w4 ⟨rfl, hs⟩
    replace r_ps := (r_ps.below hs (Nat.le_refl _)).more (Nat.le_refl _) hs.size
    replace r_tk := (r_tk.below hs (Nat.le_refl _)).more (Nat.le_refl _) hs.size
    replace o_a := own_below o_a hs
    replace o_a2 := own_below o_a2 hs
    replace hb := hb.trans (hs.mono hb.size)
    clear hs
    rw [show decide (a = a) = true from decide_eq_true rfl]
    go_wp2_with fail
    refine (sameInts_any _ _ _ _ _ _ _ _ a a _ (by omega) (Rd.of_own o_a) (Rd.of_own o_a2)).mono ?_
    rintro e w5 ⟨rfl, hs⟩
    replace r_ps := (r_ps.below hs (Nat.le_refl _)).more (Nat.le_refl _) hs.size
    replace r_tk := (r_tk.below hs (Nat.le_refl _)).more (Nat.le_refl _) hs.size
    replace o_a := own_below o_a hs
    replace o_a2 := own_below o_a2 hs
    replace hb := hb.trans (hs.mono hb.size)
    clear hs
    rw [show decide (a = a) = true from decide_eq_true rfl]
    go_wp2_with fail
    go_ret
    exact ⟨rfl, by (repeat (first | exact Below.refl _ _ | assumption | apply below_alloc | apply below_drewN | apply Below.drew | refine Below.setCell ?_ (by simp; try omega) _))⟩
  have HOK := Lib.hid hok
  clear hok
  go_wp2_with fail
  refine (iSettle_any _ _ _ _ ps _ _ _ _ tk _ (by omega) r_ps (Nat.le_refl _) (by omega) r_tk (Nat.le_refl _)).mono ?_
  rintro e w2 ⟨P2, d2, rfl, o_a, hs⟩
  replace r_ps := (r_ps.below hs (Nat.le_refl _)).more (Nat.le_refl _) hs.size
  replace r_tk := (r_tk.below hs (Nat.le_refl _)).more (Nat.le_refl _) hs.size
  replace hb := hb.trans (hs.mono hb.size)
  clear hs
  rw [HA.out] at o_a ⊢
  rw [HOK.out]
  go_wp2_with fail
  refine (sSettle_any _ _ _ _ ps _ _ _ _ tk _ (by omega) r_ps (Nat.le_refl _) (by omega) r_tk (Nat.le_refl _)).mono ?_
  rintro e w3 ⟨P3, d3, rfl, o_a2, hs⟩
  replace r_ps := (r_ps.below hs (Nat.le_refl _)).more (Nat.le_refl _) hs.size
  replace r_tk := (r_tk.below hs (Nat.le_refl _)).more (Nat.le_refl _) hs.size
  replace o_a := own_below o_a hs
  replace hb := hb.trans (hs.mono hb.size)
  clear hs
  rw [HA.out] at o_a2 ⊢
  rw [HOK.out]
  go_wp2_with fail
  refine (sameInts_any _ _ _ _ _ _ _ _ a a _ (by omega) (Rd.of_own o_a) (Rd.of_own o_a2)).mono ?_
  rintro e w4 ⟨rfl, hs⟩
  replace r_ps := (r_ps.below hs (Nat.le_refl _)).more (Nat.le_refl _) hs.size
  replace r_tk := (r_tk.below hs (Nat.le_refl _)).more (Nat.le_refl _) hs.size
  replace o_a := own_below o_a hs
  replace o_a2 := own_below o_a2 hs
  replace hb := hb.trans (hs.mono hb.size)
  clear hs
  rw [show decide (a = a) = true from decide_eq_true rfl]
  clear o_a2
  obtain ⟨p1, p2, p3, p4, p5, p6, p7, p8, p9, p10, p11⟩ := settle_law HOK.out
  rw [HA.out] at p3 p5 p9 p11
  obtain ⟨S, hS⟩ : ∃ S, S = sumI tk := ⟨_, rfl⟩
  rw [← hS] at p1 p4 p5 p6 p7 p8
  obtain ⟨V, hV⟩ : ∃ V, V = makeV ps S := ⟨_, rfl⟩
  rw [← hV] at p4 p5 p6 p7 p8
  obtain ⟨Z, hZ⟩ : ∃ Z, Z = settleV ps V := ⟨_, rfl⟩
  rw [← hZ] at p7 p8
  have HBD := Lib.hid (show ∀ k : Nat, k < 6 → (-1000000 ≤ a.getD k 0 ∧ a.getD k 0 ≤ 1000000) ∧ (0 ≤ tk.getD k 0 ∧ tk.getD k 0 ≤ 1000000) from fun k hk => by
    have e1 : a.getD k 0 ∈ a := by rw [List.getD_eq_getElem?_getD, List.getElem?_eq_getElem (by omega)]; exact List.getElem_mem _
    have e2 : tk.getD k 0 ∈ tk := by rw [List.getD_eq_getElem?_getD, List.getElem?_eq_getElem (by omega)]; exact List.getElem_mem _
    exact ⟨p11 _ e1, p10 _ e2⟩)
  have HP1 := Lib.hid p1
  have HP5 := Lib.hid p5
  have HP6 := Lib.hid p6
  have HP8 := Lib.hid p8
  have HP9 := Lib.hid p9
  have HP10 := Lib.hid p10
  have HP11 := Lib.hid p11
  have HSS := Lib.hid hS
  have HVV := Lib.hid hV
  have HZ := Lib.hid hZ
  have ht6g : 6 ≤ tk.length := by omega
  have ha6 : 6 ≤ a.length := by omega
  have hV6 : V.length ≤ 6 := by omega
  have hV6g : 6 ≤ V.length := by omega
  have hZ6 : Z.length ≤ 6 := by omega
  have hZ6g : 6 ≤ Z.length := by omega
  have NQ : ((V.length : Int) != (a.length : Int)) = false := by rw [bne_eq_false_iff_eq]; omega
  clear p1 p2 p3 p4 p5 p6 p7 p8 p9 p10 p11 hS hV hZ
  go_wp2_with fail
  refine (sumOf_any _ _ _ _ tk _ (by omega) r_tk (fun x hx => by have := HP10.out x hx; omega)).mono ?_
  rintro e wq ⟨rfl, rfl⟩
  rw [← HSS.out]
  go_wp2_with fail
  refine (iShareMake_any _ _ _ _ ps S _ (by omega) r_ps (Nat.le_refl _)).mono ?_
  rintro e w5 ⟨P5, d5, rfl, o_v, hs⟩
  replace r_ps := (r_ps.below hs (Nat.le_refl _)).more (Nat.le_refl _) hs.size
  replace r_tk := (r_tk.below hs (Nat.le_refl _)).more (Nat.le_refl _) hs.size
  replace o_a := own_below o_a hs
  replace hb := hb.trans (hs.mono hb.size)
  clear hs
  rw [← HVV.out] at o_v ⊢
  rw [HP1.out]
  have HRA := Lib.hid (Rd.of_own o_a)
  obtain ⟨ba, oa, rfl, ca⟩ := (Rd.of_own o_a).all1 (by omega)
  obtain ⟨bv, ov, hPv, cv⟩ := (Rd.of_own o_v).all1 (by omega)
  have CA := Lib.hid ca
  have CV := Lib.hid cv
  have HRV := Lib.hid (Rd.of_own o_v)
  subst hPv
  obtain ⟨bt, ot, hPt, ct⟩ := r_tk.all1 (by omega)
  have CT := Lib.hid ct
  subst hPt
  have HRP := Lib.hid r_ps
  clear ca cv ct o_a o_v r_tk r_ps
  go_wp2_with fail
  go_loopw [11] (fun i wr => ∃ (k q : Nat), k ≤ 6 ∧ i = .int .i64 k ∧ wr = w5.drewN q) (fun i _ => 6 - (intOf i).toNat)
  case atStart => exact ⟨0, 0, by omega, rfl, rfl⟩
  case round =>
    obtain ⟨k, q, hk, rfl, rfl⟩ := hrel
    by_cases hk6 : k < 6
    · have hka : (k : Int) < (a.length : Int) := by omega
      have hkv : (k : Int) < (V.length : Int) := by omega
      have hkt : (k : Int) < (tk.length : Int) := by omega
      have hk0 : (0 : Int) ≤ (k : Int) := by omega
      have a1 := CA.out k (by omega)
      have v1 := CV.out k (by omega)
      have t1 := CT.out k (by omega)
      have h5 := HP5.out k hk6
      obtain ⟨⟨x0, x1⟩, y0, y1⟩ := HBD.out k hk6
      generalize a.getD k 0 = x at *
      generalize tk.getD k 0 = y at *
      generalize V.getD k 0 = z at *
      have wx : IntKind.i64.wrap (x + y) = x + y := IntWalk.i64_in _ (by omega)
      have tz : (x + y != z) = false := by simp [h5]
      clear h5 x0 x1 y0 y1
      go_wp2_with fail
      go_quiet (fail)
      go_wp2_with fail
      go_roundw
      case rel => exact ⟨k + 1, _, by omega, by go_num, rfl⟩
      case measure => simp [intOf]; omega
    · have hka : ¬ (k : Int) < (a.length : Int) := by omega
      have hbb : Below w.heap.size w (w5.drewN q) := below_drewN hb q
      have hq0 : Below w5.heap.size w5 (w5.drewN q) := below_drewN (Below.refl _ _) q
      go_wp2_with fail
      refine (iSettle_any _ _ _ _ ps _ _ _ _ V _ (by omega) (HRP.out.below hq0 (Nat.le_refl _)) (Nat.le_refl _) (by omega) (HRV.out.below hq0 (Nat.le_refl _)) (Nat.le_refl _)).mono ?_
      rintro e wz ⟨Pz, dz, rfl, o_z, hs⟩
      rw [← HZ.out] at o_z ⊢
      rw [HP6.out]
      have hbz := hbb.trans (hs.mono hbb.size)
      have hra := Lib.hid ((HRA.out.below hq0 (Nat.le_refl _)).below hs (Nat.le_refl _))
      obtain ⟨bz, oz, rfl, cz⟩ := (Rd.of_own o_z).all1 (by omega)
      have CZ := Lib.hid cz
      clear hs cz o_z hq0 hbb
      go_wp2_with fail
      go_loopw [14] (fun i wr => ∃ (j q : Nat), j ≤ 6 ∧ i = .int .i64 j ∧ wr = wz.drewN q) (fun i _ => 6 - (intOf i).toNat)
      case atStart => exact ⟨0, 0, by omega, rfl, rfl⟩
      case round =>
        obtain ⟨j, q', hj, rfl, rfl⟩ := hrel
        by_cases hj6 : j < 6
        · have hjz : (j : Int) < (Z.length : Int) := by omega
          have hj0 : (0 : Int) ≤ (j : Int) := by omega
          have z1 := CZ.out j (by omega)
          rw [HP8.out j hj6] at z1
          go_wp2_with fail
          go_roundw
          case rel => exact ⟨j + 1, q', by omega, by go_num, rfl⟩
          case measure => simp [intOf]; omega
        · have hjz : ¬ (j : Int) < (Z.length : Int) := by omega
          have hbf : Below w.heap.size w (wz.drewN q') := below_drewN hbz q'
          go_wp2_with fail
          refine (sumOf_any _ _ _ _ a _ (by omega) (hra.out.below (below_drewN (Below.refl _ _) q') (Nat.le_refl _)) (fun x hx => by have := HP11.out x hx; omega)).mono ?_
          rintro e wq' ⟨rfl, rfl⟩
          rw [HP9.out]
          go_wp2_with fail
          go_ret
          exact ⟨rfl, hbf⟩

set_option maxRecDepth 100000 in
theorem shareSettle_lifted (os : Os) (started : os.Started) (H : Type) (enc : TypeId × Value → H) :
    ReturnsInHanded {} Try.checked os 7 .any (Rows.fnShareSettleSpec.pre6 enc Try.prog Try.f7 Rows.fnShareSettleRow.domain false) (Rows.fnShareSettleSpec.post enc Try.prog Try.f7 false true false false) := by
  refine returnsInHanded_of_change (C := Try.checked) prog_own started (by kernel_rfl) Try.func7
    (ChangeSpec.witness6 (enc := enc) (C := Try.checked) false ⟨#[], #[.slice none 0 0], []⟩ 8 (by kernel_rfl) (by kernel_rfl) (by kernel_rfl) (by kernel_rfl)) ?_
  intro W base args ds gs before hval0 hW hcnd _
  have hval : ∀ (j : Nat) t v, Try.f7.params[j]? = some t → args[j]? = some v → Value.okWide Try.prog W .any base t v := hval0
  have hW' := hW
  obtain ⟨p, q, hA0, hV, rfl, hfz, hnd⟩ := hW
  have hA : DataW.TrodAll enc Try.prog W 0 (fun _ => true) true Try.f7.params.toList args.toList ds p := hA0
  rw [Try.params7] at hA hval
  obtain ⟨v0, vs0, d0, ds0, p0, q0, hargs, rfl, rfl, h0, r0⟩ := trodAll_cons hA
  obtain ⟨rfl, rfl, rfl⟩ := trodAll_nil r0
  obtain rfl : args = #[v0] := by cases args; simp_all
  obtain ⟨rfl, rfl⟩ := trodVars_none hV
  obtain ⟨a0, len0, cap0, rfl⟩ := okWide_slice Try.underlying22 (hval 0 22 v0 rfl rfl)
  have k0 := h0
  have lt0 : ∀ x ∈ p0, x.block < W.heap.size := by obtain ⟨m, hm⟩ := k0; exact DataW.trod_lt m _ _ _ hm
  obtain ⟨fuel0, hf0⟩ := h0
  obtain ⟨bs0, hm0, hb0, hc0⟩ := open_b1 Try.underlying22 Try.underlying5 (by kernel_rfl) hf0
  clear hA0 hval0
  refine (shareSettle_any a0 cap0 len0 bs0 W hm0 hb0 hc0).mono fun e W' ⟨he, bel⟩ => ?_
  subst he
  exact ⟨_, rfl, _, _, _, [], _, [], hW', trodAll_mk1 (shut_bool Try.underlying4 _), (trodAll_cons_mk (Below.trod prog_laidOut (by kernel_rfl) (of_decide_eq_true (by kernel_rfl)) k0 bel lt0) trodAll_mk0), rfl, bel.frame _, fun h => by cases h⟩

theorem shareSettle_holds : Rows.FnShareSettleSaid :=
  OpenClaim.holds_of_wide 7 Try.f7 rfl rfl rfl rfl rfl rfl rfl ⟨rfl, rfl, rfl, rfl, rfl⟩ rfl rfl rfl rfl rfl (by kernel_rfl) Try.func7 (by kernel_rfl)
    (of_decide_eq_true (by kernel_rfl)) (by unfold Func.isWrapper; first | (rw [if_pos (by decide +kernel)]; kernel_rfl) | (rw [if_neg (by decide +kernel)]; exact ⟨rfl, rfl⟩))
    (fun os started H enc _ => shareSettle_lifted os started H enc)

end Go.Proofs.Ytmeaegopenbelaa

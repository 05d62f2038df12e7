/-
  For every input the law FnShareOrder returns true: more miles get no less.
-/
import Derived.Test.YtmeaegopenbelaaShareLaws
import Derived.Test.YtmeaegopenbelaaPartsArgs
import Derived.Test.YtmeaegopenbelaaShareI
import Derived.Test.YtmeaegopenbelaaLawFns
import Derived.Test.YtmeaegopenbelaaInts
namespace Go.Proofs.Ytmeaegopenbelaa
open Go.ChangeShapes Go.WideShapes Go.ChangeAt Go.RowKit

set_option maxRecDepth 100000 in
set_option maxHeartbeats 4000000 in
theorem shareOrder_any (A0 : Option Addr) (c0 n0 : Nat) (bs0 : Nat → Int) (w : World) (hm0 : n0 ≤ maxLen) (hb0 : Byt w w.heap.size A0 n0 bs0) (hc0 : n0 ≤ c0) :
    Calls Try.prog 3 #[.slice A0 n0 c0] w fun e w' => e = .returned (.bool true) ∧ Below w.heap.size w w' := by
  unfold maxLen at hm0
  by_cases hbig0 : (1048576 : Int) < n0
  · go_enter Try.func3, Try.ntmps3
    go_wp2_with fail
    go_ret
    exact ⟨rfl, Below.refl _ _⟩
  have hn0 : n0 ≤ 1048576 := by omega
  have hni0 : (n0 : Int) ≤ 1048576 := by omega
  clear hm0
  go_enter Try.func3, Try.ntmps3
  go_wp2_with fail
  refine (dMake_any A0 n0 c0 bs0 _ hb0 hn0 hc0).mono ?_
  rintro e w1 ⟨A, c, ps, am, rfl, hl6, r_ps, ham, hb⟩
  obtain ⟨a, ha⟩ : ∃ a, makeV ps am = a := ⟨_, rfl⟩
  have HA := Lib.hid ha
  have hal : a.length ≤ 6 := by rw [← ha]; exact makeV_len ps am
  clear ha
  cases hok : makeOk ps am
  · have HOK := Lib.hid hok
    clear hok
    go_wp2_with fail
    refine (iShareMake_any _ _ _ _ ps am _ (by omega) r_ps (Nat.le_refl _)).mono ?_
    rintro e w2 ⟨P2, d2, rfl, o_a, hs⟩
    replace r_ps := (r_ps.below hs (Nat.le_refl _)).more (Nat.le_refl _) hs.size
    replace hb := hb.trans (hs.mono hb.size)
    clear hs
    rw [HA.out] at o_a ⊢
    rw [HOK.out]
    go_wp2_with fail
    refine (sShareMake_any _ _ _ _ ps am _ (by omega) r_ps (Nat.le_refl _)).mono ?_
    rintro e w3 ⟨P3, d3, rfl, o_a2, hs⟩
    replace r_ps := (r_ps.below hs (Nat.le_refl _)).more (Nat.le_refl _) hs.size
    replace o_a := own_below o_a hs
    replace hb := hb.trans (hs.mono hb.size)
    clear hs
    rw [HA.out] at o_a2 ⊢
    rw [HOK.out]
    go_wp2_with fail
    refine (sameInts_any _ _ _ _ _ _ _ _ a a _ (by omega) (Rd.of_own o_a) (Rd.of_own o_a2)).mono ?_
    rintro e w4 ⟨rfl, hs⟩
    replace r_ps := (r_ps.below hs (Nat.le_refl _)).more (Nat.le_refl _) hs.size
    replace o_a := own_below o_a hs
    replace o_a2 := own_below o_a2 hs
    replace hb := hb.trans (hs.mono hb.size)
    clear hs
    rw [show decide (a = a) = true from decide_eq_true rfl]
    go_wp2_with fail
    refine (sameInts_any _ _ _ _ _ _ _ _ a a _ (by omega) (Rd.of_own o_a) (Rd.of_own o_a2)).mono ?_
    rintro e w5 ⟨rfl, hs⟩
    replace r_ps := (r_ps.below hs (Nat.le_refl _)).more (Nat.le_refl _) hs.size
    replace o_a := own_below o_a hs
    replace o_a2 := own_below o_a2 hs
    replace hb := hb.trans (hs.mono hb.size)
    clear hs
    rw [show decide (a = a) = true from decide_eq_true rfl]
    go_wp2_with fail
    go_ret
    exact ⟨rfl, by (repeat (first | exact Below.refl _ _ | assumption | apply below_alloc | apply below_drewN | apply Below.drew | refine Below.setCell ?_ (by simp; try omega) _))⟩
  have HOK := Lib.hid hok
  clear hok
  go_wp2_with fail
  refine (iShareMake_any _ _ _ _ ps am _ (by omega) r_ps (Nat.le_refl _)).mono ?_
  rintro e w2 ⟨P2, d2, rfl, o_a, hs⟩
  replace r_ps := (r_ps.below hs (Nat.le_refl _)).more (Nat.le_refl _) hs.size
  replace hb := hb.trans (hs.mono hb.size)
  clear hs
  rw [HA.out] at o_a ⊢
  rw [HOK.out]
  go_wp2_with fail
  refine (sShareMake_any _ _ _ _ ps am _ (by omega) r_ps (Nat.le_refl _)).mono ?_
  rintro e w3 ⟨P3, d3, rfl, o_a2, hs⟩
  replace r_ps := (r_ps.below hs (Nat.le_refl _)).more (Nat.le_refl _) hs.size
  replace o_a := own_below o_a hs
  replace hb := hb.trans (hs.mono hb.size)
  clear hs
  rw [HA.out] at o_a2 ⊢
  rw [HOK.out]
  go_wp2_with fail
  refine (sameInts_any _ _ _ _ _ _ _ _ a a _ (by omega) (Rd.of_own o_a) (Rd.of_own o_a2)).mono ?_
  rintro e w4 ⟨rfl, hs⟩
  replace r_ps := (r_ps.below hs (Nat.le_refl _)).more (Nat.le_refl _) hs.size
  replace o_a := own_below o_a hs
  replace o_a2 := own_below o_a2 hs
  replace hb := hb.trans (hs.mono hb.size)
  clear hs
  rw [show decide (a = a) = true from decide_eq_true rfl]
  clear o_a2
  obtain ⟨p1, ⟨am0, am1⟩, p3, p4, p5, p6, p7, p8, p9, p10, p11, p12, p13⟩ := make_law HOK.out
  obtain ⟨M, hM⟩ : ∃ M, M = cntL (ownersL ps) := ⟨_, rfl⟩
  rw [← hM] at p4 p5 p6 p7 p13
  rw [HA.out] at p5 p10 p11 p12
  have hML : M.length = 6 := by rw [hM]; exact cntL_len _
  have HLAW := Lib.hid (show ∀ i k : Nat, i < 6 → k < 6 → (M.getD k 0 < M.getD i 0 → a.getD k 0 ≤ a.getD i 0) ∧ (M.getD i 0 = M.getD k 0 → i < k → a.getD k 0 ≤ a.getD i 0 ∧ a.getD i 0 ≤ a.getD k 0 + 1) ∧ (0 ≤ a.getD k 0 ∧ a.getD k 0 ≤ 1000000) from fun i k hi hk => by
    have e1 : M.getD k 0 ∈ M := by rw [List.getD_eq_getElem?_getD, List.getElem?_eq_getElem (by omega)]; exact List.getElem_mem _
    have e2 : a.getD k 0 ∈ a := by rw [List.getD_eq_getElem?_getD, List.getElem?_eq_getElem (by omega)]; exact List.getElem_mem _
    have hd := share_order (m := M) (a := am) p6 am0 (i := i) (k := k) (by omega) (by omega) (p13 _ e1).1
    rw [← p5] at hd
    exact ⟨hd.1, hd.2, p11 _ e2⟩)
  have HP1 := Lib.hid p1
  have HP4 := Lib.hid p4
  have ha6 : 6 ≤ a.length := by omega
  have hM6 : M.length ≤ 6 := by omega
  have hM6g : 6 ≤ M.length := by omega
  clear p1 p3 p4 p5 p6 p7 p8 p9 p10 p11 p12 p13 hM hML
  go_wp2_with fail
  refine (iPartsMiles_any _ _ _ _ ps _ (by omega) r_ps (Nat.le_refl _)).mono ?_
  rintro e w5 ⟨P5, d5, rfl, o_m, hs⟩
  replace r_ps := (r_ps.below hs (Nat.le_refl _)).more (Nat.le_refl _) hs.size
  replace o_a := own_below o_a hs
  replace hb := hb.trans (hs.mono hb.size)
  clear hs
  rw [HP4.out] at o_m ⊢
  rw [HP1.out]
  obtain ⟨ba, oa, rfl, ca⟩ := (Rd.of_own o_a).all1 (by omega)
  obtain ⟨bm, om, rfl, cm⟩ := (Rd.of_own o_m).all1 (by omega)
  have CA := Lib.hid ca
  have CM := Lib.hid cm
  clear ca cm o_a o_m r_ps
  go_wp2_with fail
  go_loopw [11] (fun i wr => ∃ (k q : Nat), k ≤ 6 ∧ i = .int .i64 k ∧ wr = w5.drewN q) (fun i _ => 6 - (intOf i).toNat)
  case atStart => exact ⟨0, 0, by omega, rfl, rfl⟩
  case round =>
    obtain ⟨k, q, hk, rfl, rfl⟩ := hrel
    by_cases hk6 : k < 6
    · have hka : (k : Int) < (a.length : Int) := by omega
      have hkm : (k : Int) < (M.length : Int) := by omega
      have hk0 : (0 : Int) ≤ (k : Int) := by omega
      go_wp2_with fail
      go_loopw [12] (fun i wr => ∃ (j q : Nat), j ≤ 6 ∧ i = .int .i64 j ∧ wr = w5.drewN q) (fun i _ => 6 - (intOf i).toNat)
      case atStart => exact ⟨0, q, by omega, rfl, rfl⟩
      case round =>
        obtain ⟨j, q', hj, rfl, rfl⟩ := hrel
        by_cases hj6 : j < 6
        · have hja : (j : Int) < (a.length : Int) := by omega
          have hjm : (j : Int) < (M.length : Int) := by omega
          have hj0 : (0 : Int) ≤ (j : Int) := by omega
          have a1 := CA.out k (by omega)
          have a2 := CA.out j (by omega)
          have m1 := CM.out k (by omega)
          have m2 := CM.out j (by omega)
          obtain ⟨e1, e2, y0, y1⟩ := HLAW.out k j hk6 hj6
          generalize a.getD k 0 = x at *
          generalize a.getD j 0 = y at *
          generalize M.getD k 0 = u at *
          generalize M.getD j 0 = v at *
          have wy : IntKind.i64.wrap (y + 1) = y + 1 := IntWalk.i64_in _ (by omega)
          rcases Int.lt_trichotomy u v with huv | huv | huv
          · have t1 : decide (v < u) = false := decide_eq_false (by omega)
            have t2 : (u == v) = false := by rw [beq_eq_false_iff_ne]; omega
            clear e1 e2 huv
            go_wp2_with fail
            go_quiet (fail)
            go_wp2_with fail
            go_quiet (fail)
            go_wp2_with fail
            go_roundw
            case rel => exact ⟨j + 1, _, by omega, by go_num, rfl⟩
            case measure => simp [intOf]; omega
          · have t1 : decide (v < u) = false := decide_eq_false (by omega)
            have t2 : (u == v) = true := by simp [huv]
            by_cases hkj : k < j
            · obtain ⟨f1, f2⟩ := e2 huv hkj
              have t3 : decide ((k : Int) < (j : Int)) = true := decide_eq_true (by omega)
              have t3' : (k : Int) < (j : Int) := by omega
              have t4 : decide (x < y) = false := decide_eq_false (by omega)
              have t5 : decide (y + 1 < x) = false := decide_eq_false (by omega)
              clear e1 e2 huv
              go_wp2_with fail
              go_quiet (fail)
              go_wp2_with fail
              go_quiet (fail)
              go_wp2_with fail
              go_roundw
              case rel => exact ⟨j + 1, _, by omega, by go_num, rfl⟩
              case measure => simp [intOf]; omega
            · have t3 : decide ((k : Int) < (j : Int)) = false := decide_eq_false (by omega)
              clear e1 e2 huv
              go_wp2_with fail
              go_quiet (fail)
              go_wp2_with fail
              go_quiet (fail)
              go_wp2_with fail
              go_roundw
              case rel => exact ⟨j + 1, _, by omega, by go_num, rfl⟩
              case measure => simp [intOf]; omega
          · have t1 : decide (v < u) = true := decide_eq_true huv
            have t2 : (u == v) = false := by rw [beq_eq_false_iff_ne]; omega
            have f1 := e1 huv
            have t4 : decide (x < y) = false := decide_eq_false (by omega)
            clear e1 e2
            go_wp2_with fail
            go_quiet (fail)
            go_wp2_with fail
            go_quiet (fail)
            go_wp2_with fail
            go_roundw
            case rel => exact ⟨j + 1, _, by omega, by go_num, rfl⟩
            case measure => simp [intOf]; omega
        · have hja : ¬ (j : Int) < (a.length : Int) := by omega
          go_wp2_with fail
          go_roundw
          case rel => exact ⟨k + 1, q', by omega, by go_num, rfl⟩
          case measure => simp [intOf]; omega
    · have hka : ¬ (k : Int) < (a.length : Int) := by omega
      have hbb : Below w.heap.size w (w5.drewN q) := below_drewN hb q
      go_wp2_with fail
      go_ret
      exact ⟨rfl, hbb⟩

set_option maxRecDepth 100000 in
theorem shareOrder_lifted (os : Os) (started : os.Started) (H : Type) (enc : TypeId × Value → H) :
    ReturnsInHanded {} Try.checked os 3 .any (Rows.fnShareOrderSpec.pre6 enc Try.prog Try.f3 Rows.fnShareOrderRow.domain false) (Rows.fnShareOrderSpec.post enc Try.prog Try.f3 false true false false) := by
  refine returnsInHanded_of_change (C := Try.checked) prog_own started (by kernel_rfl) Try.func3
    (ChangeSpec.witness6 (enc := enc) (C := Try.checked) false ⟨#[], #[.slice none 0 0], []⟩ 8 (by kernel_rfl) (by kernel_rfl) (by kernel_rfl) (by kernel_rfl)) ?_
  intro W base args ds gs before hval0 hW hcnd _
  have hval : ∀ (j : Nat) t v, Try.f3.params[j]? = some t → args[j]? = some v → Value.okWide Try.prog W .any base t v := hval0
  have hW' := hW
  obtain ⟨p, q, hA0, hV, rfl, hfz, hnd⟩ := hW
  have hA : DataW.TrodAll enc Try.prog W 0 (fun _ => true) true Try.f3.params.toList args.toList ds p := hA0
  rw [Try.params3] at hA hval
  obtain ⟨v0, vs0, d0, ds0, p0, q0, hargs, rfl, rfl, h0, r0⟩ := trodAll_cons hA
  obtain ⟨rfl, rfl, rfl⟩ := trodAll_nil r0
  obtain rfl : args = #[v0] := by cases args; simp_all
  obtain ⟨rfl, rfl⟩ := trodVars_none hV
  obtain ⟨a0, len0, cap0, rfl⟩ := okWide_slice Try.underlying22 (hval 0 22 v0 rfl rfl)
  have k0 := h0
  have lt0 : ∀ x ∈ p0, x.block < W.heap.size := by obtain ⟨m, hm⟩ := k0; exact DataW.trod_lt m _ _ _ hm
  obtain ⟨fuel0, hf0⟩ := h0
  obtain ⟨bs0, hm0, hb0, hc0⟩ := open_b1 Try.underlying22 Try.underlying5 (by kernel_rfl) hf0
  clear hA0 hval0
  refine (shareOrder_any a0 cap0 len0 bs0 W hm0 hb0 hc0).mono fun e W' ⟨he, bel⟩ => ?_
  subst he
  exact ⟨_, rfl, _, _, _, [], _, [], hW', trodAll_mk1 (shut_bool Try.underlying4 _), (trodAll_cons_mk (Below.trod prog_laidOut (by kernel_rfl) (of_decide_eq_true (by kernel_rfl)) k0 bel lt0) trodAll_mk0), rfl, bel.frame _, fun h => by cases h⟩

theorem shareOrder_holds : Rows.FnShareOrderSaid :=
  OpenClaim.holds_of_wide 3 Try.f3 rfl rfl rfl rfl rfl rfl rfl ⟨rfl, rfl, rfl, rfl, rfl⟩ rfl rfl rfl rfl rfl (by kernel_rfl) Try.func3 (by kernel_rfl)
    (of_decide_eq_true (by kernel_rfl)) (by unfold Func.isWrapper; first | (rw [if_pos (by decide +kernel)]; kernel_rfl) | (rw [if_neg (by decide +kernel)]; exact ⟨rfl, rfl⟩))
    (fun os started H enc _ => shareOrder_lifted os started H enc)

end Go.Proofs.Ytmeaegopenbelaa

/-
  For every input the law FnPostReach returns true: more time reaches more towns.
-/
import Derived.Test.YtdiichfdffhdaaaPostLaws
import Derived.Test.YtdiichfdffhdaaaNetArgs
import Derived.Test.YtdiichfdffhdaaaLawHas
import Derived.Test.YtdiichfdffhdaaaInts
namespace Go.Proofs.Ytdiichfdffhdaaa
open Go.ChangeShapes Go.WideShapes Go.ChangeAt Go.RowKit

set_option maxRecDepth 100000 in
set_option maxHeartbeats 4000000 in
theorem postReach_any (A0 : Option Addr) (c0 n0 : Nat) (bs0 : Nat → Int) (w : World) (hm0 : n0 ≤ maxLen) (hb0 : Byt w w.heap.size A0 n0 bs0) (hc0 : n0 ≤ c0) :
    Calls Try.prog 10 #[.slice A0 n0 c0] w fun e w' => e = .returned (.bool true) ∧ Below w.heap.size w w' := by
  unfold maxLen at hm0
  by_cases hbig0 : (1048576 : Int) < n0
  · go_enter Try.func10, Try.ntmps10
    go_wp2_with fail
    go_ret
    exact ⟨rfl, Below.refl _ _⟩
  have hn0 : n0 ≤ 1048576 := by omega
  have hni0 : (n0 : Int) ≤ 1048576 := by omega
  clear hm0
  go_enter Try.func10, Try.ntmps10
  go_wp2_with fail
  refine (dReach_any A0 n0 c0 bs0 _ hb0 hn0 hc0).mono ?_
  rintro e w1 ⟨n, A, c, fr, t, ch, u, net, rfl, hn1, hn2, ht, hch, hu, r_N, hb⟩
  obtain ⟨ht0, ht1⟩ := ht
  obtain ⟨hch0, hch1⟩ := hch
  obtain ⟨hu0, hu1⟩ := hu
  obtain ⟨L, hL⟩ : ∃ L, L = reachL n net fr t ch u := ⟨_, rfl⟩
  have HL := Lib.hid hL
  clear hL
  have HLn := Lib.hid (show L.length ≤ 8 from by rw [HL.out]; exact reachL_len)
  go_wp2_with fail
  refine (iPostReach_any n _ _ _ net fr t ch u _ (Nat.le_trans r_N.size (by omega)) r_N.2.2 (Nat.le_refl _)).mono ?_
  rintro e w2 ⟨P2, d2, rfl, o_a, hs⟩
  replace r_N := r_N.below hs
  replace hb := hb.trans (hs.mono hb.size)
  clear hs
  rw [← HL.out] at o_a ⊢
  go_wp2_with fail
  refine (sPostReach_any n _ _ _ net fr t ch u _ (Nat.le_trans r_N.size (by omega)) r_N.2.2 (Nat.le_refl _)).mono ?_
  rintro e w3 ⟨P3, d3, rfl, o_b, hs⟩
  replace r_N := r_N.below hs
  replace o_a := own_below o_a hs
  replace hb := hb.trans (hs.mono hb.size)
  clear hs
  rw [← HL.out] at o_b ⊢
  go_wp2_with fail
  refine (sameInts_any _ _ _ _ _ _ _ _ _ _ _ (by have := HLn.out; omega) (Rd.of_own o_a) (Rd.of_own o_b)).mono ?_
  rintro e w4 ⟨rfl, hs⟩
  replace r_N := r_N.below hs
  replace o_a := own_below o_a hs
  replace o_b := own_below o_b hs
  replace hb := hb.trans (hs.mono hb.size)
  clear hs
  rw [show decide (L = L) = true from decide_eq_true rfl]
  by_cases hz : L.length = 0
  · have dz : ((L.length : Int) == 0) = true := by simp [hz]
    clear hz
    go_wp2_with fail
    refine (sameInts_any _ _ _ _ _ _ _ _ _ _ _ (by have := HLn.out; omega) (Rd.of_own o_a) (Rd.of_own o_b)).mono ?_
    rintro e w5 ⟨rfl, hs⟩
    replace r_N := r_N.below hs
    replace o_a := own_below o_a hs
    replace o_b := own_below o_b hs
    replace hb := hb.trans (hs.mono hb.size)
    clear hs
    rw [show decide (L = L) = true from decide_eq_true rfl]
    go_wp2_with fail
    go_ret
    exact ⟨rfl, by (repeat (first | exact Below.refl _ _ | assumption | apply below_alloc | apply below_drewN | apply Below.drew | refine Below.setCell ?_ (by simp; try omega) _))⟩
  have dz : ((L.length : Int) == 0) = false := by simp [hz]
  have hok : postOk n net fr t ch = true := by
    cases h : postOk n net fr t ch
    · exfalso; apply hz; rw [HL.out, reachL_no h]; rfl
    · rfl
  have HRN := Lib.hid (reach_some hok (u := u) (by rw [← HL.out]; exact fun e => hz (by rw [e]; rfl)))
  obtain ⟨_, ⟨hf0, hf1⟩, _, _, _⟩ := postOk_and hok
  have HOK := Lib.hid hok
  clear hz hok
  obtain ⟨T, hT⟩ : ∃ T, T = tableL n net fr t ch := ⟨_, rfl⟩
  have HT := Lib.hid hT
  clear hT
  have HPT := Lib.hid (show postTab n net fr t ch = T by rw [postTab, if_pos HOK.out, HT.out])
  have HTL := Lib.hid (show T.length = n.toNat by rw [HT.out]; exact (tab_ok HOK.out).1)
  go_wp2_with fail
  refine (iPostTable_any n _ _ _ net fr t ch _ (Nat.le_trans r_N.size (by omega)) r_N.2.2 (Nat.le_refl _)).mono ?_
  rintro e w5 ⟨P5, d5, rfl, o_T, hs⟩
  replace r_N := r_N.below hs
  replace o_a := own_below o_a hs
  replace o_b := own_below o_b hs
  replace hb := hb.trans (hs.mono hb.size)
  clear hs
  rw [HPT.out] at o_T ⊢
  rw [HOK.out]
  have hTn1 : (T.length : Int) ≤ n := by have := HTL.out; omega
  have hTn2 : n ≤ (T.length : Int) := by have := HTL.out; omega
  have NQ : ((T.length : Int) != n) = false := by rw [bne_eq_false_iff_eq]; omega
  have wu : IntKind.i64.wrap (u + 10) = u + 10 := IntWalk.i64_in _ (by omega)
  obtain ⟨M, hM⟩ : ∃ M, M = reachL n net fr t ch (u + 10) := ⟨_, rfl⟩
  have HM := Lib.hid hM
  clear hM
  have HMn := Lib.hid (show M.length ≤ 8 from by rw [HM.out]; exact reachL_len)
  go_wp2_with fail
  refine (iPostReach_any n _ _ _ net fr t ch (u + 10) _ (Nat.le_trans r_N.size (by omega)) r_N.2.2 (Nat.le_refl _)).mono ?_
  rintro e w6 ⟨P6, d6, rfl, o_m, hs⟩
  replace r_N := r_N.below hs
  replace o_a := own_below o_a hs
  replace o_b := own_below o_b hs
  replace o_T := own_below o_T hs
  replace hb := hb.trans (hs.mono hb.size)
  clear hs
  rw [← HM.out] at o_m ⊢
  clear wu r_N o_b
  have RT := Rd.of_own o_T
  have RA := Lib.hid (Rd.of_own o_a)
  have RM := Lib.hid (Rd.of_own o_m)
  clear o_T o_a o_m
  go_wp2_with fail
  go_loopw [14] (fun i wr => ∃ k : Nat, (k : Int) ≤ n ∧ i = .int .i64 k ∧ Below w6.heap.size w6 wr) (fun i _ => (n - intOf i).toNat)
  case atStart => exact ⟨0, by omega, rfl, Below.refl _ _⟩
  case round =>
    obtain ⟨k, hk, rfl, hb2⟩ := hrel
    have RLr := Lib.hid (RA.out.below hb2 (Nat.le_refl _))
    have RMr := Lib.hid (RM.out.below hb2 (Nat.le_refl _))
    by_cases hlt : (k : Int) < n
    · have hkT : k < T.length := by omega
      have hkT2 : (k : Int) < (T.length : Int) := by omega
      have hk0 : (0 : Int) ≤ (k : Int) := by omega
      obtain ⟨bT, oT, rfl, hb0', hbT, cT⟩ := (RT.below hb2 (Nat.le_refl _)).at1 k hkT
      have hx := tg_get (T := T) (v := (k : Int)) hk0 (by simpa using hkT)
      have hm1 := reach_mem HOK.out (u := u) (v := (k : Int))
      have hm2 := reach_mem HOK.out (u := u + 10) (v := (k : Int))
      rw [← HT.out, hx, ← HL.out] at hm1
      rw [← HT.out, hx, ← HM.out] at hm2
      simp only [Int.toNat_natCast] at hm1 hm2
      have HMEM := Lib.hid hm1
      have HMEM2 := Lib.hid hm2
      clear hx hm1 hm2
      generalize T[k] = x at *
      have HCL := Lib.hid (fun W (hW : Rd W w1.heap.size w6.heap.size P2 (ints L)) => hasInt_any P2 d2 w1.heap.size w6.heap.size L (k : Int) W (by have := HLn.out; omega) hW)
      have HCM := Lib.hid (fun W (hW : Rd W w5.heap.size w6.heap.size P6 (ints M)) => hasInt_any P6 d6 w5.heap.size w6.heap.size M (k : Int) W (by have := HMn.out; omega) hW)
      by_cases hx : 0 ≤ x ∧ x ≤ u
      · have HB1 := Lib.hid (show decide ((k : Int) ∈ L) = true from decide_eq_true (HMEM.out.2 ⟨hk0, hlt, hx.1, hx.2⟩))
        have HB2 := Lib.hid (show decide ((k : Int) ∈ M) = true from decide_eq_true (HMEM2.out.2 ⟨hk0, hlt, hx.1, by omega⟩))
        obtain ⟨hx1, hx2⟩ := hx
        go_wp2_with fail
        go_quiet (first | (go_at_call 42; with_reducible exact Calls.quiet_of_same (v := .bool true) ((HCL.out _ (RLr.out.drewN _)).mono fun _ _ ⟨h1, h2⟩ => ⟨by rw [h1, HB1.out], h2.symm⟩)) | (go_at_call 42; with_reducible exact Calls.quiet_of_same (v := .bool true) ((HCM.out _ (RMr.out.drewN _)).mono fun _ _ ⟨h1, h2⟩ => ⟨by rw [h1, HB2.out], h2.symm⟩)))
        have hb3 := below_drewN hb2 nq
        go_wp2_with fail
        go_roundw
        case rel => exact ⟨k + 1, by omega, by go_num, hb3⟩
        case measure => simp [intOf]; omega
      · have HB1 := Lib.hid (show decide ((k : Int) ∈ L) = false from decide_eq_false (fun h => hx ⟨(HMEM.out.1 h).2.2.1, (HMEM.out.1 h).2.2.2⟩))
        by_cases hx0 : 0 ≤ x
        · have hx1 : u < x := by omega
          clear hx
          go_wp2_with fail
          go_quiet ((go_at_call 42; with_reducible exact Calls.quiet_of_same (v := .bool false) ((HCL.out _ (RLr.out.drewN _)).mono fun _ _ ⟨h1, h2⟩ => ⟨by rw [h1, HB1.out], h2.symm⟩)))
          have hb3 := below_drewN hb2 nq
          go_wp2_with fail
          go_roundw
          case rel => exact ⟨k + 1, by omega, by go_num, hb3⟩
          case measure => simp [intOf]; omega
        · have hx1 : decide (0 ≤ x) = false := decide_eq_false hx0
          clear hx hx0
          go_wp2_with fail
          go_quiet ((go_at_call 42; with_reducible exact Calls.quiet_of_same (v := .bool false) ((HCL.out _ (RLr.out.drewN _)).mono fun _ _ ⟨h1, h2⟩ => ⟨by rw [h1, HB1.out], h2.symm⟩)))
          have hb3 := below_drewN hb2 nq
          go_wp2_with fail
          go_roundw
          case rel => exact ⟨k + 1, by omega, by go_num, hb3⟩
          case measure => simp [intOf]; omega
    · have HB1 := Lib.hid (show decide (fr ∈ L) = true from decide_eq_true (by rw [HL.out]; exact HRN.out))
      have hbb := hb.trans (hb2.mono hb.size)
      go_wp2_with fail
      refine (hasInt_any _ _ _ _ L fr _ (by have := HLn.out; omega) RLr.out).mono ?_
      rintro e wq ⟨rfl, rfl⟩
      rw [HB1.out]
      go_wp2_with fail
      go_ret
      exact ⟨rfl, hbb⟩

set_option maxRecDepth 100000 in
theorem postReach_lifted (os : Os) (started : os.Started) (H : Type) (enc : TypeId × Value → H) :
    ReturnsInHanded {} Try.checked os 10 .any (Rows.fnPostReachSpec.pre6 enc Try.prog Try.f10 Rows.fnPostReachRow.domain false) (Rows.fnPostReachSpec.post enc Try.prog Try.f10 false true false false) := by
  refine returnsInHanded_of_change (C := Try.checked) prog_own started (by kernel_rfl) Try.func10
    (ChangeSpec.witness6 (enc := enc) (C := Try.checked) false ⟨#[], #[.slice none 0 0], []⟩ 8 (by kernel_rfl) (by kernel_rfl) (by kernel_rfl) (by kernel_rfl)) ?_
  intro W base args ds gs before hval0 hW hcnd _
  have hval : ∀ (j : Nat) t v, Try.f10.params[j]? = some t → args[j]? = some v → Value.okWide Try.prog W .any base t v := hval0
  have hW' := hW
  obtain ⟨p, q, hA0, hV, rfl, hfz, hnd⟩ := hW
  have hA : DataW.TrodAll enc Try.prog W 0 (fun _ => true) true Try.f10.params.toList args.toList ds p := hA0
  rw [Try.params10] at hA hval
  obtain ⟨v0, vs0, d0, ds0, p0, q0, hargs, rfl, rfl, h0, r0⟩ := trodAll_cons hA
  obtain ⟨rfl, rfl, rfl⟩ := trodAll_nil r0
  obtain rfl : args = #[v0] := by cases args; simp_all
  obtain ⟨rfl, rfl⟩ := trodVars_none hV
  obtain ⟨a0, len0, cap0, rfl⟩ := okWide_slice Try.underlying22 (hval 0 22 v0 rfl rfl)
  have k0 := h0
  have lt0 : ∀ x ∈ p0, x.block < W.heap.size := by obtain ⟨m, hm⟩ := k0; exact DataW.trod_lt m _ _ _ hm
  obtain ⟨fuel0, hf0⟩ := h0
  obtain ⟨bs0, hm0, hb0, hc0⟩ := open_b1 Try.underlying22 Try.underlying5 (by kernel_rfl) hf0
  clear hA0 hval0
  refine (postReach_any a0 cap0 len0 bs0 W hm0 hb0 hc0).mono fun e W' ⟨he, bel⟩ => ?_
  subst he
  exact ⟨_, rfl, _, _, _, [], _, [], hW', trodAll_mk1 (shut_bool Try.underlying4 _), (trodAll_cons_mk (Below.trod prog_laidOut (by kernel_rfl) (of_decide_eq_true (by kernel_rfl)) k0 bel lt0) trodAll_mk0), rfl, bel.frame _, fun h => by cases h⟩

theorem postReach_holds : Rows.FnPostReachSaid :=
  OpenClaim.holds_of_wide 10 Try.f10 rfl rfl rfl rfl rfl rfl rfl ⟨rfl, rfl, rfl, rfl, rfl⟩ rfl rfl rfl rfl rfl (by kernel_rfl) Try.func10 (by kernel_rfl)
    (of_decide_eq_true (by kernel_rfl)) (by unfold Func.isWrapper; first | (rw [if_pos (by decide +kernel)]; kernel_rfl) | (rw [if_neg (by decide +kernel)]; exact ⟨rfl, rfl⟩))
    (fun os started H enc _ => postReach_lifted os started H enc)

end Go.Proofs.Ytdiichfdffhdaaa

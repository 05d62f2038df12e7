/-
  For every input the law FnShareRide returns true: a ride over all is shared by all miles.
-/
import Derived.Test.YtmeaegopenbelaaShareLaws
import Derived.Test.YtmeaegopenbelaaPartsArgs
import Derived.Test.YtmeaegopenbelaaShareI
import Derived.Test.YtmeaegopenbelaaLawFns
import Derived.Test.YtmeaegopenbelaaInts
namespace Go.Proofs.Ytmeaegopenbelaa
open Go.ChangeShapes Go.WideShapes Go.ChangeAt Go.RowKit

set_option maxRecDepth 100000 in
set_option maxHeartbeats 4000000 in
theorem shareRide_any (A0 : Option Addr) (c0 n0 : Nat) (bs0 : Nat → Int) (w : World) (hm0 : n0 ≤ maxLen) (hb0 : Byt w w.heap.size A0 n0 bs0) (hc0 : n0 ≤ c0) :
    Calls Try.prog 8 #[.slice A0 n0 c0] w fun e w' => e = .returned (.bool true) ∧ Below w.heap.size w w' := by
  unfold maxLen at hm0
  by_cases hbig0 : (1048576 : Int) < n0
  · go_enter Try.func8, Try.ntmps8
    go_wp2_with fail
    go_ret
    exact ⟨rfl, Below.refl _ _⟩
  have hn0 : n0 ≤ 1048576 := by omega
  have hni0 : (n0 : Int) ≤ 1048576 := by omega
  clear hm0
  go_enter Try.func8, Try.ntmps8
  go_wp2_with fail
  refine (dRide_any A0 n0 c0 bs0 _ hb0 hn0 hc0).mono ?_
  rintro e w1 ⟨A, c, ps, fm, tm, am, rfl, hl6, r_ps, hfm, htm, ham, hb⟩
  obtain ⟨hfm0, hfm1⟩ := hfm
  obtain ⟨a, ha⟩ : ∃ a, rideShV ps fm tm am = a := ⟨_, rfl⟩
  have HA := Lib.hid ha
  have hal : a.length ≤ 6 := by rw [← ha]; exact rideShV_len ps fm tm am
  clear ha
  cases hok : rideShOk ps fm tm am
  · have HOK := Lib.hid hok
    clear hok
    go_wp2_with fail
    refine (iShareRide_any _ _ _ _ ps fm tm am _ (by omega) r_ps (Nat.le_refl _)).mono ?_
    rintro e w2 ⟨P2, d2, rfl, o_a, hs⟩
    replace r_ps := (r_ps.below hs (Nat.le_refl _)).more (Nat.le_refl _) hs.size
    replace hb := hb.trans (hs.mono hb.size)
    clear hs
    rw [HA.out] at o_a ⊢
    rw [HOK.out]
    go_wp2_with fail
    refine (sShareRide_any _ _ _ _ ps fm tm am _ (by omega) r_ps (Nat.le_refl _) (by unfold in64; omega)).mono ?_
    rintro e w3 ⟨P3, d3, rfl, o_a2, hs⟩
    replace r_ps := (r_ps.below hs (Nat.le_refl _)).more (Nat.le_refl _) hs.size
    replace o_a := own_below o_a hs
    replace hb := hb.trans (hs.mono hb.size)
    clear hs
    rw [HA.out] at o_a2 ⊢
    rw [HOK.out]
    go_wp2_with fail
    refine (sameInts_any _ _ _ _ _ _ _ _ a a _ (by omega) (Rd.of_own o_a) (Rd.of_own o_a2)).mono ?_
    rintro e w4 ⟨rfl, hs⟩
    replace r_ps := (r_ps.below hs (Nat.le_refl _)).more (Nat.le_refl _) hs.size
    replace o_a := own_below o_a hs
    replace o_a2 := own_below o_a2 hs
    replace hb := hb.trans (hs.mono hb.size)
    clear hs
    rw [show decide (a = a) = true from decide_eq_true rfl]
    go_wp2_with fail
    refine (sameInts_any _ _ _ _ _ _ _ _ a a _ (by omega) (Rd.of_own o_a) (Rd.of_own o_a2)).mono ?_
    rintro e w5 ⟨rfl, hs⟩
    replace r_ps := (r_ps.below hs (Nat.le_refl _)).more (Nat.le_refl _) hs.size
    replace o_a := own_below o_a hs
    replace o_a2 := own_below o_a2 hs
    replace hb := hb.trans (hs.mono hb.size)
    clear hs
    rw [show decide (a = a) = true from decide_eq_true rfl]
    go_wp2_with fail
    go_ret
    exact ⟨rfl, by (repeat (first | exact Below.refl _ _ | assumption | apply below_alloc | apply below_drewN | apply Below.drew | refine Below.setCell ?_ (by simp; try omega) _))⟩
  have HOK := Lib.hid hok
  clear hok
  go_wp2_with fail
  refine (iShareRide_any _ _ _ _ ps fm tm am _ (by omega) r_ps (Nat.le_refl _)).mono ?_
  rintro e w2 ⟨P2, d2, rfl, o_a, hs⟩
  replace r_ps := (r_ps.below hs (Nat.le_refl _)).more (Nat.le_refl _) hs.size
  replace hb := hb.trans (hs.mono hb.size)
  clear hs
  rw [HA.out] at o_a ⊢
  rw [HOK.out]
  go_wp2_with fail
  refine (sShareRide_any _ _ _ _ ps fm tm am _ (by omega) r_ps (Nat.le_refl _) (by unfold in64; omega)).mono ?_
  rintro e w3 ⟨P3, d3, rfl, o_a2, hs⟩
  replace r_ps := (r_ps.below hs (Nat.le_refl _)).more (Nat.le_refl _) hs.size
  replace o_a := own_below o_a hs
  replace hb := hb.trans (hs.mono hb.size)
  clear hs
  rw [HA.out] at o_a2 ⊢
  rw [HOK.out]
  go_wp2_with fail
  refine (sameInts_any _ _ _ _ _ _ _ _ a a _ (by omega) (Rd.of_own o_a) (Rd.of_own o_a2)).mono ?_
  rintro e w4 ⟨rfl, hs⟩
  replace r_ps := (r_ps.below hs (Nat.le_refl _)).more (Nat.le_refl _) hs.size
  replace o_a := own_below o_a hs
  replace o_a2 := own_below o_a2 hs
  replace hb := hb.trans (hs.mono hb.size)
  clear hs
  rw [show decide (a = a) = true from decide_eq_true rfl]
  clear o_a2
  obtain ⟨p1, p2, p3, p4, p5, p6, p7, p8, p9, p10, p11, ⟨am0, am1⟩, p13⟩ := ride_share_law HOK.out
  rw [HA.out] at p11 p13
  obtain ⟨V, hV⟩ : ∃ V, V = makeV ps am := ⟨_, rfl⟩
  rw [← hV] at p7
  have hVl : V.length ≤ 6 := by rw [hV]; exact makeV_len _ _
  obtain ⟨U, hU⟩ : ∃ U, U = rideShV ps fm (fm + 1) am := ⟨_, rfl⟩
  rw [← hU] at p9 p10
  obtain ⟨ow, how⟩ : ∃ ow, ow = (ownersL ps).getD fm.toNat 0 := ⟨_, rfl⟩
  rw [← how] at p10
  have HOW := Lib.hid how
  have HLO := Lib.hid p4
  obtain ⟨N, hN⟩ : ∃ N : Int, N = ((ownersL ps).length : Nat) := ⟨_, rfl⟩
  rw [← hN] at p2 p6 p7
  have HP1 := Lib.hid p1
  have HP2 := Lib.hid p2
  have HP5 := Lib.hid p5
  have HP6 := Lib.hid p6
  have HP7 := Lib.hid p7
  have HP8 := Lib.hid p8
  have HP10 := Lib.hid p10
  have HP11 := Lib.hid p11
  have HP13 := Lib.hid p13
  have HU := Lib.hid hU
  have HVV := Lib.hid hV
  have hU6 : U.length ≤ 6 := by omega
  have hU6g : 6 ≤ U.length := by omega
  clear p1 p2 p3 p4 p5 p6 p7 p8 p9 p10 p11 p13 hV hU how hN
  have wf : IntKind.i64.wrap (fm + 1) = fm + 1 := IntWalk.i64_in _ (by omega)
  go_wp2_with fail
  refine (iPartsLength_any _ _ _ _ ps _ (by omega) r_ps (Nat.le_refl _)).mono ?_
  rintro e w5 ⟨rfl, hs⟩
  replace r_ps := (r_ps.below hs (Nat.le_refl _)).more (Nat.le_refl _) hs.size
  replace o_a := own_below o_a hs
  replace hb := hb.trans (hs.mono hb.size)
  clear hs
  rw [HP2.out]
  go_wp2_with fail
  refine (iShareRide_any _ _ _ _ ps 0 N am _ (by omega) r_ps (Nat.le_refl _)).mono ?_
  rintro e w6 ⟨P6, d6, rfl, o_x, hs⟩
  replace r_ps := (r_ps.below hs (Nat.le_refl _)).more (Nat.le_refl _) hs.size
  replace o_a := own_below o_a hs
  replace hb := hb.trans (hs.mono hb.size)
  clear hs
  rw [HP7.out] at o_x ⊢
  rw [HP6.out]
  go_wp2_with fail
  refine (iShareMake_any _ _ _ _ ps am _ (by omega) r_ps (Nat.le_refl _)).mono ?_
  rintro e w7 ⟨P7, d7, rfl, o_v, hs⟩
  replace r_ps := (r_ps.below hs (Nat.le_refl _)).more (Nat.le_refl _) hs.size
  replace o_a := own_below o_a hs
  replace o_x := own_below o_x hs
  replace hb := hb.trans (hs.mono hb.size)
  clear hs
  rw [← HVV.out] at o_v ⊢
  rw [HP5.out]
  go_wp2_with fail
  refine (iShareRide_any _ _ _ _ ps fm (fm + 1) am _ (by omega) r_ps (Nat.le_refl _)).mono ?_
  rintro e w8 ⟨P8, d8, rfl, o_u, hs⟩
  replace r_ps := (r_ps.below hs (Nat.le_refl _)).more (Nat.le_refl _) hs.size
  replace o_a := own_below o_a hs
  replace o_x := own_below o_x hs
  replace o_v := own_below o_v hs
  replace hb := hb.trans (hs.mono hb.size)
  clear hs
  rw [← HU.out] at o_u ⊢
  rw [HP8.out]
  go_wp2_with fail
  refine (iPartsOwner_any _ _ _ _ ps fm _ (by omega) HP1.out hfm0 HLO.out r_ps (Nat.le_refl _)).mono ?_
  rintro e w9 ⟨rfl, hs⟩
  replace r_ps := (r_ps.below hs (Nat.le_refl _)).more (Nat.le_refl _) hs.size
  replace o_a := own_below o_a hs
  replace o_x := own_below o_x hs
  replace o_v := own_below o_v hs
  replace o_u := own_below o_u hs
  replace hb := hb.trans (hs.mono hb.size)
  clear hs
  rw [← HOW.out]
  have HRA := Lib.hid (Rd.of_own o_a)
  have HRX := Lib.hid (Rd.of_own o_x)
  have HRV := Lib.hid (Rd.of_own o_v)
  obtain ⟨bu, ou, rfl, cu⟩ := (Rd.of_own o_u).all1 (by omega)
  have CU := Lib.hid cu
  clear cu o_a o_x o_v o_u r_ps wf
  go_wp2_with fail
  go_loopw [20] (fun i wr => ∃ (k q : Nat), k ≤ 6 ∧ i = .int .i64 k ∧ wr = w9.drewN q) (fun i _ => 6 - (intOf i).toNat)
  case atStart => exact ⟨0, 0, by omega, rfl, rfl⟩
  case round =>
    obtain ⟨k, q, hk, rfl, rfl⟩ := hrel
    by_cases hk6 : k < 6
    · have hku : (k : Int) < (U.length : Int) := by omega
      have hk0 : (0 : Int) ≤ (k : Int) := by omega
      have u1 := CU.out k (by omega)
      have hu := HP10.out k hk6
      generalize U.getD k 0 = x at *
      by_cases hko : (k : Int) = ow
      · rw [if_pos hko] at hu
        have t1 : ((k : Int) == ow) = true := by simp [hko]
        have t2 : ((k : Int) != ow) = false := by simp [hko]
        have t3 : (x != am) = false := by simp [hu]
        clear hko hu
        go_wp2_with fail
        go_roundw
        case rel => exact ⟨k + 1, q, by omega, by go_num, rfl⟩
        case measure => simp [intOf]; omega
      · rw [if_neg hko] at hu
        have t1 : ((k : Int) == ow) = false := by simp [hko]
        have t2 : ((k : Int) != ow) = true := by simp [hko]
        have t3 : (x != 0) = false := by simp [hu]
        clear hko hu
        go_wp2_with fail
        go_roundw
        case rel => exact ⟨k + 1, q, by omega, by go_num, rfl⟩
        case measure => simp [intOf]; omega
    · have hka : ¬ (k : Int) < (U.length : Int) := by omega
      have tt : (am == am) = true := by simp
      have hbb : Below w.heap.size w (w9.drewN q) := below_drewN hb q
      go_wp2_with fail
      refine (sameInts_any _ _ _ _ _ _ _ _ V V _ (by omega) (HRX.out.below (below_drewN (Below.refl _ _) q) (Nat.le_refl _)) (HRV.out.below (below_drewN (Below.refl _ _) q) (Nat.le_refl _))).mono ?_
      rintro e wq ⟨rfl, hs⟩
      rw [show decide (V = V) = true from decide_eq_true rfl]
      have hbc := hbb.trans (hs.mono hbb.size)
      have hra := (HRA.out.below (below_drewN (Below.refl _ _) q) (Nat.le_refl _)).below hs (Nat.le_refl _)
      clear hs
      go_wp2_with fail
      refine (sumOf_any _ _ _ _ a _ (by omega) hra (fun x hx => by have := HP13.out x hx; omega)).mono ?_
      rintro e wq' ⟨rfl, rfl⟩
      rw [HP11.out]
      go_wp2_with fail
      go_ret
      exact ⟨rfl, hbc⟩

set_option maxRecDepth 100000 in
theorem shareRide_lifted (os : Os) (started : os.Started) (H : Type) (enc : TypeId × Value → H) :
    ReturnsInHanded {} Try.checked os 8 .any (Rows.fnShareRideSpec.pre6 enc Try.prog Try.f8 Rows.fnShareRideRow.domain false) (Rows.fnShareRideSpec.post enc Try.prog Try.f8 false true false false) := by
  refine returnsInHanded_of_change (C := Try.checked) prog_own started (by kernel_rfl) Try.func8
    (ChangeSpec.witness6 (enc := enc) (C := Try.checked) false ⟨#[], #[.slice none 0 0], []⟩ 8 (by kernel_rfl) (by kernel_rfl) (by kernel_rfl) (by kernel_rfl)) ?_
  intro W base args ds gs before hval0 hW hcnd _
  have hval : ∀ (j : Nat) t v, Try.f8.params[j]? = some t → args[j]? = some v → Value.okWide Try.prog W .any base t v := hval0
  have hW' := hW
  obtain ⟨p, q, hA0, hV, rfl, hfz, hnd⟩ := hW
  have hA : DataW.TrodAll enc Try.prog W 0 (fun _ => true) true Try.f8.params.toList args.toList ds p := hA0
  rw [Try.params8] at hA hval
  obtain ⟨v0, vs0, d0, ds0, p0, q0, hargs, rfl, rfl, h0, r0⟩ := trodAll_cons hA
  obtain ⟨rfl, rfl, rfl⟩ := trodAll_nil r0
  obtain rfl : args = #[v0] := by cases args; simp_all
  obtain ⟨rfl, rfl⟩ := trodVars_none hV
  obtain ⟨a0, len0, cap0, rfl⟩ := okWide_slice Try.underlying22 (hval 0 22 v0 rfl rfl)
  have k0 := h0
  have lt0 : ∀ x ∈ p0, x.block < W.heap.size := by obtain ⟨m, hm⟩ := k0; exact DataW.trod_lt m _ _ _ hm
  obtain ⟨fuel0, hf0⟩ := h0
  obtain ⟨bs0, hm0, hb0, hc0⟩ := open_b1 Try.underlying22 Try.underlying5 (by kernel_rfl) hf0
  clear hA0 hval0
  refine (shareRide_any a0 cap0 len0 bs0 W hm0 hb0 hc0).mono fun e W' ⟨he, bel⟩ => ?_
  subst he
  exact ⟨_, rfl, _, _, _, [], _, [], hW', trodAll_mk1 (shut_bool Try.underlying4 _), (trodAll_cons_mk (Below.trod prog_laidOut (by kernel_rfl) (of_decide_eq_true (by kernel_rfl)) k0 bel lt0) trodAll_mk0), rfl, bel.frame _, fun h => by cases h⟩

theorem shareRide_holds : Rows.FnShareRideSaid :=
  OpenClaim.holds_of_wide 8 Try.f8 rfl rfl rfl rfl rfl rfl rfl ⟨rfl, rfl, rfl, rfl, rfl⟩ rfl rfl rfl rfl rfl (by kernel_rfl) Try.func8 (by kernel_rfl)
    (of_decide_eq_true (by kernel_rfl)) (by unfold Func.isWrapper; first | (rw [if_pos (by decide +kernel)]; kernel_rfl) | (rw [if_neg (by decide +kernel)]; exact ⟨rfl, rfl⟩))
    (fun os started H enc _ => shareRide_lifted os started H enc)

end Go.Proofs.Ytmeaegopenbelaa

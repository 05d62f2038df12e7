/-
  For every input the law FnLateStops returns true: a late coach runs by a later timetable.
-/
import Derived.Test.YteceohdchknbbaaSameStops
import Derived.Test.YteceohdchknbbaaLawFns
import Derived.Test.YteceohdchknbbaaLateArgs
import Derived.Test.YteceohdchknbbaaLate2
namespace Go.Proofs.Yteceohdchknbbaa
open Go.ChangeShapes Go.WideShapes Go.ChangeAt Go.RowKit

set_option maxRecDepth 100000 in
set_option maxHeartbeats 8000000 in
theorem lateStops_any (A0 : Option Addr) (c0 n0 : Nat) (bs0 : Nat → Int) (w : World) (hm0 : n0 ≤ maxLen) (hb0 : Byt w w.heap.size A0 n0 bs0) (hc0 : n0 ≤ c0) :
    Calls Try.prog 14 #[.slice A0 n0 c0] w fun e w' => e = .returned (.bool true) ∧ Below w.heap.size w w' := by
  unfold maxLen at hm0
  by_cases hbig0 : (1048576 : Int) < n0
  · go_enter Try.func14, Try.ntmps14
    go_wp2_with fail
    go_ret
    exact ⟨rfl, Below.refl _ _⟩
  have hn0 : n0 ≤ 1048576 := by omega
  have hni0 : (n0 : Int) ≤ 1048576 := by omega
  clear hm0
  go_enter Try.func14, Try.ntmps14
  go_wp2_with fail
  refine (drawLateStops_any A0 n0 c0 bs0 _ hb0 hn0 hc0).mono ?_
  rintro e w1 ⟨n, A, c, l, least, start, B, d, ds, rfl, hl, hd, o_l, r_d, hb⟩
  have hcap := own_cap o_l
  obtain ⟨o, ho⟩ : ∃ o, lstopsL n l least start ds = o := ⟨_, rfl⟩
  have HA := Lib.hid ho
  have hol : o.length ≤ 100 := by
    rw [← ho]; unfold lstopsL; split
    · rw [lmoved_len]; exact hl
    · simp
  clear ho
  cases hok : lstopsOk n l least start ds
  · have HOK := Lib.hid hok
    clear hok
    go_wp2_with fail
    refine (iStops_any n _ _ _ _ l least start _ _ _ _ ds _ (by omega) (Rd.of_own o_l) (Nat.le_refl _) (by omega) r_d (Nat.le_refl _) hcap).mono ?_
    rintro e w2 ⟨P2, d2, rfl, o_o, hs⟩
    replace o_l := own_below o_l hs
    replace r_d := (r_d.below hs (Nat.le_refl _)).more (Nat.le_refl _) hs.size
    replace hb := hb.trans (hs.mono hb.size)
    clear hs
    rw [HA.out] at o_o ⊢
    rw [HOK.out]
    go_wp2_with fail
    refine (sStops_any n _ _ _ _ l least start _ _ _ _ ds _ (by omega) (Rd.of_own o_l) (Nat.le_refl _) (by omega) r_d (Nat.le_refl _)).mono ?_
    rintro e w3 ⟨P3, d3, rfl, o_o2, hs⟩
    replace o_l := own_below o_l hs
    replace r_d := (r_d.below hs (Nat.le_refl _)).more (Nat.le_refl _) hs.size
    replace o_o := own_below o_o hs
    replace hb := hb.trans (hs.mono hb.size)
    clear hs
    rw [HA.out] at o_o2 ⊢
    rw [HOK.out]
    go_wp2_with fail
    refine (sameStops_any _ _ _ _ _ _ _ _ o o _ (by omega) (Rd.of_own o_o) (Rd.of_own o_o2)).mono ?_
    rintro e w4 ⟨rfl, hs⟩
    replace o_l := own_below o_l hs
    replace r_d := (r_d.below hs (Nat.le_refl _)).more (Nat.le_refl _) hs.size
    replace o_o := own_below o_o hs
    replace o_o2 := own_below o_o2 hs
    replace hb := hb.trans (hs.mono hb.size)
    clear hs
    rw [show decide (o = o) = true from decide_eq_true rfl]
    go_wp2_with fail
    refine (sameStops_any _ _ _ _ _ _ _ _ o o _ (by omega) (Rd.of_own o_o) (Rd.of_own o_o2)).mono ?_
    rintro e w5 ⟨rfl, hs⟩
    replace o_l := own_below o_l hs
    replace r_d := (r_d.below hs (Nat.le_refl _)).more (Nat.le_refl _) hs.size
    replace o_o := own_below o_o hs
    replace o_o2 := own_below o_o2 hs
    replace hb := hb.trans (hs.mono hb.size)
    clear hs
    rw [show decide (o = o) = true from decide_eq_true rfl]
    go_wp2_with fail
    go_ret
    exact ⟨rfl, by (repeat (first | exact Below.refl _ _ | assumption | apply below_alloc | apply below_drewN | apply Below.drew | refine Below.setCell ?_ (by simp; try omega) _))⟩
  have HOK := Lib.hid hok
  clear hok
  have hoe : o.length = l.length := by rw [← HA.out, lstopsL, if_pos HOK.out, lmoved_len]
  have hlo : lateOk n l least start ds = true := by have := HOK.out; simp only [lstopsOk, Bool.and_eq_true] at this; exact this.1
  obtain ⟨_, _, hl2, hl8⟩ := stopsB_n (slackOk_and (lateOk_and hlo).1).1
  obtain ⟨hm1, hm2, -, -⟩ := late_len hlo
  have hm : l.length - 1 < l.length := by omega
  have hm' : l.length - 1 < o.length := by omega
  have q1 : o.length ≤ l.length := by omega
  have q2 : l.length ≤ o.length := by omega
  have HOE := Lib.hid hoe
  clear hoe hlo
  obtain ⟨en, hen⟩ : ∃ en, en = endV n l least start ds := ⟨_, rfl⟩
  obtain ⟨-, -, k3, k4, k5, k6, k7, k8, k9, k10, k11, k12, k13⟩ := late_stops_law HOK.out HA.out.symm hen hm hm'
  obtain ⟨Z, hZ⟩ : ∃ Z, Z = List.replicate ds.length (0 : Int) := ⟨_, rfl⟩
  have hZl : Z.length ≤ 100 := by rw [hZ]; simp; omega
  rw [← hZ] at k10 k11
  have HEN := Lib.hid hen
  have HZ := Lib.hid hZ
  have K3 := Lib.hid k3
  have K9 := Lib.hid k9
  have K10 := Lib.hid k10
  have K11 := Lib.hid k11
  obtain ⟨om, hom⟩ : ∃ x, x = o[l.length - 1].2.1 := ⟨_, rfl⟩
  obtain ⟨lm, hlm⟩ : ∃ x, x = l[l.length - 1].2.1 := ⟨_, rfl⟩
  obtain ⟨rv, hrv⟩ : ∃ x, x = runS n o := ⟨_, rfl⟩
  obtain ⟨lv, hlv⟩ : ∃ x, x = runS n l := ⟨_, rfl⟩
  rw [← hom, ← hlm] at k12
  rw [← hrv, ← hlv] at k13
  have lb := stopsB_get k4 (l.length - 1) hm
  rw [← hlm] at lb
  have lb0 : 0 ≤ lm ∧ lm ≤ 10000 := by omega
  have lvb : -10001 ≤ lv ∧ lv ≤ 10000 := by
    have l0 := stopsB_get k4 0 (by omega)
    have l1 := stopsB_get k4 (l.length - 1) hm
    rw [hlv, runS, if_pos k4, getD_of_lt l _ _ hm, getD_of_lt l 0 _ (by omega)]
    omega
  obtain ⟨lb1, lb2⟩ := lb0
  obtain ⟨lv1, lv2⟩ := lvb
  have HOM := Lib.hid hom
  have HLM := Lib.hid hlm
  have HRV := Lib.hid hrv
  have HLV := Lib.hid hlv
  have HK12 := Lib.hid k12
  have HK13 := Lib.hid k13
  clear hen hZ k3 k4 k9 k10 k11 hom hlm hrv hlv k12 k13 lb
  go_wp2_with fail
  refine (iStops_any n _ _ _ _ l least start _ _ _ _ ds _ (by omega) (Rd.of_own o_l) (Nat.le_refl _) (by omega) r_d (Nat.le_refl _) hcap).mono ?_
  rintro e w2 ⟨P2, d2, rfl, o_o, hs⟩
  replace o_l := own_below o_l hs
  replace r_d := (r_d.below hs (Nat.le_refl _)).more (Nat.le_refl _) hs.size
  replace hb := hb.trans (hs.mono hb.size)
  clear hs
  rw [HA.out] at o_o ⊢
  rw [HOK.out]
  go_wp2_with fail
  refine (sStops_any n _ _ _ _ l least start _ _ _ _ ds _ (by omega) (Rd.of_own o_l) (Nat.le_refl _) (by omega) r_d (Nat.le_refl _)).mono ?_
  rintro e w3 ⟨P3, d3, rfl, o_o2, hs⟩
  replace o_l := own_below o_l hs
  replace r_d := (r_d.below hs (Nat.le_refl _)).more (Nat.le_refl _) hs.size
  replace o_o := own_below o_o hs
  replace hb := hb.trans (hs.mono hb.size)
  clear hs
  rw [HA.out] at o_o2 ⊢
  rw [HOK.out]
  go_wp2_with fail
  refine (sameStops_any _ _ _ _ _ _ _ _ o o _ (by omega) (Rd.of_own o_o) (Rd.of_own o_o2)).mono ?_
  rintro e w4 ⟨rfl, hs⟩
  replace o_l := own_below o_l hs
  replace r_d := (r_d.below hs (Nat.le_refl _)).more (Nat.le_refl _) hs.size
  replace o_o := own_below o_o hs
  replace o_o2 := own_below o_o2 hs
  replace hb := hb.trans (hs.mono hb.size)
  clear hs
  rw [show decide (o = o) = true from decide_eq_true rfl]
  clear o_o2
  go_wp2_with fail
  refine (iEnd_any n _ _ _ _ l least start _ _ _ _ ds _ (by omega) (Rd.of_own o_l) (Nat.le_refl _) (by omega) r_d (Nat.le_refl _) hcap).mono ?_
  rintro e w5 ⟨rfl, hs⟩
  replace o_l := own_below o_l hs
  replace r_d := (r_d.below hs (Nat.le_refl _)).more (Nat.le_refl _) hs.size
  replace o_o := own_below o_o hs
  replace hb := hb.trans (hs.mono hb.size)
  clear hs
  rw [← HEN.out]
  go_wp2_with fail
  refine (nothing_any ds.length _ (by omega)).mono ?_
  rintro e w6 ⟨P6, d6, rfl, o_z, hs⟩
  replace o_l := own_below o_l hs
  replace r_d := (r_d.below hs (Nat.le_refl _)).more (Nat.le_refl _) hs.size
  replace o_o := own_below o_o hs
  replace hb := hb.trans (hs.mono hb.size)
  clear hs
  rw [← HZ.out] at o_z ⊢
  go_wp2_with fail
  refine (iStops_any n _ _ _ _ l least 0 _ _ _ _ Z _ (by omega) (Rd.of_own o_l) (Nat.le_refl _) (by omega) (Rd.of_own o_z) (Nat.le_refl _) hcap).mono ?_
  rintro e w7 ⟨P7, d7, rfl, o_s, hs⟩
  replace o_l := own_below o_l hs
  replace r_d := (r_d.below hs (Nat.le_refl _)).more (Nat.le_refl _) hs.size
  replace o_o := own_below o_o hs
  replace o_z := own_below o_z hs
  replace hb := hb.trans (hs.mono hb.size)
  clear hs
  rw [K11.out] at o_s ⊢
  rw [K10.out]
  have RL := Lib.hid (Rd.of_own o_l)
  have RO := Lib.hid (Rd.of_own o_o)
  have RS := Lib.hid (Rd.of_own o_s)
  clear o_l o_o o_s o_z r_d
  go_wp2_with fail
  go_loopw [15] (fun i wr => ∃ (k q : Nat), k ≤ o.length ∧ i = .int .i64 k ∧ wr = w7.drewN q) (fun i _ => o.length - (intOf i).toNat)
  case atStart => exact ⟨0, 0, by omega, rfl, rfl⟩
  case round =>
    obtain ⟨k, q, hk, rfl, rfl⟩ := hrel
    by_cases hlt : k < o.length
    · have hkl : k < l.length := by omega
      obtain ⟨b1, o1, rfl, -, -, c0, c1, c2⟩ := RL.out.at3 k hkl
      obtain ⟨b2, o2, rfl, -, -, d0, d1, d2⟩ := RO.out.at3 k hlt
      obtain ⟨r1, r2, r3⟩ := K9.out k hkl hlt
      generalize o[k] = x at *
      generalize l[k] = y at *
      have t1 : (x.1 != y.1) = false := not_wrong r1
      have t2 : decide (x.2.1 < y.2.1) = false := decide_eq_false (by omega)
      have t3 : decide (x.2.2 < y.2.2) = false := decide_eq_false (by omega)
      have z1 : (0 : Int) ≤ (k : Int) := by omega
      have z2 : (k : Int) < (l.length : Int) := by omega
      have z3 : (k : Int) < (o.length : Int) := by omega
      clear r1 r2 r3
      go_wp2_with fail
      go_quiet (fail)
      go_wp2_with fail
      go_roundw
      case rel => exact ⟨k + 1, _, by omega, by go_num, rfl⟩
      case measure => simp [intOf]; omega
    obtain ⟨W, hW⟩ : ∃ W, W = w7.drewN q := ⟨_, rfl⟩
    have rl := RL.out.drewN q
    have ro := RO.out.drewN q
    have rs := RS.out.drewN q
    have hbW : Below w.heap.size w W := by rw [hW]; exact below_drewN hb q
    have hWs : W.heap.size = w7.heap.size := by rw [hW]; rfl
    rw [← hW] at rl ro rs ⊢
    rw [← hWs] at rl ro rs
    clear hW hWs
    obtain ⟨bl, ol, rfl, -, hbl, -, cl, -⟩ := rl.at3 (l.length - 1) hm
    obtain ⟨bo, oo, rfl, -, hbo, -, co, -⟩ := ro.at3 (l.length - 1) hm'
    rw [← HLM.out] at cl
    rw [← HOM.out] at co
    obtain ⟨mi, hmi⟩ : ∃ mi, mi = (l.length : Int) - 1 := ⟨_, rfl⟩
    have hmt : l.length - 1 = mi.toNat := by omega
    rw [hmt] at cl co
    have i1 : 0 ≤ mi := by omega
    have i2 : mi < (o.length : Int) := by omega
    have i3 : mi < (l.length : Int) := by omega
    have p5 : (l.length : Int) - 1 = mi := hmi.symm
    clear hmt
    have t1 : (om == lm + en) = true := by rw [beq_iff_eq]; exact HK12.out
    have t2 : (rv == lv + en - start) = true := by rw [beq_iff_eq]; exact HK13.out
    have p1 : IntKind.i64.wrap (lm + en) = lm + en := IntWalk.i64_in _ (by omega)
    have p2 : IntKind.i64.wrap (lv + en) = lv + en := IntWalk.i64_in _ (by omega)
    have p3 : IntKind.i64.wrap (lv + en - start) = lv + en - start := IntWalk.i64_in _ (by omega)
    have p4 : IntKind.i64.wrap mi = mi := IntWalk.i64_in _ (by omega)
    clear hmi
    have rl1 := Lib.hid rl
    have ro1 := Lib.hid ro
    have rs1 := Lib.hid rs
    clear rl ro rs
    have HBL := Lib.hid hbl
    have HBO := Lib.hid hbo
    have tokR : True := trivial
    go_wp2_with fail
    clear p5 p4
    go_region_held3 (fun w' => w'.cell? ⟨bl, ol + mi.toNat * 3 + 1, none⟩ = some (.int .i64 lm) ∧ w'.cell? ⟨bo, oo + mi.toNat * 3 + 1, none⟩ = some (.int .i64 om)) (go_keep)
      (first
        | (go_at_call 53; refine (sameStops_any _ _ _ _ _ _ _ _ l l W.drew (by omega) (by exact rs1.out.drew) (by exact rl1.out.drew)).mono ?_; rintro e w21 ⟨rfl, hb2'⟩; rw [show decide (l = l) = true from decide_eq_true rfl]; have hb2 := below_of_drew hb2'; have hcb : ∀ b o, b < W.heap.size → w21.cell? ⟨b, o, none⟩ = W.cell? ⟨b, o, none⟩ := cell_below hb2; have ro2 := Lib.hid ((ro1.out.below hb2 (Nat.le_refl _)).more (Nat.le_refl _) hb2.size); have rl2 := Lib.hid ((rl1.out.below hb2 (Nat.le_refl _)).more (Nat.le_refl _) hb2.size))
        | (go_at_call 54; refine (iStopsValid n _ _ _ _ o w21 (by omega) ro2.out (Nat.le_refl _)).mono ?_; rintro e w22 ⟨rfl, hb3⟩; rw [K3.out]; have hbl21 : bl < w21.heap.size := Nat.lt_of_lt_of_le HBL.out hb2.size; have hbo21 : bo < w21.heap.size := Nat.lt_of_lt_of_le HBO.out hb2.size; have hcc : ∀ b o, b < w21.heap.size → w22.cell? ⟨b, o, none⟩ = w21.cell? ⟨b, o, none⟩ := cell_below hb3; have ro3 := Lib.hid ((ro2.out.below hb3 (Nat.le_refl _)).more (Nat.le_refl _) hb3.size); have rl3 := Lib.hid ((rl2.out.below hb3 (Nat.le_refl _)).more (Nat.le_refl _) hb3.size))
        | (go_at_call 55; have _t := tokR; refine (iStopsRun n _ _ _ _ o w22 (by omega) ro3.out (Nat.le_refl _)).mono ?_; rintro e w23 ⟨rfl, hb4⟩; rw [← HRV.out]; have hbl22 : bl < w22.heap.size := Nat.lt_of_lt_of_le hbl21 hb3.size; have hbo22 : bo < w22.heap.size := Nat.lt_of_lt_of_le hbo21 hb3.size; have hcd : ∀ b o, b < w22.heap.size → w23.cell? ⟨b, o, none⟩ = w22.cell? ⟨b, o, none⟩ := cell_below hb4; have rl4 := Lib.hid ((rl3.out.below hb4 (Nat.le_refl _)).more (Nat.le_refl _) hb4.size); clear tokR)
        | (go_at_call 55; refine (iStopsRun n _ _ _ _ l w23 (by omega) rl4.out (Nat.le_refl _)).mono ?_; rintro e w24 ⟨rfl, hb5⟩; rw [← HLV.out]; have hbl23 : bl < w23.heap.size := Nat.lt_of_lt_of_le hbl22 hb4.size; have hbo23 : bo < w23.heap.size := Nat.lt_of_lt_of_le hbo22 hb4.size; have hce : ∀ b o, b < w23.heap.size → w24.cell? ⟨b, o, none⟩ = w23.cell? ⟨b, o, none⟩ := cell_below hb5))
    have hbb := hb2.trans ((hb3.mono hb2.size).trans ((hb4.mono (Nat.le_trans hb2.size hb3.size)).trans (hb5.mono (Nat.le_trans (Nat.le_trans hb2.size hb3.size) hb4.size))))
    clear hcb hcc hcd hce
    go_wp2_with fail
    go_ret
    exact ⟨rfl, hbW.trans (hbb.mono hbW.size)⟩

set_option maxRecDepth 100000 in
theorem lateStops_lifted (os : Os) (started : os.Started) (H : Type) (enc : TypeId × Value → H) :
    ReturnsInHanded {} Try.checked os 14 .any (Rows.fnLateStopsSpec.pre6 enc Try.prog Try.f14 Rows.fnLateStopsRow.domain false) (Rows.fnLateStopsSpec.post enc Try.prog Try.f14 false true false false) := by
  refine returnsInHanded_of_change (C := Try.checked) prog_own started (by kernel_rfl) Try.func14
    (ChangeSpec.witness6 (enc := enc) (C := Try.checked) false ⟨#[], #[.slice none 0 0], []⟩ 8 (by kernel_rfl) (by kernel_rfl) (by kernel_rfl) (by kernel_rfl)) ?_
  intro W base args ds gs before hval0 hW hcnd _
  have hval : ∀ (j : Nat) t v, Try.f14.params[j]? = some t → args[j]? = some v → Value.okWide Try.prog W .any base t v := hval0
  have hW' := hW
  obtain ⟨p, q, hA0, hV, rfl, hfz, hnd⟩ := hW
  have hA : DataW.TrodAll enc Try.prog W 0 (fun _ => true) true Try.f14.params.toList args.toList ds p := hA0
  rw [Try.params14] at hA hval
  obtain ⟨v0, vs0, d0, ds0, p0, q0, hargs, rfl, rfl, h0, r0⟩ := trodAll_cons hA
  obtain ⟨rfl, rfl, rfl⟩ := trodAll_nil r0
  obtain rfl : args = #[v0] := by cases args; simp_all
  obtain ⟨rfl, rfl⟩ := trodVars_none hV
  obtain ⟨a0, len0, cap0, rfl⟩ := okWide_slice Try.underlying22 (hval 0 22 v0 rfl rfl)
  have k0 := h0
  have lt0 : ∀ x ∈ p0, x.block < W.heap.size := by obtain ⟨m, hm⟩ := k0; exact DataW.trod_lt m _ _ _ hm
  obtain ⟨fuel0, hf0⟩ := h0
  obtain ⟨bs0, hm0, hb0, hc0⟩ := open_b1 Try.underlying22 Try.underlying5 (by kernel_rfl) hf0
  clear hA0 hval0
  refine (lateStops_any a0 cap0 len0 bs0 W hm0 hb0 hc0).mono fun e W' ⟨he, bel⟩ => ?_
  subst he
  exact ⟨_, rfl, _, _, _, [], _, [], hW', trodAll_mk1 (shut_bool Try.underlying4 _), (trodAll_cons_mk (Below.trod prog_laidOut (by kernel_rfl) (of_decide_eq_true (by kernel_rfl)) k0 bel lt0) trodAll_mk0), rfl, bel.frame _, fun h => by cases h⟩

theorem lateStops_holds : Rows.FnLateStopsSaid :=
  OpenClaim.holds_of_wide 14 Try.f14 rfl rfl rfl rfl rfl rfl rfl ⟨rfl, rfl, rfl, rfl, rfl⟩ rfl rfl rfl rfl rfl (by kernel_rfl) Try.func14 (by kernel_rfl)
    (of_decide_eq_true (by kernel_rfl)) (by unfold Func.isWrapper; first | (rw [if_pos (by decide +kernel)]; kernel_rfl) | (rw [if_neg (by decide +kernel)]; exact ⟨rfl, rfl⟩))
    (fun os started H enc _ => lateStops_lifted os started H enc)

end Go.Proofs.Yteceohdchknbbaa

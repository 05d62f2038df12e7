/-
  For every input the law FnLateBlame returns true: blame is at most the delay.
-/
import Derived.Test.YtjpjglpabnlobaaLateLaws2
import Derived.Test.YtjpjglpabnlobaaLawFns
import Derived.Test.YtjpjglpabnlobaaLateArgs
import Derived.Test.YtjpjglpabnlobaaLateBlame
namespace Go.Proofs.Ytjpjglpabnlobaa
open Go.ChangeShapes Go.WideShapes Go.ChangeAt Go.RowKit

set_option maxRecDepth 100000 in
set_option maxHeartbeats 4000000 in
theorem lateBlame_any (A0 : Option Addr) (c0 n0 : Nat) (bs0 : Nat → Int) (w : World) (hm0 : n0 ≤ maxLen) (hb0 : Byt w w.heap.size A0 n0 bs0) (hc0 : n0 ≤ c0) :
    Calls Try.prog 8 #[.slice A0 n0 c0] w fun e w' => e = .returned (.bool true) ∧ Below w.heap.size w w' := by
  unfold maxLen at hm0
  by_cases hbig0 : (1048576 : Int) < n0
  · go_enter Try.func8, Try.ntmps8
    go_wp2_with fail
    go_ret
    exact ⟨rfl, Below.refl _ _⟩
  have hn0 : n0 ≤ 1048576 := by omega
  have hni0 : (n0 : Int) ≤ 1048576 := by omega
  clear hm0
  go_enter Try.func8, Try.ntmps8
  go_wp2_with fail
  refine (drawLateBlame_any A0 n0 c0 bs0 _ hb0 hn0 hc0).mono ?_
  rintro e w1 ⟨n, A, c, l, least, start, B, d, ds, k, rfl, hl, hd, o_l, r_d, hb⟩
  have hcap := own_cap o_l
  obtain ⟨v, hv⟩ : ∃ v, v = blameV n l least start ds k := ⟨_, rfl⟩
  have HV := Lib.hid hv
  clear hv
  go_wp2_with fail
  refine (iBlame_any n _ _ _ _ l least start _ _ _ _ ds k _ (by omega) (Rd.of_own o_l) (Nat.le_refl _) (by omega) r_d (Nat.le_refl _) hcap).mono ?_
  rintro e w2 ⟨rfl, hs⟩
  replace o_l := own_below o_l hs
  replace r_d := (r_d.below hs (Nat.le_refl _)).more (Nat.le_refl _) hs.size
  replace hb := hb.trans (hs.mono hb.size)
  clear hs
  rw [← HV.out]
  go_wp2_with fail
  refine (sBlame_any n _ _ _ _ l least start _ _ _ _ ds k _ (by omega) (Rd.of_own o_l) (Nat.le_refl _) (by omega) r_d (Nat.le_refl _)).mono ?_
  rintro e w3 ⟨rfl, hs⟩
  replace o_l := own_below o_l hs
  replace r_d := (r_d.below hs (Nat.le_refl _)).more (Nat.le_refl _) hs.size
  replace hb := hb.trans (hs.mono hb.size)
  clear hs
  rw [← HV.out]
  have hne : (v != v) = false := by simp
  have hee : (v == v) = true := by simp
  by_cases hneg : v < 0
  · have hd0 : decide (v < 0) = true := decide_eq_true hneg
    go_wp2_with fail
    go_ret
    exact ⟨rfl, by (repeat (first | exact Below.refl _ _ | assumption | apply below_alloc | apply below_drewN | apply Below.drew | refine Below.setCell ?_ (by simp; try omega) _))⟩
  have hd0 : decide (v < 0) = false := decide_eq_false hneg
  have hv0 : 0 ≤ v := by omega
  obtain ⟨hok, hk0, hk1⟩ := blameV_ok (n := n) (l := l) (least := least) (start := start) (ds := ds) (k := k) (by rw [← HV.out]; exact hv0)
  obtain ⟨hm1, hm2, hm3, hm4⟩ := late_len hok
  have HOK := Lib.hid hok
  have HDS := Lib.hid (lateOk_ds hok)
  obtain ⟨en, hen⟩ : ∃ en, en = endV n l least start ds := ⟨_, rfl⟩
  have HEN := Lib.hid hen
  have HB := Lib.hid (fun j hj => late_blame_law hok hen j hj)
  clear hok hen hneg hm3 hm4
  have hkt : k.toNat < ds.length := by omega
  obtain ⟨b1, b2, b3⟩ := HB.out k.toNat hkt
  rw [Int.toNat_of_nonneg hk0, ← HV.out] at b1 b2 b3
  have hll : ds.length - 1 < ds.length := by omega
  have hlast := late_blame_last HOK.out hll
  have hcl : ((ds.length - 1 : Nat) : Int) = (ds.length : Int) - 1 := by omega
  rw [hcl] at hlast
  have HLAST := Lib.hid hlast
  clear hlast hcl
  go_wp2_with fail
  refine (iBlame_any n _ _ _ _ l least start _ _ _ _ ds ((ds.length : Int) - 1) _ (by omega) (Rd.of_own o_l) (Nat.le_refl _) (by omega) r_d (Nat.le_refl _) hcap).mono ?_
  rintro e w4 ⟨rfl, hs⟩
  replace o_l := own_below o_l hs
  replace r_d := (r_d.below hs (Nat.le_refl _)).more (Nat.le_refl _) hs.size
  replace hb := hb.trans (hs.mono hb.size)
  clear hs
  rw [HLAST.out]
  obtain ⟨bd, od, rfl, cd⟩ := r_d.all1 (by omega)
  have HCD := Lib.hid cd
  clear cd
  have HS300 := Lib.hid (fun j (hj : j ≤ ds.length) => sumI_take_bd ds 300 j (fun x hx => by have := HDS.out x hx; omega) hj)
  obtain ⟨y, hy⟩ : ∃ y, y = ds[ds.length - 1] := ⟨_, rfl⟩
  rw [← hy]
  have HY := Lib.hid hy
  clear hy
  obtain ⟨z, hz⟩ : ∃ z, z = ds[k.toNat] := ⟨_, rfl⟩
  rw [← hz] at b2
  have HZ := Lib.hid hz
  clear hz
  go_wp2_with fail
  go_loopw [12, 13] (fun s i wr => ∃ (j : Nat) (sm : Int), j ≤ ds.length ∧ i = .int .i64 j ∧ s = .int .i64 sm ∧ 0 ≤ sm ∧ sm ≤ sumI (ds.take j) ∧ Below w4.heap.size w4 wr) (fun _ i _ => ds.length - (intOf i).toNat)
  case atStart => exact ⟨0, 0, by omega, rfl, rfl, by omega, by simp [sumI_nil], Below.refl _ _⟩
  case round =>
    obtain ⟨j, sm, hj, rfl, rfl, hs0, hs1, hbw⟩ := hrel
    have r_d := (r_d.below hbw (Nat.le_refl _)).more (Nat.le_refl _) hbw.size
    have o_l := own_below o_l hbw
    have hb := hb.trans (hbw.mono hb.size)
    by_cases hlt : j < ds.length
    · obtain ⟨b4, b5, b6⟩ := HB.out j hlt
      have hsb := HS300.out (j + 1) (by omega)
      have hst := sumI_take_succ ds j hlt
      have hdj := HDS.out ds[j] (List.getElem_mem hlt)
      have cj := HCD.out j hlt
      rw [getD_get hlt] at cj
      have cj2 := fun (W : World) (hW : Below w4.heap.size w4 W) => (hW.cell (p := ⟨bd, od + j, none⟩) (by have := World.block_lt_of_cell? _ _ cj; exact this)).trans cj
      obtain ⟨x, hx⟩ : ∃ x, x = blameV n l least start ds (j : Int) := ⟨_, rfl⟩
      rw [← hx] at b4 b5 b6
      have HX := Lib.hid hx
      have CJ2 := Lib.hid cj2
      have HST := Lib.hid hst
      clear hx cj cj2
      have hle : sm + x ≤ sumI (ds.take (j + 1)) := by rw [hst]; omega
      have hle2 : sm + x ≤ 3000 := by
        have : ((j + 1 : Nat) : Int) ≤ 7 := by omega
        have h2 := hsb.2
        have : ((j + 1 : Nat) : Int) * 300 ≤ 7 * 300 := by omega
        omega
      clear hsb hst
      generalize ds[j] = dj at *
      have t1 : decide (x < 0) = false := decide_eq_false (by omega)
      have t2 : decide (dj < x) = false := decide_eq_false (by omega)
      go_wp2_with fail
      refine (iBlame_any n _ _ _ _ l least start _ _ _ _ ds (j : Int) _ (by omega) (Rd.of_own o_l) (Nat.le_refl _) (by omega) r_d (Nat.le_refl _) hcap).mono ?_
      rintro e w9 ⟨rfl, hs⟩
      rw [← HX.out]
      have hbw9 := hbw.trans (hs.mono hbw.size)
      have cj := CJ2.out _ hbw9
      have z1 : (0 : Int) ≤ (j : Int) := by omega
      have z2 : (j : Int) < (ds.length : Int) := by omega
      go_wp2_with fail
      try go_quiet (fail)
      try go_wp2_with fail
      go_roundw
      case rel => exact ⟨j + 1, sm + x, by omega, by go_num, rfl, by omega, hle, by (repeat (first | exact Below.refl _ _ | assumption | apply below_alloc | apply below_drewN | apply Below.drew | refine Below.setCell ?_ (by simp; try omega) _))⟩
      case measure => simp [intOf]; omega
    · have hjl : j = ds.length := by omega
      have hsl : sm ≤ sumI ds := by rw [hjl, List.take_of_length_le (Nat.le_refl _)] at hs1; exact hs1
      have hsd := sumI_bd ds 300 (fun k hk => HDS.out _ (List.getElem_mem hk))
      obtain ⟨sd, hsd2⟩ : ∃ sd, sd = sumI ds := ⟨_, rfl⟩
      rw [← hsd2] at hsl hsd
      have HSD := Lib.hid hsd2
      have hsd3 : 0 ≤ sd ∧ sd ≤ 3000 := by omega
      obtain ⟨hsd4, hsd5⟩ := hsd3
      clear hsd hsd2 hs1
      have c1 := HCD.out k.toNat hkt
      have c2 := HCD.out (ds.length - 1) hll
      rw [getD_get hkt, ← HZ.out] at c1
      rw [getD_get hll, ← HY.out] at c2
      have hb1 := World.block_lt_of_cell? _ _ c1
      have c1' := (hbw.cell (p := ⟨bd, od + k.toNat, none⟩) hb1).trans c1
      have c2' := (hbw.cell (p := ⟨bd, od + (ds.length - 1), none⟩) hb1).trans c2
      clear c1 c2 hjl
      have hb2 : bd < wr.heap.size := by have := hbw.size; simp only at hb1; omega
      go_wp2_with fail
      refine (iEnd_any n _ _ _ _ l least start _ _ _ _ ds _ (by omega) (Rd.of_own o_l) (Nat.le_refl _) (by omega) r_d (Nat.le_refl _) hcap).mono ?_
      rintro e w9 ⟨rfl, hs⟩
      rw [← HEN.out]
      have c3 := (hs.cell (p := ⟨bd, od + k.toNat, none⟩) hb2).trans c1'
      have c4 := (hs.cell (p := ⟨bd, od + (ds.length - 1), none⟩) hb2).trans c2'
      have RD := Lib.hid ((r_d.below hs (Nat.le_refl _)).more (Nat.le_refl _) hs.size)
      have hb9 := hb.trans (hs.mono hb.size)
      clear c1' c2'
      have hcast2 : ((ds.length : Int) - 1).toNat = ds.length - 1 := by omega
      have i2 : 0 ≤ (ds.length : Int) - 1 := by omega
      have t1 : decide (v ≤ z) = true := decide_eq_true b2
      have t2 : (y == y) = true := by simp
      have t3 : decide (sm ≤ sd) = true := decide_eq_true hsl
      have t4 : decide (v ≤ en) = true := decide_eq_true b3
      have q1 : IntKind.i64.wrap ((ds.length : Int) - 1) = (ds.length : Int) - 1 := IntWalk.i64_in _ (by omega)
      go_wp2_with fail
      refine (sumOf_any _ _ _ _ ds _ (by omega) RD.out (fun x hx => by have := HDS.out x hx; omega)).mono ?_
      rintro e wq ⟨rfl, rfl⟩
      rw [← HSD.out]
      go_wp2_with fail
      go_ret
      exact ⟨rfl, hb9⟩

set_option maxRecDepth 100000 in
theorem lateBlame_lifted (os : Os) (started : os.Started) (H : Type) (enc : TypeId × Value → H) :
    ReturnsInHanded {} Try.checked os 8 .any (Rows.fnLateBlameSpec.pre6 enc Try.prog Try.f8 Rows.fnLateBlameRow.domain false) (Rows.fnLateBlameSpec.post enc Try.prog Try.f8 false true false false) := by
  refine returnsInHanded_of_change (C := Try.checked) prog_own started (by kernel_rfl) Try.func8
    (ChangeSpec.witness6 (enc := enc) (C := Try.checked) false ⟨#[], #[.slice none 0 0], []⟩ 8 (by kernel_rfl) (by kernel_rfl) (by kernel_rfl) (by kernel_rfl)) ?_
  intro W base args ds gs before hval0 hW hcnd _
  have hval : ∀ (j : Nat) t v, Try.f8.params[j]? = some t → args[j]? = some v → Value.okWide Try.prog W .any base t v := hval0
  have hW' := hW
  obtain ⟨p, q, hA0, hV, rfl, hfz, hnd⟩ := hW
  have hA : DataW.TrodAll enc Try.prog W 0 (fun _ => true) true Try.f8.params.toList args.toList ds p := hA0
  rw [Try.params8] at hA hval
  obtain ⟨v0, vs0, d0, ds0, p0, q0, hargs, rfl, rfl, h0, r0⟩ := trodAll_cons hA
  obtain ⟨rfl, rfl, rfl⟩ := trodAll_nil r0
  obtain rfl : args = #[v0] := by cases args; simp_all
  obtain ⟨rfl, rfl⟩ := trodVars_none hV
  obtain ⟨a0, len0, cap0, rfl⟩ := okWide_slice Try.underlying22 (hval 0 22 v0 rfl rfl)
  have k0 := h0
  have lt0 : ∀ x ∈ p0, x.block < W.heap.size := by obtain ⟨m, hm⟩ := k0; exact DataW.trod_lt m _ _ _ hm
  obtain ⟨fuel0, hf0⟩ := h0
  obtain ⟨bs0, hm0, hb0, hc0⟩ := open_b1 Try.underlying22 Try.underlying5 (by kernel_rfl) hf0
  clear hA0 hval0
  refine (lateBlame_any a0 cap0 len0 bs0 W hm0 hb0 hc0).mono fun e W' ⟨he, bel⟩ => ?_
  subst he
  exact ⟨_, rfl, _, _, _, [], _, [], hW', trodAll_mk1 (shut_bool Try.underlying4 _), (trodAll_cons_mk (Below.trod prog_laidOut (by kernel_rfl) (of_decide_eq_true (by kernel_rfl)) k0 bel lt0) trodAll_mk0), rfl, bel.frame _, fun h => by cases h⟩

theorem lateBlame_holds : Rows.FnLateBlameSaid :=
  OpenClaim.holds_of_wide 8 Try.f8 rfl rfl rfl rfl rfl rfl rfl ⟨rfl, rfl, rfl, rfl, rfl⟩ rfl rfl rfl rfl rfl (by kernel_rfl) Try.func8 (by kernel_rfl)
    (of_decide_eq_true (by kernel_rfl)) (by unfold Func.isWrapper; first | (rw [if_pos (by decide +kernel)]; kernel_rfl) | (rw [if_neg (by decide +kernel)]; exact ⟨rfl, rfl⟩))
    (fun os started H enc _ => lateBlame_lifted os started H enc)

end Go.Proofs.Ytjpjglpabnlobaa

/-
  For every input the law FnLateMore returns true: more delay is no less lateness.
-/
import Derived.Test.YtjpjglpabnlobaaLateLaws2
import Derived.Test.YtjpjglpabnlobaaLawFns
import Derived.Test.YtjpjglpabnlobaaLateArgs
import Derived.Test.YtjpjglpabnlobaaLate2
import Derived.Test.YtjpjglpabnlobaaLateLen
namespace Go.Proofs.Ytjpjglpabnlobaa
open Go.ChangeShapes Go.WideShapes Go.ChangeAt Go.RowKit

set_option maxRecDepth 100000 in
set_option maxHeartbeats 8000000 in
theorem lateMore_any (A0 : Option Addr) (c0 n0 : Nat) (bs0 : Nat → Int) (A1 : Option Addr) (c1 n1 : Nat) (bs1 : Nat → Int) (w : World) (hm0 : n0 ≤ maxLen) (hb0 : Byt w w.heap.size A0 n0 bs0) (hc0 : n0 ≤ c0) (hm1 : n1 ≤ maxLen) (hb1 : Byt w w.heap.size A1 n1 bs1) (hc1 : n1 ≤ c1) :
    Calls Try.prog 6 #[.slice A0 n0 c0, .slice A1 n1 c1] w fun e w' => e = .returned (.bool true) ∧ Below w.heap.size w w' := by
  unfold maxLen at hm0 hm1
  by_cases hbig0 : (1048576 : Int) < n0
  · go_enter Try.func6, Try.ntmps6
    go_wp2_with fail
    go_ret
    exact ⟨rfl, Below.refl _ _⟩
  by_cases hbig1 : (1048576 : Int) < n1
  · go_enter Try.func6, Try.ntmps6
    go_wp2_with fail
    go_ret
    exact ⟨rfl, Below.refl _ _⟩
  have hn0 : n0 ≤ 1048576 := by omega
  have hni0 : (n0 : Int) ≤ 1048576 := by omega
  have hn1 : n1 ≤ 1048576 := by omega
  have hni1 : (n1 : Int) ≤ 1048576 := by omega
  clear hm0 hm1
  go_enter Try.func6, Try.ntmps6
  go_wp2_with fail
  refine (drawLateEnd_any A0 n0 c0 bs0 _ hb0 hn0 hc0).mono ?_
  rintro e w1 ⟨n, A, c, l, least, start, B, d, ds, rfl, hl, hd, o_l, r_d, hb⟩
  obtain ⟨i0, hi0, hz0, hz1, hz2⟩ := info_parts infoInt
  have hcap := own_cap o_l
  obtain ⟨v, hv⟩ : ∃ v, v = endV n l least start ds := ⟨_, rfl⟩
  have HV := Lib.hid hv
  clear hv
  go_wp2_with fail
  refine (iEnd_any n _ _ _ _ l least start _ _ _ _ ds _ (by omega) (Rd.of_own o_l) (Nat.le_refl _) (by omega) r_d (Nat.le_refl _) hcap).mono ?_
  rintro e w2 ⟨rfl, hs⟩
  replace o_l := own_below o_l hs
  replace r_d := (r_d.below hs (Nat.le_refl _)).more (Nat.le_refl _) hs.size
  replace hb := hb.trans (hs.mono hb.size)
  clear hs
  rw [← HV.out]
  go_wp2_with fail
  refine (sEnd_any n _ _ _ _ l least start _ _ _ _ ds _ (by omega) (Rd.of_own o_l) (Nat.le_refl _) (by omega) r_d (Nat.le_refl _)).mono ?_
  rintro e w3 ⟨rfl, hs⟩
  replace o_l := own_below o_l hs
  replace r_d := (r_d.below hs (Nat.le_refl _)).more (Nat.le_refl _) hs.size
  replace hb := hb.trans (hs.mono hb.size)
  clear hs
  rw [← HV.out]
  have hne : (v != v) = false := by simp
  have hee : (v == v) = true := by simp
  by_cases hneg : v < 0
  · have hd0 : decide (v < 0) = true := decide_eq_true hneg
    go_wp2_with fail
    go_ret
    exact ⟨rfl, by (repeat (first | exact Below.refl _ _ | assumption | apply below_alloc | apply below_drewN | apply Below.drew | refine Below.setCell ?_ (by simp; try omega) _))⟩
  have hd0 : decide (v < 0) = false := decide_eq_false hneg
  have hv0 : 0 ≤ v := by omega
  have hok := endV_ok (n := n) (l := l) (least := least) (start := start) (ds := ds) (by rw [← HV.out]; exact hv0)
  have HOK := Lib.hid hok
  obtain ⟨hm1, hm2, hm3, hm4⟩ := late_len hok
  clear hok hneg
  obtain ⟨vb1, vb2⟩ : -1 ≤ v ∧ v ≤ 2400 := by rw [HV.out]; exact endV_bd n l least start ds
  have hmod : 0 ≤ (n1 : Int) % (ds.length : Int) ∧ (n1 : Int) % (ds.length : Int) < (ds.length : Int) := ⟨Int.emod_nonneg _ (by omega), Int.emod_lt_of_pos _ (by omega)⟩
  obtain ⟨kk, hkk⟩ : ∃ kk, kk = (n1 : Int) % (ds.length : Int) := ⟨_, rfl⟩
  have hdiv : Int.tmod (n1 : Int) (ds.length : Int) = kk := by rw [hkk, Int.tmod_eq_emod_of_nonneg (by omega)]
  have hdv2 : (n1 : Int) % (ds.length : Int) = kk := hkk.symm
  rw [← hkk] at hmod
  have hdz : ((ds.length : Int) == 0) = false := by rw [beq_eq_false_iff_ne]; omega
  clear hkk
  obtain ⟨hm0, hm1'⟩ := hmod
  have hkl : kk.toNat < ds.length := by omega
  have hll : ds.length - 1 < ds.length := by omega
  have e1 := late_more_law HOK.out HV.out kk.toNat hkl
  have e2 := late_more_last HOK.out HV.out hll
  have hu := lateOk_ds HOK.out ds[kk.toNat] (List.getElem_mem _)
  have hs := lateOk_ds HOK.out ds[ds.length - 1] (List.getElem_mem _)
  obtain ⟨u, hue⟩ : ∃ u, u = ds[kk.toNat] := ⟨_, rfl⟩
  obtain ⟨s, hse⟩ : ∃ s, s = ds[ds.length - 1] := ⟨_, rfl⟩
  rw [← hue] at e1 hu
  rw [← hse] at e2 hs
  have Hu := Lib.hid hue
  have Hs := Lib.hid hse
  obtain ⟨hu1, hu2⟩ := hu
  obtain ⟨hs1, hs2⟩ := hs
  obtain ⟨x2, hx2⟩ : ∃ x2, x2 = endV n l least start (ds.set kk.toNat (u + 1)) := ⟨_, rfl⟩
  obtain ⟨y2, hy2⟩ : ∃ y2, y2 = endV n l least start (ds.set (ds.length - 1) (s + 1)) := ⟨_, rfl⟩
  rw [← hx2] at e1
  rw [← hy2] at e2
  have HX2 := Lib.hid hx2
  have HY2 := Lib.hid hy2
  clear hue hse hx2 hy2
  have p9 : IntKind.i64.wrap (u + 1) = u + 1 := IntWalk.i64_in _ (by omega)
  have p8 : IntKind.i64.wrap (s + 1) = s + 1 := IntWalk.i64_in _ (by omega)
  have hcast2 : ((ds.length : Int) - 1).toNat = ds.length - 1 := by omega
  have i2 : 0 ≤ (ds.length : Int) - 1 := by omega
  have hb0 : Below w.heap.size w (w3.alloc (.cells #[] 3)) := below_alloc hb _
  have hown0 : (w3.alloc (.cells #[] 3)).ownsRow w3.heap.size 3 1 (.slice (some ⟨w3.heap.size, 0, none⟩) 0 0) ([] : List Int).length (ints []) := by simpa [ints] using own_lit0 w3 w3.heap.size 3 1 (Nat.le_refl _)
  have rd0 := r_d.alloc (Nat.le_refl _) (.cells #[] 3)
  have hdp : 0 < ds.length := by omega
  have hbn := hb.size
  have tok1 : True := trivial
  go_wp2_with (first | (at_builtin; have _t := tok1; go_must (refine wpList_appendR1 rfl _ _ 27 rfl w3.heap.size 3 i0 _ Try.underlying27 hi0 hz0 hz1 hz2 rfl (.slice (some ⟨w3.heap.size, 0, none⟩) 0 0) [] rfl hown0 _ ds _ _ _ rd0 rfl hdp (by simp) (by omega) (by simp) ?_); intro g0 cap0 wx0 hx0 hg0 hor0 hlt0; simp only [List.length_nil, Nat.zero_add, List.nil_append] at hx0; have dx0 := own1_cell hx0 kk.toNat (by omega); have fx0 := hx0.frozenAt (kk.toNat); have st0 := own1_store hx0 (kk.toNat) (u + 1); rw [show ds[kk.toNat]'(by omega) = u from Hu.out.symm] at dx0; have gx0 := (own_lt hx0).1; have bl0 := (below_grown (below_alloc (Below.refl w3.heap.size w3) (.cells #[] 3)) (by simp) hown0 (Nat.le_refl _) hg0).setCell (p := ⟨g0, kk.toNat, none⟩) gx0 (.int .i64 (u + 1)); have hown1 : ((wx0.setCell ⟨g0, kk.toNat, none⟩ (.int .i64 (u + 1))).alloc (.cells #[] 3)).ownsRow wx0.heap.size 3 1 (.slice (some ⟨wx0.heap.size, 0, none⟩) 0 0) ([] : List Int).length (ints []) := (by simpa [ints] using own_lit0 (wx0.setCell ⟨g0, kk.toNat, none⟩ (.int .i64 (u + 1))) wx0.heap.size 3 1 (by simp)); have rd1 := ((r_d.below bl0 (Nat.le_refl _)).more (Nat.le_refl _) bl0.size).alloc (Nat.le_refl _) (.cells #[] 3); clear tok1) | (at_builtin; go_must (refine wpList_appendR1 rfl _ _ 27 rfl wx0.heap.size 3 i0 _ Try.underlying27 hi0 hz0 hz1 hz2 rfl (.slice (some ⟨wx0.heap.size, 0, none⟩) 0 0) [] rfl hown1 _ ds _ _ _ rd1 rfl hdp (by simp) (by omega) (by simp) ?_); intro g1 cap1 wx1 hx1 hg1 hor1 hlt1; simp only [List.length_nil, Nat.zero_add, List.nil_append] at hx1; have dx1 := own1_cell hx1 (ds.length - 1) (by omega); have fx1 := hx1.frozenAt ((ds.length - 1)); have st1 := own1_store hx1 ((ds.length - 1)) (s + 1); rw [show ds[(ds.length - 1)]'(by omega) = s from Hs.out.symm] at dx1; have gx1 := (own_lt hx1).1; have bl1 := (below_grown (below_alloc bl0 (.cells #[] 3)) (by simp; have := bl0.size; simp at this; omega) hown1 (by have := bl0.size; simp at this; omega) hg1).setCell (p := ⟨g1, (ds.length - 1), none⟩) (by have := bl0.size; simp at this; show w3.heap.size ≤ g1; omega) (.int .i64 (s + 1))))
  have b01 := (below_grown (below_alloc (Below.refl (wx0.setCell ⟨g0, kk.toNat, none⟩ (.int .i64 (u + 1))).heap.size (wx0.setCell ⟨g0, kk.toNat, none⟩ (.int .i64 (u + 1)))) (.cells #[] 3)) (by simp) (base := (wx0.setCell ⟨g0, kk.toNat, none⟩ (.int .i64 (u + 1))).heap.size) (by simpa using hown1) (Nat.le_refl _) hg1).setCell (p := ⟨g1, (ds.length - 1), none⟩) (by simpa using gx1) (.int .i64 (s + 1))
  have o_x := own_below st0 b01
  have o_y := st1
  have hbx := hb.trans (bl1.mono hb.size)
  replace o_l := own_below o_l bl1
  replace r_d := (r_d.below bl1 (Nat.le_refl _)).more (Nat.le_refl _) bl1.size
  replace hb := hbx
  clear hbx
  clear p9 p8
  refine (iEnd_len n _ _ _ _ l least start _ _ _ _ (ds.set kk.toNat (u + 1)) _ (by simp) _ (by omega) (Rd.of_own o_l) (Nat.le_refl _) (by simp; omega) (Rd.of_own o_x) (Nat.le_refl _) hcap).mono ?_
  rintro e w4 ⟨rfl, hs⟩
  replace o_l := own_below o_l hs
  replace r_d := (r_d.below hs (Nat.le_refl _)).more (Nat.le_refl _) hs.size
  replace o_x := own_below o_x hs
  replace o_y := own_below o_y hs
  replace hb := hb.trans (hs.mono hb.size)
  clear hs
  rw [← HX2.out]
  go_wp2_with fail
  refine (iEnd_len n _ _ _ _ l least start _ _ _ _ (ds.set (ds.length - 1) (s + 1)) _ (by simp) _ (by omega) (Rd.of_own o_l) (Nat.le_refl _) (by simp; omega) (Rd.of_own o_y) (Nat.le_refl _) hcap).mono ?_
  rintro e w5 ⟨rfl, hs⟩
  replace o_l := own_below o_l hs
  replace r_d := (r_d.below hs (Nat.le_refl _)).more (Nat.le_refl _) hs.size
  replace o_x := own_below o_x hs
  replace o_y := own_below o_y hs
  replace hb := hb.trans (hs.mono hb.size)
  clear hs
  rw [← HY2.out]
  have cx := own1_cell o_x kk.toNat (by simp; omega)
  have cy := own1_cell o_y (ds.length - 1) (by simp; omega)
  simp only [List.getElem_set_self] at cx cy
  have xb : -1 ≤ x2 ∧ x2 ≤ 2400 := by rw [HX2.out]; exact endV_bd n l least start _
  obtain ⟨xb1, xb2⟩ := xb
  rcases e1 with ⟨hb1, hx⟩ | hx | hx
  · have HXX := Lib.hid hx
    have f1 : (x2 == -1) = true := by simp [hx]
    have f4 : decide (300 < u + 1) = true := decide_eq_true hb1
    clear hx
    rcases e2 with ⟨hb2, hy⟩ | hy
    · have HYY := Lib.hid hy
      have h1 : (y2 == -1) = true := by simp [hy]
      have h2 : decide (300 < s + 1) = true := decide_eq_true hb2
      clear hy
      go_wp2_with fail
      go_ret
      exact ⟨rfl, by (repeat (first | exact Below.refl _ _ | assumption | apply below_alloc | apply below_drewN | apply Below.drew | refine Below.setCell ?_ (by simp; try omega) _))⟩
    · have HYY := Lib.hid hy
      have h1 : (y2 == -1) = false := by rw [beq_eq_false_iff_ne]; omega
      have h2 : (y2 == v + 1) = true := by simp [hy]
      clear hy
      go_wp2_with fail
      go_ret
      exact ⟨rfl, by (repeat (first | exact Below.refl _ _ | assumption | apply below_alloc | apply below_drewN | apply Below.drew | refine Below.setCell ?_ (by simp; try omega) _))⟩
  · have HXX := Lib.hid hx
    have f1 : (x2 == -1) = false := by rw [beq_eq_false_iff_ne]; omega
    have f2 : (x2 == v) = true := by simp [hx]
    clear hx
    rcases e2 with ⟨hb2, hy⟩ | hy
    · have HYY := Lib.hid hy
      have h1 : (y2 == -1) = true := by simp [hy]
      have h2 : decide (300 < s + 1) = true := decide_eq_true hb2
      clear hy
      go_wp2_with fail
      go_ret
      exact ⟨rfl, by (repeat (first | exact Below.refl _ _ | assumption | apply below_alloc | apply below_drewN | apply Below.drew | refine Below.setCell ?_ (by simp; try omega) _))⟩
    · have HYY := Lib.hid hy
      have h1 : (y2 == -1) = false := by rw [beq_eq_false_iff_ne]; omega
      have h2 : (y2 == v + 1) = true := by simp [hy]
      clear hy
      go_wp2_with fail
      go_ret
      exact ⟨rfl, by (repeat (first | exact Below.refl _ _ | assumption | apply below_alloc | apply below_drewN | apply Below.drew | refine Below.setCell ?_ (by simp; try omega) _))⟩
  · have HXX := Lib.hid hx
    have f1 : (x2 == -1) = false := by rw [beq_eq_false_iff_ne]; omega
    have f2 : (x2 == v) = false := by rw [beq_eq_false_iff_ne]; omega
    have f3 : (x2 == v + 1) = true := by simp [hx]
    clear hx
    rcases e2 with ⟨hb2, hy⟩ | hy
    · have HYY := Lib.hid hy
      have h1 : (y2 == -1) = true := by simp [hy]
      have h2 : decide (300 < s + 1) = true := decide_eq_true hb2
      clear hy
      go_wp2_with fail
      go_ret
      exact ⟨rfl, by (repeat (first | exact Below.refl _ _ | assumption | apply below_alloc | apply below_drewN | apply Below.drew | refine Below.setCell ?_ (by simp; try omega) _))⟩
    · have HYY := Lib.hid hy
      have h1 : (y2 == -1) = false := by rw [beq_eq_false_iff_ne]; omega
      have h2 : (y2 == v + 1) = true := by simp [hy]
      clear hy
      go_wp2_with fail
      go_ret
      exact ⟨rfl, by (repeat (first | exact Below.refl _ _ | assumption | apply below_alloc | apply below_drewN | apply Below.drew | refine Below.setCell ?_ (by simp; try omega) _))⟩

set_option maxRecDepth 100000 in
theorem lateMore_lifted (os : Os) (started : os.Started) (H : Type) (enc : TypeId × Value → H) :
    ReturnsInHanded {} Try.checked os 6 .any (Rows.fnLateMoreSpec.pre6 enc Try.prog Try.f6 Rows.fnLateMoreRow.domain false) (Rows.fnLateMoreSpec.post enc Try.prog Try.f6 false true false false) := by
  refine returnsInHanded_of_change (C := Try.checked) prog_own started (by kernel_rfl) Try.func6
    (ChangeSpec.witness6 (enc := enc) (C := Try.checked) false ⟨#[], #[.slice none 0 0, .slice none 0 0], []⟩ 8 (by kernel_rfl) (by kernel_rfl) (by kernel_rfl) (by kernel_rfl)) ?_
  intro W base args ds gs before hval0 hW hcnd _
  have hval : ∀ (j : Nat) t v, Try.f6.params[j]? = some t → args[j]? = some v → Value.okWide Try.prog W .any base t v := hval0
  have hW' := hW
  obtain ⟨p, q, hA0, hV, rfl, hfz, hnd⟩ := hW
  have hA : DataW.TrodAll enc Try.prog W 0 (fun _ => true) true Try.f6.params.toList args.toList ds p := hA0
  rw [Try.params6] at hA hval
  obtain ⟨v0, vs0, d0, ds0, p0, q0, hargs, rfl, rfl, h0, r0⟩ := trodAll_cons hA
  obtain ⟨v1, vs1, d1, ds1, p1, q1, rfl, rfl, rfl, h1, r1⟩ := trodAll_cons r0
  obtain ⟨rfl, rfl, rfl⟩ := trodAll_nil r1
  obtain rfl : args = #[v0, v1] := by cases args; simp_all
  obtain ⟨rfl, rfl⟩ := trodVars_none hV
  obtain ⟨a0, len0, cap0, rfl⟩ := okWide_slice Try.underlying22 (hval 0 22 v0 rfl rfl)
  have k0 := h0
  have lt0 : ∀ x ∈ p0, x.block < W.heap.size := by obtain ⟨m, hm⟩ := k0; exact DataW.trod_lt m _ _ _ hm
  obtain ⟨fuel0, hf0⟩ := h0
  obtain ⟨bs0, hm0, hb0, hc0⟩ := open_b1 Try.underlying22 Try.underlying5 (by kernel_rfl) hf0
  obtain ⟨a1, len1, cap1, rfl⟩ := okWide_slice Try.underlying22 (hval 1 22 v1 rfl rfl)
  have k1 := h1
  have lt1 : ∀ x ∈ p1, x.block < W.heap.size := by obtain ⟨m, hm⟩ := k1; exact DataW.trod_lt m _ _ _ hm
  obtain ⟨fuel1, hf1⟩ := h1
  obtain ⟨bs1, hm1, hb1, hc1⟩ := open_b1 Try.underlying22 Try.underlying5 (by kernel_rfl) hf1
  clear hA0 hval0
  refine (lateMore_any a0 cap0 len0 bs0 a1 cap1 len1 bs1 W hm0 hb0 hc0 hm1 hb1 hc1).mono fun e W' ⟨he, bel⟩ => ?_
  subst he
  exact ⟨_, rfl, _, _, _, [], _, [], hW', trodAll_mk1 (shut_bool Try.underlying4 _), (trodAll_cons_mk (Below.trod prog_laidOut (by kernel_rfl) (of_decide_eq_true (by kernel_rfl)) k0 bel lt0) (trodAll_cons_mk (Below.trod prog_laidOut (by kernel_rfl) (of_decide_eq_true (by kernel_rfl)) k1 bel lt1) trodAll_mk0)), rfl, bel.frame _, fun h => by cases h⟩

theorem lateMore_holds : Rows.FnLateMoreSaid :=
  OpenClaim.holds_of_wide 6 Try.f6 rfl rfl rfl rfl rfl rfl rfl ⟨rfl, rfl, rfl, rfl, rfl⟩ rfl rfl rfl rfl rfl (by kernel_rfl) Try.func6 (by kernel_rfl)
    (of_decide_eq_true (by kernel_rfl)) (by unfold Func.isWrapper; first | (rw [if_pos (by decide +kernel)]; kernel_rfl) | (rw [if_neg (by decide +kernel)]; exact ⟨rfl, rfl⟩))
    (fun os started H enc _ => lateMore_lifted os started H enc)

end Go.Proofs.Ytjpjglpabnlobaa

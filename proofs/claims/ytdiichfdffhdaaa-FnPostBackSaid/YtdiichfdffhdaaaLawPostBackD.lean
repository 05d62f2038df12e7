/-
  For every input the law FnPostBack returns true: backwards, latest is earliest.
-/
import Derived.Test.YtdiichfdffhdaaaBackLaws
import Derived.Test.YtdiichfdffhdaaaNetArgs
import Derived.Test.YtdiichfdffhdaaaPostBack
import Derived.Test.YtdiichfdffhdaaaLeaveS
import Derived.Test.YtdiichfdffhdaaaSame
namespace Go.Proofs.Ytdiichfdffhdaaa
open Go.ChangeShapes Go.WideShapes Go.ChangeAt Go.RowKit

theorem RdN.front {w : World} {lo hi : Nat} {A : Option Addr} {net m : Net} (h : RdN w lo hi A (net ++ m)) : RdN w lo hi A net := fun k hk => by
  obtain ⟨b, off, B, c, e1, e2, e3, e4, e5, e6⟩ := h k (by rw [List.length_append]; omega)
  rw [List.getElem_append_left hk] at e4 e5 e6
  exact ⟨b, off, B, c, e1, e2, e3, e4, e5, e6⟩
theorem RdN.last {w : World} {lo hi : Nat} {A : Option Addr} {net : Net} {l : List T3} (h : RdN w lo hi A (net ++ [l])) : ∃ b off B c, A = some ⟨b, off, none⟩ ∧ b < hi ∧ w.cell? ⟨b, off + net.length, none⟩ = some (.slice B l.length c) ∧ Rd w lo hi B (flat3 l) := by
  obtain ⟨b, off, B, c, e1, e2, e3, e4, e5, e6⟩ := h net.length (by simp)
  rw [List.getElem_append_right (Nat.le_refl _)] at e4 e5 e6
  simp only [Nat.sub_self, List.getElem_cons_zero] at e4 e5 e6
  exact ⟨b, off, B, c, e1, e3, e4, e6⟩
theorem ownN_cap {w : World} {base : Nat} {E EH : TypeId} {A : Option Addr} {c : Nat} {net : Net} (h : OwnN w base E EH (.slice A net.length c) net) : net.length ≤ c := by
  obtain ⟨hs, ho, _⟩ := h
  exact own_cap ho
theorem arr_hi {n : Int} {net : Net} {f to t ch : Int} : postArr n net f to t ch ≤ 10000 := by
  unfold postArr
  split
  · rename_i h
    simp only [Bool.and_eq_true, inB, decide_eq_true_eq] at h
    exact ((tab_ok h.1).tg h.2.1 (by omega)).2
  · omega
theorem leave_lo {n : Int} {net : Net} {f to t ch : Int} : leaveV n net f to t ch = -1 ∨ 0 ≤ leaveV n net f to t ch := by
  rcases leave_case n net f to t ch with e | ⟨hok, hto, e⟩
  · exact .inl e
  · by_cases hne : f = to
    · rw [if_pos hne] at e
      obtain ⟨_, _, ht, _, _⟩ := postOk_and hok
      right; omega
    · rw [if_neg hne] at e
      rw [e]
      rcases (leave_best hok hto hne).1 with h | h
      · exact .inl h
      · exact .inr h.1

set_option maxRecDepth 100000 in
set_option maxHeartbeats 4000000 in
theorem postBack_any (A0 : Option Addr) (c0 n0 : Nat) (bs0 : Nat → Int) (A1 : Option Addr) (c1 n1 : Nat) (bs1 : Nat → Int) (w : World) (hm0 : n0 ≤ maxLen) (hb0 : Byt w w.heap.size A0 n0 bs0) (hc0 : n0 ≤ c0) (hm1 : n1 ≤ maxLen) (hb1 : Byt w w.heap.size A1 n1 bs1) (hc1 : n1 ≤ c1) :
    Calls Try.prog 11 #[.slice A0 n0 c0, .slice A1 n1 c1] w fun e w' => e = .returned (.bool true) ∧ Below w.heap.size w w' := by
  unfold maxLen at hm0 hm1
  by_cases hbig0 : (1048576 : Int) < n0
  · go_enter Try.func11, Try.ntmps11
    go_wp2_with fail
    go_ret
    exact ⟨rfl, Below.refl _ _⟩
  by_cases hbig1 : (1048576 : Int) < n1
  · go_enter Try.func11, Try.ntmps11
    go_wp2_with fail
    go_ret
    exact ⟨rfl, Below.refl _ _⟩
  have hn0 : n0 ≤ 1048576 := by omega
  have hni0 : (n0 : Int) ≤ 1048576 := by omega
  have hn1 : n1 ≤ 1048576 := by omega
  have hni1 : (n1 : Int) ≤ 1048576 := by omega
  clear hm0 hm1
  go_enter Try.func11, Try.ntmps11
  go_wp2_with fail
  refine (dBack_any A0 n0 c0 bs0 _ hb0 hn0 hc0).mono ?_
  rintro e w1 ⟨n, A, c, tn, net, rfl, hN1, hN2, htn, r_N, hb⟩
  obtain ⟨htn0, htn1⟩ := htn
  obtain ⟨M, hM⟩ : ∃ M, M = backN n net tn := ⟨_, rfl⟩
  have HM := Lib.hid hM
  clear hM
  have HMS := Lib.hid (show netSize M ≤ 1048576 by rw [HM.out]; exact backN_size)
  have HMB := Lib.hid (net_lenA HMS.out)
  cases hok : backNOk n net tn
  · have HOK := Lib.hid hok
    clear hok
    go_wp2_with fail
    refine (iPostBack_any n _ _ _ _ net tn _ (Nat.le_trans r_N.size (by omega)) r_N.2.2 (Nat.le_refl _)).mono ?_
    rintro e w2 ⟨P2, d2, rfl, o_M, hs⟩
    replace r_N := r_N.below hs
    replace hb := hb.trans (hs.mono hb.size)
    clear hs
    rw [← HM.out] at o_M ⊢
    rw [HOK.out]
    have cap_M := ownN_cap o_M
    have r_M := o_M.rd.more (Nat.zero_le _) (Nat.le_refl _)
    clear o_M
    go_wp2_with fail
    refine (sPostBack_any n _ _ _ _ net tn _ (Nat.le_trans r_N.size (by omega)) r_N.2.2 (Nat.le_refl _)).mono ?_
    rintro e w3 ⟨P3, d3, rfl, o_M2, hs⟩
    replace r_N := r_N.below hs
    replace r_M := (r_M.below hs (Nat.le_refl _)).more (Nat.le_refl _) hs.size
    replace hb := hb.trans (hs.mono hb.size)
    clear hs
    rw [← HM.out] at o_M2 ⊢
    rw [HOK.out]
    have cap_M2 := ownN_cap o_M2
    have r_M2 := o_M2.rd.more (Nat.zero_le _) (Nat.le_refl _)
    clear o_M2
    go_wp2_with fail
    refine (sameNet_any _ _ _ _ _ _ _ _ M M _ HMB.out.1 HMB.out.2 r_M (Nat.le_refl _) r_M2 (Nat.le_refl _)).mono ?_
    rintro e w4 ⟨rfl, hs⟩
    replace r_N := r_N.below hs
    replace r_M := (r_M.below hs (Nat.le_refl _)).more (Nat.le_refl _) hs.size
    replace r_M2 := (r_M2.below hs (Nat.le_refl _)).more (Nat.le_refl _) hs.size
    replace hb := hb.trans (hs.mono hb.size)
    clear hs
    rw [show decide (M = M) = true from decide_eq_true rfl]
    go_wp2_with fail
    refine (sameNet_any _ _ _ _ _ _ _ _ M M _ HMB.out.1 HMB.out.2 r_M (Nat.le_refl _) r_M2 (Nat.le_refl _)).mono ?_
    rintro e w5 ⟨rfl, hs⟩
    replace r_N := r_N.below hs
    replace r_M := (r_M.below hs (Nat.le_refl _)).more (Nat.le_refl _) hs.size
    replace r_M2 := (r_M2.below hs (Nat.le_refl _)).more (Nat.le_refl _) hs.size
    replace hb := hb.trans (hs.mono hb.size)
    clear hs
    rw [show decide (M = M) = true from decide_eq_true rfl]
    go_wp2_with fail
    go_ret
    exact ⟨rfl, by (repeat (first | exact Below.refl _ _ | assumption | apply below_alloc | apply below_drewN | apply Below.drew | refine Below.setCell ?_ (by simp; try omega) _))⟩
  have HOK := Lib.hid hok
  clear hok
  go_wp2_with fail
  refine (iPostBack_any n _ _ _ _ net tn _ (Nat.le_trans r_N.size (by omega)) r_N.2.2 (Nat.le_refl _)).mono ?_
  rintro e w2 ⟨P2, d2, rfl, o_M, hs⟩
  replace r_N := r_N.below hs
  replace hb := hb.trans (hs.mono hb.size)
  clear hs
  rw [← HM.out] at o_M ⊢
  rw [HOK.out]
  have cap_M := ownN_cap o_M
  have r_M := o_M.rd.more (Nat.zero_le _) (Nat.le_refl _)
  clear o_M
  go_wp2_with fail
  refine (sPostBack_any n _ _ _ _ net tn _ (Nat.le_trans r_N.size (by omega)) r_N.2.2 (Nat.le_refl _)).mono ?_
  rintro e w3 ⟨P3, d3, rfl, o_M2, hs⟩
  replace r_N := r_N.below hs
  replace r_M := (r_M.below hs (Nat.le_refl _)).more (Nat.le_refl _) hs.size
  replace hb := hb.trans (hs.mono hb.size)
  clear hs
  rw [← HM.out] at o_M2 ⊢
  rw [HOK.out]
  have cap_M2 := ownN_cap o_M2
  have r_M2 := o_M2.rd.more (Nat.zero_le _) (Nat.le_refl _)
  clear o_M2
  go_wp2_with fail
  refine (sameNet_any _ _ _ _ _ _ _ _ M M _ HMB.out.1 HMB.out.2 r_M (Nat.le_refl _) r_M2 (Nat.le_refl _)).mono ?_
  rintro e w4 ⟨rfl, hs⟩
  replace r_N := r_N.below hs
  replace r_M := (r_M.below hs (Nat.le_refl _)).more (Nat.le_refl _) hs.size
  replace r_M2 := (r_M2.below hs (Nat.le_refl _)).more (Nat.le_refl _) hs.size
  replace hb := hb.trans (hs.mono hb.size)
  clear hs
  rw [show decide (M = M) = true from decide_eq_true rfl]
  clear r_M2 cap_M2
  obtain ⟨bt1, bt2, bt3⟩ := back_twice HOK.out
  rw [← HM.out] at bt1 bt2 bt3
  have HB2 := Lib.hid bt2
  have HB3 := Lib.hid bt3
  clear bt1 bt2 bt3
  go_wp2_with fail
  refine (iPostBack_any n _ _ _ _ M tn _ HMS.out r_M (Nat.le_refl _)).mono ?_
  rintro e w5 ⟨P5, d5, rfl, o_X, hs⟩
  replace r_N := r_N.below hs
  replace r_M := (r_M.below hs (Nat.le_refl _)).more (Nat.le_refl _) hs.size
  replace hb := hb.trans (hs.mono hb.size)
  clear hs
  rw [HB3.out] at o_X ⊢
  rw [HB2.out]
  have cap_X := ownN_cap o_X
  have r_X := o_X.rd.more (Nat.zero_le _) (Nat.le_refl _)
  clear o_X
  obtain ⟨x, hx⟩ : ∃ x, x = (n1 : Int) % n := ⟨_, rfl⟩
  have x0 : 0 ≤ x ∧ x < n := by rw [hx]; exact ⟨Int.emod_nonneg _ (by omega), Int.emod_lt_of_pos _ (by omega)⟩
  obtain ⟨x0, x1⟩ := x0
  have mx : Int.tmod (n1 : Int) n = x := by rw [hx, Int.tmod_eq_emod_of_nonneg (by omega)]
  have m2x : (n1 : Int) % n = x := hx.symm
  have wx : IntKind.i64.wrap x = x := IntWalk.i64_in _ (by omega)
  clear hx
  obtain ⟨s7, hs7⟩ : ∃ s7, s7 = (n1 : Int) / 7 := ⟨_, rfl⟩
  have s70 : 0 ≤ s7 ∧ s7 ≤ 1048576 := by omega
  obtain ⟨s70, s71⟩ := s70
  have ms7 : Int.tdiv (n1 : Int) 7 = s7 := by rw [hs7, Int.tdiv_eq_ediv_of_nonneg (by omega)]
  have ws7 : IntKind.i64.wrap s7 = s7 := IntWalk.i64_in _ (by omega)
  clear hs7
  obtain ⟨y, hy⟩ : ∃ y, y = s7 % n := ⟨_, rfl⟩
  have y0 : 0 ≤ y ∧ y < n := by rw [hy]; exact ⟨Int.emod_nonneg _ (by omega), Int.emod_lt_of_pos _ (by omega)⟩
  obtain ⟨y0, y1⟩ := y0
  have my : Int.tmod s7 n = y := by rw [hy, Int.tmod_eq_emod_of_nonneg (by omega)]
  have m2y : s7 % n = y := hy.symm
  have wy : IntKind.i64.wrap y = y := IntWalk.i64_in _ (by omega)
  clear hy
  have hnz : (n == 0) = false := by rw [beq_eq_false_iff_ne]; omega
  obtain ⟨tm, htm⟩ : ∃ tm, tm = Int.tdiv tn 2 := ⟨_, rfl⟩
  have htm0 : -150 ≤ tm ∧ tm ≤ 299 ∧ (0 ≤ tn → 0 ≤ tm ∧ tm ≤ tn) := by
    rw [htm]
    by_cases h : 0 ≤ tn
    · rw [Int.tdiv_eq_ediv_of_nonneg h]; omega
    · have e := Int.neg_tdiv tn 2
      rw [Int.tdiv_eq_ediv_of_nonneg (show 0 ≤ -tn by omega)] at e
      omega
  obtain ⟨htm0, htm1, htm2⟩ := htm0
  have mtm : Int.tdiv tn 2 = tm := htm.symm
  have wtm : IntKind.i64.wrap tm = tm := IntWalk.i64_in _ (by omega)
  have wtt : IntKind.i64.wrap (tn - tm) = tn - tm := IntWalk.i64_in _ (by omega)
  clear htm
  obtain ⟨V, hV⟩ : ∃ V, V = leaveV n net x y tm 0 := ⟨_, rfl⟩
  have HV := Lib.hid hV
  clear hV
  obtain ⟨Z, hZ⟩ : ∃ Z, Z = postArr n M y x (tn - tm) 0 := ⟨_, rfl⟩
  have HZ := Lib.hid hZ
  clear hZ
  have hV : V = -1 ∨ 0 ≤ V := by rw [HV.out]; exact leave_lo
  have hZ0 : -1 ≤ Z := by rw [HZ.out]; exact arr_lo
  have hZ1 : Z ≤ 10000 := by rw [HZ.out]; exact arr_hi
  have HLAW := Lib.hid (show 0 ≤ tn → (V = -1 ∧ Z = -1) ∨ (0 ≤ V ∧ 0 ≤ Z ∧ V = tn - Z) from fun h => by
    have h2 := htm2 h
    rw [HV.out, HZ.out, HM.out]
    exact back_law HOK.out h (by omega) h2.1 h2.2 ⟨x0, x1⟩ ⟨y0, y1⟩)
  go_wp2_with fail
  refine (iPostLeave_any n _ _ _ net x y tm 0 _ (Nat.le_trans r_N.size (by omega)) r_N.2.2 (Nat.le_refl _)).mono ?_
  rintro e w6 ⟨rfl, hs⟩
  replace r_N := r_N.below hs
  replace r_M := (r_M.below hs (Nat.le_refl _)).more (Nat.le_refl _) hs.size
  replace r_X := (r_X.below hs (Nat.le_refl _)).more (Nat.le_refl _) hs.size
  replace hb := hb.trans (hs.mono hb.size)
  clear hs
  rw [← HV.out]
  go_wp2_with fail
  refine (iPostArrive_any n _ _ _ M y x (tn - tm) 0 _ HMS.out r_M (Nat.le_refl _)).mono ?_
  rintro e w7 ⟨rfl, hs⟩
  replace r_N := r_N.below hs
  replace r_M := (r_M.below hs (Nat.le_refl _)).more (Nat.le_refl _) hs.size
  replace r_X := (r_X.below hs (Nat.le_refl _)).more (Nat.le_refl _) hs.size
  replace hb := hb.trans (hs.mono hb.size)
  clear hs
  rw [← HZ.out]
  have hln := r_N.1
  clear mx m2x wx ms7 ws7 my m2y wy mtm wtm wtt htm2
  have wtz : IntKind.i64.wrap (tn - Z) = tn - Z := IntWalk.i64_in _ (by omega)
  go_wp2_with fail
  refine (sameNet_any _ _ _ _ _ _ _ _ net net _ (by omega) (fun j hj => by have := r_N.2.1 j hj; omega) r_X (Nat.le_refl _) r_N.2.2 (Nat.le_refl _)).mono ?_
  rintro e w8 ⟨rfl, hs⟩
  replace r_N := r_N.below hs
  replace r_M := (r_M.below hs (Nat.le_refl _)).more (Nat.le_refl _) hs.size
  replace r_X := (r_X.below hs (Nat.le_refl _)).more (Nat.le_refl _) hs.size
  replace hb := hb.trans (hs.mono hb.size)
  clear hs
  rw [show decide (net = net) = true from decide_eq_true rfl]
  by_cases hneg : tn < 0
  · have dn : decide (tn < 0) = true := decide_eq_true hneg
    have hll : True := trivial
    rcases hV with hv | hv
    · have v1 : (V == -1) = true := by simp [hv]
      have v2 : decide (0 ≤ V) = false := decide_eq_false (by omega)
      by_cases hz : Z = -1
      · have z1 : (Z == -1) = true := by simp [hz]
        clear hv hz
        go_wp2_with fail
        go_ret
        exact ⟨rfl, by (repeat (first | exact Below.refl _ _ | assumption | apply below_alloc | apply below_drewN | apply Below.drew | refine Below.setCell ?_ (by simp; try omega) _))⟩
      · have z1 : (Z == -1) = false := by rw [beq_eq_false_iff_ne]; exact hz
        clear hv hz
        go_wp2_with fail
        go_ret
        exact ⟨rfl, by (repeat (first | exact Below.refl _ _ | assumption | apply below_alloc | apply below_drewN | apply Below.drew | refine Below.setCell ?_ (by simp; try omega) _))⟩
    · have v1 : (V == -1) = false := by rw [beq_eq_false_iff_ne]; omega
      have v2 : decide (0 ≤ V) = true := decide_eq_true hv
      by_cases hz : 0 ≤ Z
      · have z2 : decide (0 ≤ Z) = true := decide_eq_true hz
        by_cases he : V = tn - Z
        · have e1 : (V == tn - Z) = true := by rw [beq_iff_eq]; exact he
          clear he
          go_wp2_with fail
          go_ret
          exact ⟨rfl, by (repeat (first | exact Below.refl _ _ | assumption | apply below_alloc | apply below_drewN | apply Below.drew | refine Below.setCell ?_ (by simp; try omega) _))⟩
        · have e1 : (V == tn - Z) = false := by rw [beq_eq_false_iff_ne]; exact he
          clear he
          go_wp2_with fail
          go_ret
          exact ⟨rfl, by (repeat (first | exact Below.refl _ _ | assumption | apply below_alloc | apply below_drewN | apply Below.drew | refine Below.setCell ?_ (by simp; try omega) _))⟩
      · have z2 : decide (0 ≤ Z) = false := decide_eq_false hz
        clear hz
        go_wp2_with fail
        go_ret
        exact ⟨rfl, by (repeat (first | exact Below.refl _ _ | assumption | apply below_alloc | apply below_drewN | apply Below.drew | refine Below.setCell ?_ (by simp; try omega) _))⟩
  rcases HLAW.out (by omega) with ⟨hv, hz⟩ | ⟨hv, hz, he⟩
  · have v1 : (V == -1) = true := by simp [hv]
    have z1 : (Z == -1) = true := by simp [hz]
    clear hv hz hV
    go_wp2_with fail
    go_ret
    exact ⟨rfl, by (repeat (first | exact Below.refl _ _ | assumption | apply below_alloc | apply below_drewN | apply Below.drew | refine Below.setCell ?_ (by simp; try omega) _))⟩
  · have v1 : (V == -1) = false := by rw [beq_eq_false_iff_ne]; omega
    have v2 : decide (0 ≤ V) = true := decide_eq_true hv
    have z2 : decide (0 ≤ Z) = true := decide_eq_true hz
    have e1 : (V == tn - Z) = true := by rw [beq_iff_eq]; exact he
    clear he hV
    go_wp2_with fail
    go_ret
    exact ⟨rfl, by (repeat (first | exact Below.refl _ _ | assumption | apply below_alloc | apply below_drewN | apply Below.drew | refine Below.setCell ?_ (by simp; try omega) _))⟩

set_option maxRecDepth 100000 in
theorem postBack_lifted (os : Os) (started : os.Started) (H : Type) (enc : TypeId × Value → H) :
    ReturnsInHanded {} Try.checked os 11 .any (Rows.fnPostBackSpec.pre6 enc Try.prog Try.f11 Rows.fnPostBackRow.domain false) (Rows.fnPostBackSpec.post enc Try.prog Try.f11 false true false false) := by
  refine returnsInHanded_of_change (C := Try.checked) prog_own started (by kernel_rfl) Try.func11
    (ChangeSpec.witness6 (enc := enc) (C := Try.checked) false ⟨#[], #[.slice none 0 0, .slice none 0 0], []⟩ 8 (by kernel_rfl) (by kernel_rfl) (by kernel_rfl) (by kernel_rfl)) ?_
  intro W base args ds gs before hval0 hW hcnd _
  have hval : ∀ (j : Nat) t v, Try.f11.params[j]? = some t → args[j]? = some v → Value.okWide Try.prog W .any base t v := hval0
  have hW' := hW
  obtain ⟨p, q, hA0, hV, rfl, hfz, hnd⟩ := hW
  have hA : DataW.TrodAll enc Try.prog W 0 (fun _ => true) true Try.f11.params.toList args.toList ds p := hA0
  rw [Try.params11] at hA hval
  obtain ⟨v0, vs0, d0, ds0, p0, q0, hargs, rfl, rfl, h0, r0⟩ := trodAll_cons hA
  obtain ⟨v1, vs1, d1, ds1, p1, q1, rfl, rfl, rfl, h1, r1⟩ := trodAll_cons r0
  obtain ⟨rfl, rfl, rfl⟩ := trodAll_nil r1
  obtain rfl : args = #[v0, v1] := by cases args; simp_all
  obtain ⟨rfl, rfl⟩ := trodVars_none hV
  obtain ⟨a0, len0, cap0, rfl⟩ := okWide_slice Try.underlying22 (hval 0 22 v0 rfl rfl)
  have k0 := h0
  have lt0 : ∀ x ∈ p0, x.block < W.heap.size := by obtain ⟨m, hm⟩ := k0; exact DataW.trod_lt m _ _ _ hm
  obtain ⟨fuel0, hf0⟩ := h0
  obtain ⟨bs0, hm0, hb0, hc0⟩ := open_b1 Try.underlying22 Try.underlying5 (by kernel_rfl) hf0
  obtain ⟨a1, len1, cap1, rfl⟩ := okWide_slice Try.underlying22 (hval 1 22 v1 rfl rfl)
  have k1 := h1
  have lt1 : ∀ x ∈ p1, x.block < W.heap.size := by obtain ⟨m, hm⟩ := k1; exact DataW.trod_lt m _ _ _ hm
  obtain ⟨fuel1, hf1⟩ := h1
  obtain ⟨bs1, hm1, hb1, hc1⟩ := open_b1 Try.underlying22 Try.underlying5 (by kernel_rfl) hf1
  clear hA0 hval0
  refine (postBack_any a0 cap0 len0 bs0 a1 cap1 len1 bs1 W hm0 hb0 hc0 hm1 hb1 hc1).mono fun e W' ⟨he, bel⟩ => ?_
  subst he
  exact ⟨_, rfl, _, _, _, [], _, [], hW', trodAll_mk1 (shut_bool Try.underlying4 _), (trodAll_cons_mk (Below.trod prog_laidOut (by kernel_rfl) (of_decide_eq_true (by kernel_rfl)) k0 bel lt0) (trodAll_cons_mk (Below.trod prog_laidOut (by kernel_rfl) (of_decide_eq_true (by kernel_rfl)) k1 bel lt1) trodAll_mk0)), rfl, bel.frame _, fun h => by cases h⟩

theorem postBack_holds : Rows.FnPostBackSaid :=
  OpenClaim.holds_of_wide 11 Try.f11 rfl rfl rfl rfl rfl rfl rfl ⟨rfl, rfl, rfl, rfl, rfl⟩ rfl rfl rfl rfl rfl (by kernel_rfl) Try.func11 (by kernel_rfl)
    (of_decide_eq_true (by kernel_rfl)) (by unfold Func.isWrapper; first | (rw [if_pos (by decide +kernel)]; kernel_rfl) | (rw [if_neg (by decide +kernel)]; exact ⟨rfl, rfl⟩))
    (fun os started H enc _ => postBack_lifted os started H enc)

end Go.Proofs.Ytdiichfdffhdaaa

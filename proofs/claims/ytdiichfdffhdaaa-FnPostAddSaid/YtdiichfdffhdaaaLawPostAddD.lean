/-
  For every input the law FnPostAdd returns true: a further coach makes nothing later.
-/
import Derived.Test.YtdiichfdffhdaaaPostLaws
import Derived.Test.YtdiichfdffhdaaaNetArgs
import Derived.Test.YtdiichfdffhdaaaPostAdd
import Derived.Test.YtdiichfdffhdaaaSame
import Derived.Test.YtdiichfdffhdaaaInts
namespace Go.Proofs.Ytdiichfdffhdaaa
open Go.ChangeShapes Go.WideShapes Go.ChangeAt Go.RowKit

theorem RdN.front {w : World} {lo hi : Nat} {A : Option Addr} {net m : Net} (h : RdN w lo hi A (net ++ m)) : RdN w lo hi A net := fun k hk => by
  obtain ⟨b, off, B, c, e1, e2, e3, e4, e5, e6⟩ := h k (by rw [List.length_append]; omega)
  rw [List.getElem_append_left hk] at e4 e5 e6
  exact ⟨b, off, B, c, e1, e2, e3, e4, e5, e6⟩
theorem RdN.last {w : World} {lo hi : Nat} {A : Option Addr} {net : Net} {l : List T3} (h : RdN w lo hi A (net ++ [l])) : ∃ b off B c, A = some ⟨b, off, none⟩ ∧ b < hi ∧ w.cell? ⟨b, off + net.length, none⟩ = some (.slice B l.length c) ∧ Rd w lo hi B (flat3 l) := by
  obtain ⟨b, off, B, c, e1, e2, e3, e4, e5, e6⟩ := h net.length (by simp)
  rw [List.getElem_append_right (Nat.le_refl _)] at e4 e5 e6
  simp only [Nat.sub_self, List.getElem_cons_zero] at e4 e5 e6
  exact ⟨b, off, B, c, e1, e3, e4, e6⟩
theorem ownN_cap {w : World} {base : Nat} {E EH : TypeId} {A : Option Addr} {c : Nat} {net : Net} (h : OwnN w base E EH (.slice A net.length c) net) : net.length ≤ c := by
  obtain ⟨hs, ho, _⟩ := h
  exact own_cap ho
theorem Rd.all1 {w : World} {lo hi : Nat} {A : Option Addr} {L : List Int} (h : Rd w lo hi A (ints L)) (hp : 0 < L.length) : ∃ b off, A = some ⟨b, off, none⟩ ∧ ∀ j, j < L.length → w.cell? ⟨b, off + j, none⟩ = some (.int .i64 (L.getD j 0)) := by
  obtain ⟨b, off, e, _, _, _⟩ := h.at1 0 hp
  refine ⟨b, off, e, fun j hj => ?_⟩
  obtain ⟨b', off', e', _, _, hc⟩ := h.at1 j hj
  rw [e] at e'
  injection e' with e'; injection e' with e1 e2; subst e1 e2
  rw [hc]; simp [List.getD, hj]

set_option maxRecDepth 100000 in
set_option maxHeartbeats 4000000 in
theorem postAdd_any (A0 : Option Addr) (c0 n0 : Nat) (bs0 : Nat → Int) (A1 : Option Addr) (c1 n1 : Nat) (bs1 : Nat → Int) (w : World) (hm0 : n0 ≤ maxLen) (hb0 : Byt w w.heap.size A0 n0 bs0) (hc0 : n0 ≤ c0) (hm1 : n1 ≤ maxLen) (hb1 : Byt w w.heap.size A1 n1 bs1) (hc1 : n1 ≤ c1) :
    Calls Try.prog 6 #[.slice A0 n0 c0, .slice A1 n1 c1] w fun e w' => e = .returned (.bool true) ∧ Below w.heap.size w w' := by
  unfold maxLen at hm0 hm1
  by_cases hbig0 : (1048576 : Int) < n0
  · go_enter Try.func6, Try.ntmps6
    go_wp2_with fail
    go_ret
    exact ⟨rfl, Below.refl _ _⟩
  by_cases hbig1 : (1048576 : Int) < n1
  · go_enter Try.func6, Try.ntmps6
    go_wp2_with fail
    go_ret
    exact ⟨rfl, Below.refl _ _⟩
  have hn0 : n0 ≤ 1048576 := by omega
  have hni0 : (n0 : Int) ≤ 1048576 := by omega
  have hn1 : n1 ≤ 1048576 := by omega
  have hni1 : (n1 : Int) ≤ 1048576 := by omega
  clear hm0 hm1
  go_enter Try.func6, Try.ntmps6
  go_wp2_with fail
  refine (dAdd_any A0 n0 c0 bs0 _ hb0 hn0 hc0).mono ?_
  rintro e w1 ⟨n, A, c, B, d, l, net, rfl, hN1, hN2, hll, r_l, r_N, hb⟩
  obtain ⟨M, hM⟩ : ∃ M, M = addN n net l := ⟨_, rfl⟩
  have HM := Lib.hid hM
  clear hM
  have HMS := Lib.hid (show netSize M ≤ 1048576 by rw [HM.out]; exact addN_size)
  have HMB := Lib.hid (net_lenA HMS.out)
  cases hok : addNOk n net l
  · have HOK := Lib.hid hok
    clear hok
    go_wp2_with fail
    refine (iPostAdd_any n _ _ _ _ net _ _ _ _ l _ (Nat.le_trans r_N.size (by omega)) r_N.2.2 (Nat.le_refl _) (by omega) r_l (Nat.le_refl _)).mono ?_
    rintro e w2 ⟨P2, d2, rfl, o_M, hs⟩
    replace r_l := (r_l.below hs (Nat.le_refl _)).more (Nat.le_refl _) hs.size
    replace r_N := r_N.below hs
    replace hb := hb.trans (hs.mono hb.size)
    clear hs
    rw [← HM.out] at o_M ⊢
    rw [HOK.out]
    have cap_M := ownN_cap o_M
    have r_M := o_M.rd.more (Nat.zero_le _) (Nat.le_refl _)
    clear o_M
    go_wp2_with fail
    refine (sPostAdd_any n _ _ _ _ net _ _ _ _ l _ (Nat.le_trans r_N.size (by omega)) r_N.2.2 (Nat.le_refl _) (by omega) r_l (Nat.le_refl _)).mono ?_
    rintro e w3 ⟨P3, d3, rfl, o_M2, hs⟩
    replace r_l := (r_l.below hs (Nat.le_refl _)).more (Nat.le_refl _) hs.size
    replace r_N := r_N.below hs
    replace r_M := (r_M.below hs (Nat.le_refl _)).more (Nat.le_refl _) hs.size
    replace hb := hb.trans (hs.mono hb.size)
    clear hs
    rw [← HM.out] at o_M2 ⊢
    rw [HOK.out]
    have cap_M2 := ownN_cap o_M2
    have r_M2 := o_M2.rd.more (Nat.zero_le _) (Nat.le_refl _)
    clear o_M2
    go_wp2_with fail
    refine (sameNet_any _ _ _ _ _ _ _ _ M M _ HMB.out.1 HMB.out.2 r_M (Nat.le_refl _) r_M2 (Nat.le_refl _)).mono ?_
    rintro e w4 ⟨rfl, hs⟩
    replace r_l := (r_l.below hs (Nat.le_refl _)).more (Nat.le_refl _) hs.size
    replace r_N := r_N.below hs
    replace r_M := (r_M.below hs (Nat.le_refl _)).more (Nat.le_refl _) hs.size
    replace r_M2 := (r_M2.below hs (Nat.le_refl _)).more (Nat.le_refl _) hs.size
    replace hb := hb.trans (hs.mono hb.size)
    clear hs
    rw [show decide (M = M) = true from decide_eq_true rfl]
    go_wp2_with fail
    refine (sameNet_any _ _ _ _ _ _ _ _ M M _ HMB.out.1 HMB.out.2 r_M (Nat.le_refl _) r_M2 (Nat.le_refl _)).mono ?_
    rintro e w5 ⟨rfl, hs⟩
    replace r_l := (r_l.below hs (Nat.le_refl _)).more (Nat.le_refl _) hs.size
    replace r_N := r_N.below hs
    replace r_M := (r_M.below hs (Nat.le_refl _)).more (Nat.le_refl _) hs.size
    replace r_M2 := (r_M2.below hs (Nat.le_refl _)).more (Nat.le_refl _) hs.size
    replace hb := hb.trans (hs.mono hb.size)
    clear hs
    rw [show decide (M = M) = true from decide_eq_true rfl]
    go_wp2_with fail
    go_ret
    exact ⟨rfl, by (repeat (first | exact Below.refl _ _ | assumption | apply below_alloc | apply below_drewN | apply Below.drew | refine Below.setCell ?_ (by simp; try omega) _))⟩
  have HOK := Lib.hid hok
  clear hok
  go_wp2_with fail
  refine (iPostAdd_any n _ _ _ _ net _ _ _ _ l _ (Nat.le_trans r_N.size (by omega)) r_N.2.2 (Nat.le_refl _) (by omega) r_l (Nat.le_refl _)).mono ?_
  rintro e w2 ⟨P2, d2, rfl, o_M, hs⟩
  replace r_l := (r_l.below hs (Nat.le_refl _)).more (Nat.le_refl _) hs.size
  replace r_N := r_N.below hs
  replace hb := hb.trans (hs.mono hb.size)
  clear hs
  rw [← HM.out] at o_M ⊢
  rw [HOK.out]
  have cap_M := ownN_cap o_M
  have r_M := o_M.rd.more (Nat.zero_le _) (Nat.le_refl _)
  clear o_M
  go_wp2_with fail
  refine (sPostAdd_any n _ _ _ _ net _ _ _ _ l _ (Nat.le_trans r_N.size (by omega)) r_N.2.2 (Nat.le_refl _) (by omega) r_l (Nat.le_refl _)).mono ?_
  rintro e w3 ⟨P3, d3, rfl, o_M2, hs⟩
  replace r_l := (r_l.below hs (Nat.le_refl _)).more (Nat.le_refl _) hs.size
  replace r_N := r_N.below hs
  replace r_M := (r_M.below hs (Nat.le_refl _)).more (Nat.le_refl _) hs.size
  replace hb := hb.trans (hs.mono hb.size)
  clear hs
  rw [← HM.out] at o_M2 ⊢
  rw [HOK.out]
  have cap_M2 := ownN_cap o_M2
  have r_M2 := o_M2.rd.more (Nat.zero_le _) (Nat.le_refl _)
  clear o_M2
  go_wp2_with fail
  refine (sameNet_any _ _ _ _ _ _ _ _ M M _ HMB.out.1 HMB.out.2 r_M (Nat.le_refl _) r_M2 (Nat.le_refl _)).mono ?_
  rintro e w4 ⟨rfl, hs⟩
  replace r_l := (r_l.below hs (Nat.le_refl _)).more (Nat.le_refl _) hs.size
  replace r_N := r_N.below hs
  replace r_M := (r_M.below hs (Nat.le_refl _)).more (Nat.le_refl _) hs.size
  replace r_M2 := (r_M2.below hs (Nat.le_refl _)).more (Nat.le_refl _) hs.size
  replace hb := hb.trans (hs.mono hb.size)
  clear hs
  rw [show decide (M = M) = true from decide_eq_true rfl]
  clear r_M2 cap_M2
  have hMe : M = net ++ [l] := by rw [HM.out, addN_yes HOK.out]
  have hMl : M.length = net.length + 1 := by rw [hMe]; simp
  have hnb : netB n net = true := by
    cases h : netB n net
    · have := add_sub (l := l) h
      rw [HOK.out] at this; cases this
    · rfl
  have hnM : netB n M = true := by rw [hMe]; exact HOK.out
  obtain ⟨z, hz⟩ : ∃ z, z = (n1 : Int) % n := ⟨_, rfl⟩
  have z0 : 0 ≤ z ∧ z < n := by rw [hz]; exact ⟨Int.emod_nonneg _ (by omega), Int.emod_lt_of_pos _ (by omega)⟩
  obtain ⟨z0, z1⟩ := z0
  have mz : Int.tmod (n1 : Int) n = z := by rw [hz, Int.tmod_eq_emod_of_nonneg (by omega)]
  have m2z : (n1 : Int) % n = z := hz.symm
  have wz : IntKind.i64.wrap z = z := IntWalk.i64_in _ (by omega)
  clear hz
  have hnz : (n == 0) = false := by rw [beq_eq_false_iff_ne]; omega
  have ok1 : postOk n net z 10 3 = true := by
    simp only [postOk, Bool.and_eq_true, inB, decide_eq_true_eq]; exact ⟨⟨⟨hnb, by omega⟩, by omega⟩, by omega⟩
  have ok2 : postOk n M z 10 3 = true := by
    simp only [postOk, Bool.and_eq_true, inB, decide_eq_true_eq]; exact ⟨⟨⟨hnM, by omega⟩, by omega⟩, by omega⟩
  obtain ⟨a, ha⟩ : ∃ a, a = tableL n net z 10 3 := ⟨_, rfl⟩
  obtain ⟨b, hb'⟩ : ∃ b, b = tableL n M z 10 3 := ⟨_, rfl⟩
  have hal : a.length = n.toNat := by rw [ha]; exact (tab_ok ok1).1
  have hbl : b.length = n.toNat := by rw [hb']; exact (tab_ok ok2).1
  have HLAW := Lib.hid (show ∀ k : Nat, (k : Int) < n → 0 ≤ a.getD k 0 → 0 ≤ b.getD k 0 ∧ b.getD k 0 ≤ a.getD k 0 from fun k hk h0 => by
    have ea := tg_get (T := a) (v := (k : Int)) (by omega) (by simp only [Int.toNat_natCast]; omega)
    have eb := tg_get (T := b) (v := (k : Int)) (by omega) (by simp only [Int.toNat_natCast]; omega)
    simp only [Int.toNat_natCast] at ea eb
    have ga : a.getD k 0 = tg a (k : Int) := by rw [ea, List.getD_eq_getElem?_getD, List.getElem?_eq_getElem (by omega)]; rfl
    have gb : b.getD k 0 = tg b (k : Int) := by rw [eb, List.getD_eq_getElem?_getD, List.getElem?_eq_getElem (by omega)]; rfl
    rw [ga] at h0 ⊢
    rw [gb]
    rw [ha] at h0 ⊢
    rw [hb']
    exact tab_mono ok1 ok2 (fun x hx => by rw [hMe]; exact List.mem_append_left _ hx) (Int.le_refl _) (Int.le_refl _) (by omega) hk h0)
  have HP1 := Lib.hid (show postTab n net z 10 3 = a by rw [postTab, if_pos ok1, ha])
  have HP2 := Lib.hid (show postTab n M z 10 3 = b by rw [postTab, if_pos ok2, hb'])
  have HO1 := Lib.hid ok1
  have HO2 := Lib.hid ok2
  have HME := Lib.hid hMe
  have HML := Lib.hid hMl
  have hMl1 : net.length < M.length := by omega
  have hTa1 : (a.length : Int) ≤ n := by omega
  have hTa2 : n ≤ (a.length : Int) := by omega
  have hTb1 : (b.length : Int) ≤ n := by omega
  have hTb2 : n ≤ (b.length : Int) := by omega
  have NA : ((a.length : Int) != n) = false := by rw [bne_eq_false_iff_eq]; omega
  have NB : ((b.length : Int) != n) = false := by rw [bne_eq_false_iff_eq]; omega
  clear hMe hMl hnb hnM ok1 ok2 ha hb' hal hbl
  go_wp2_with fail
  refine (iPostTable_any n _ _ _ net z 10 3 _ (Nat.le_trans r_N.size (by omega)) r_N.2.2 (Nat.le_refl _)).mono ?_
  rintro e w5 ⟨P5, d5, rfl, o_a, hs⟩
  replace r_l := (r_l.below hs (Nat.le_refl _)).more (Nat.le_refl _) hs.size
  replace r_N := r_N.below hs
  replace r_M := (r_M.below hs (Nat.le_refl _)).more (Nat.le_refl _) hs.size
  replace hb := hb.trans (hs.mono hb.size)
  clear hs
  rw [HP1.out] at o_a ⊢
  rw [HO1.out]
  go_wp2_with fail
  refine (iPostTable_any n _ _ _ M z 10 3 _ HMS.out r_M (Nat.le_refl _)).mono ?_
  rintro e w6 ⟨P6, d6, rfl, o_b, hs⟩
  replace r_l := (r_l.below hs (Nat.le_refl _)).more (Nat.le_refl _) hs.size
  replace r_N := r_N.below hs
  replace r_M := (r_M.below hs (Nat.le_refl _)).more (Nat.le_refl _) hs.size
  replace o_a := own_below o_a hs
  replace hb := hb.trans (hs.mono hb.size)
  clear hs
  rw [HP2.out] at o_b ⊢
  rw [HO2.out]
  obtain ⟨ba, oa, rfl, ca⟩ := (Rd.of_own o_a).all1 (by omega)
  obtain ⟨bb, ob, rfl, cb⟩ := (Rd.of_own o_b).all1 (by omega)
  have CA := Lib.hid ca
  have CB := Lib.hid cb
  clear ca cb o_a o_b mz m2z wz
  have hln := r_N.1
  have HRN := Lib.hid r_N
  have HRM := Lib.hid r_M
  have HRL := Lib.hid r_l
  clear r_N r_M r_l
  go_wp2_with fail
  go_loopw [17] (fun i wr => ∃ (k q : Nat), (k : Int) ≤ n ∧ i = .int .i64 k ∧ wr = w6.drewN q) (fun i _ => (n - intOf i).toNat)
  case atStart => exact ⟨0, 0, by omega, rfl, rfl⟩
  case round =>
    obtain ⟨k, q, hk, rfl, rfl⟩ := hrel
    by_cases hlt : (k : Int) < n
    · have hka : (k : Int) < (a.length : Int) := by omega
      have hkb : (k : Int) < (b.length : Int) := by omega
      have hk0 : (0 : Int) ≤ (k : Int) := by omega
      have a1 := CA.out k (by omega)
      have b1 := CB.out k (by omega)
      have hl := HLAW.out k hlt
      generalize a.getD k 0 = x at *
      generalize b.getD k 0 = y at *
      by_cases hx : 0 ≤ x
      · obtain ⟨h1, h2⟩ := hl hx
        have t1 : decide (0 ≤ x) = true := decide_eq_true hx
        have t2 : decide (y < 0) = false := decide_eq_false (by omega)
        have t3 : decide (x < y) = false := decide_eq_false (by omega)
        clear hl
        go_wp2_with fail
        go_quiet (fail)
        go_wp2_with fail
        go_roundw
        case rel => exact ⟨k + 1, _, by omega, by go_num, rfl⟩
        case measure => simp [intOf]; omega
      · have t1 : decide (0 ≤ x) = false := decide_eq_false hx
        clear hl hx
        go_wp2_with fail
        go_quiet (fail)
        go_wp2_with fail
        go_roundw
        case rel => exact ⟨k + 1, _, by omega, by go_num, rfl⟩
        case measure => simp [intOf]; omega
    · have hq0 : Below w6.heap.size w6 (w6.drewN q) := below_drewN (Below.refl _ _) q
      have hbb : Below w.heap.size w (w6.drewN q) := below_drewN hb q
      have hMM := HRM.out
      rw [HME.out] at hMM
      have HPRE := Lib.hid hMM.front
      obtain ⟨bl, ol, Bl, cl, hP, hbl, cL, hrl⟩ := hMM.last
      subst hP
      have HRLL := Lib.hid hrl
      have cL1 : (w6.drewN q).cell? ⟨bl, ol + net.length, none⟩ = some (.slice Bl l.length cl) := (hq0.cell (p := ⟨bl, ol + net.length, none⟩) hbl).trans cL
      have hnc : net.length ≤ d2 := by omega
      have hi0 : (0 : Int) ≤ (net.length : Int) := by omega
      have hi1 : (net.length : Int) < (M.length : Int) := by omega
      clear hMM hrl cL
      go_wp2_with fail
      refine (sameNet_any _ _ _ _ _ _ _ _ net net _ (by omega) (fun j hj => by have := HRN.out.2.1 j hj; omega) (HPRE.out.below hq0 (Nat.le_refl _)) hq0.size (HRN.out.2.2.below hq0 (Nat.le_refl _)) hq0.size).mono ?_
      rintro e wq ⟨rfl, hs⟩
      rw [show decide (net = net) = true from decide_eq_true rfl]
      have hbc := hbb.trans (hs.mono hbb.size)
      have hq1 := hq0.trans (hs.mono hq0.size)
      have cL2 : wq.cell? ⟨bl, ol + net.length, none⟩ = some (.slice Bl l.length cl) := (hs.cell (p := ⟨bl, ol + net.length, none⟩) (Nat.lt_of_lt_of_le hbl hq0.size)).trans cL1
      clear hs cL1
      go_wp2_with fail
      refine (sameStops_any _ _ _ _ _ _ _ _ l l _ (by omega) (HRLL.out.below hq1 (Nat.le_refl _)) (HRL.out.below hq1 (Nat.le_refl _))).mono ?_
      rintro e wq' ⟨rfl, q', rfl⟩
      rw [show decide (l = l) = true from decide_eq_true rfl]
      have hbd := below_drewN hbc q'
      go_wp2_with fail
      go_ret
      exact ⟨rfl, hbd⟩

set_option maxRecDepth 100000 in
theorem postAdd_lifted (os : Os) (started : os.Started) (H : Type) (enc : TypeId × Value → H) :
    ReturnsInHanded {} Try.checked os 6 .any (Rows.fnPostAddSpec.pre6 enc Try.prog Try.f6 Rows.fnPostAddRow.domain false) (Rows.fnPostAddSpec.post enc Try.prog Try.f6 false true false false) := by
  refine returnsInHanded_of_change (C := Try.checked) prog_own started (by kernel_rfl) Try.func6
    (ChangeSpec.witness6 (enc := enc) (C := Try.checked) false ⟨#[], #[.slice none 0 0, .slice none 0 0], []⟩ 8 (by kernel_rfl) (by kernel_rfl) (by kernel_rfl) (by kernel_rfl)) ?_
  intro W base args ds gs before hval0 hW hcnd _
  have hval : ∀ (j : Nat) t v, Try.f6.params[j]? = some t → args[j]? = some v → Value.okWide Try.prog W .any base t v := hval0
  have hW' := hW
  obtain ⟨p, q, hA0, hV, rfl, hfz, hnd⟩ := hW
  have hA : DataW.TrodAll enc Try.prog W 0 (fun _ => true) true Try.f6.params.toList args.toList ds p := hA0
  rw [Try.params6] at hA hval
  obtain ⟨v0, vs0, d0, ds0, p0, q0, hargs, rfl, rfl, h0, r0⟩ := trodAll_cons hA
  obtain ⟨v1, vs1, d1, ds1, p1, q1, rfl, rfl, rfl, h1, r1⟩ := trodAll_cons r0
  obtain ⟨rfl, rfl, rfl⟩ := trodAll_nil r1
  obtain rfl : args = #[v0, v1] := by cases args; simp_all
  obtain ⟨rfl, rfl⟩ := trodVars_none hV
  obtain ⟨a0, len0, cap0, rfl⟩ := okWide_slice Try.underlying22 (hval 0 22 v0 rfl rfl)
  have k0 := h0
  have lt0 : ∀ x ∈ p0, x.block < W.heap.size := by obtain ⟨m, hm⟩ := k0; exact DataW.trod_lt m _ _ _ hm
  obtain ⟨fuel0, hf0⟩ := h0
  obtain ⟨bs0, hm0, hb0, hc0⟩ := open_b1 Try.underlying22 Try.underlying5 (by kernel_rfl) hf0
  obtain ⟨a1, len1, cap1, rfl⟩ := okWide_slice Try.underlying22 (hval 1 22 v1 rfl rfl)
  have k1 := h1
  have lt1 : ∀ x ∈ p1, x.block < W.heap.size := by obtain ⟨m, hm⟩ := k1; exact DataW.trod_lt m _ _ _ hm
  obtain ⟨fuel1, hf1⟩ := h1
  obtain ⟨bs1, hm1, hb1, hc1⟩ := open_b1 Try.underlying22 Try.underlying5 (by kernel_rfl) hf1
  clear hA0 hval0
  refine (postAdd_any a0 cap0 len0 bs0 a1 cap1 len1 bs1 W hm0 hb0 hc0 hm1 hb1 hc1).mono fun e W' ⟨he, bel⟩ => ?_
  subst he
  exact ⟨_, rfl, _, _, _, [], _, [], hW', trodAll_mk1 (shut_bool Try.underlying4 _), (trodAll_cons_mk (Below.trod prog_laidOut (by kernel_rfl) (of_decide_eq_true (by kernel_rfl)) k0 bel lt0) (trodAll_cons_mk (Below.trod prog_laidOut (by kernel_rfl) (of_decide_eq_true (by kernel_rfl)) k1 bel lt1) trodAll_mk0)), rfl, bel.frame _, fun h => by cases h⟩

theorem postAdd_holds : Rows.FnPostAddSaid :=
  OpenClaim.holds_of_wide 6 Try.f6 rfl rfl rfl rfl rfl rfl rfl ⟨rfl, rfl, rfl, rfl, rfl⟩ rfl rfl rfl rfl rfl (by kernel_rfl) Try.func6 (by kernel_rfl)
    (of_decide_eq_true (by kernel_rfl)) (by unfold Func.isWrapper; first | (rw [if_pos (by decide +kernel)]; kernel_rfl) | (rw [if_neg (by decide +kernel)]; exact ⟨rfl, rfl⟩))
    (fun os started H enc _ => postAdd_lifted os started H enc)

end Go.Proofs.Ytdiichfdffhdaaa

/-
  The reference shares an amount: l5Share.
-/
import Derived.Test.YtmeaegopenbelaaPartsS2
namespace Go.Proofs.Ytmeaegopenbelaa
open Go.RowKit

theorem quo_take {m : List Int} {a all : Int} {k : Nat} (h : k < m.length) : quoL (m.take (k + 1)) a all = quoL (m.take k) a all ++ [a * m[k] / all] := by
  unfold quoL; rw [List.take_succ_eq_append_getElem h, List.map_append]; rfl
theorem res_take {m : List Int} {a all : Int} {k : Nat} (h : k < m.length) : resL (m.take (k + 1)) a all = resL (m.take k) a all ++ [a * m[k] % all] := by
  unfold resL; rw [List.take_succ_eq_append_getElem h, List.map_append]; rfl
/-- What a product, a quotient and a rest are, in bounds. -/
theorem share_num {a y S : Int} (ha : 0 ≤ a ∧ a ≤ 1000000) (hy : 0 ≤ y ∧ y ≤ 1188) (hyS : y ≤ S) (hS : 0 < S ∧ S ≤ 7128) : 0 ≤ a * y ∧ a * y ≤ 1188000000 ∧ (a * y).tdiv S = a * y / S ∧ (a * y).tmod S = a * y % S ∧ 0 ≤ a * y / S ∧ a * y / S ≤ a ∧ 0 ≤ a * y % S ∧ a * y % S < S := by
  have h0 : 0 ≤ a * y := Int.mul_nonneg ha.1 hy.1
  have h1 : a * y ≤ 1000000 * 1188 := Int.mul_le_mul ha.2 hy.2 hy.1 (by omega)
  refine ⟨h0, by omega, Int.tdiv_eq_ediv_of_nonneg h0, Int.tmod_eq_emod_of_nonneg h0, Int.ediv_nonneg h0 (by omega), ?_, Int.emod_nonneg _ (by omega), Int.emod_lt_of_pos _ hS.1⟩
  have h2 : a * y ≤ a * S := Int.mul_le_mul_of_nonneg_left hyS ha.1
  have h3 := Int.ediv_le_ediv hS.1 h2
  rwa [Int.mul_ediv_cancel _ (by omega)] at h3
theorem bestTo_lt {R : List Int} {j n : Nat} (hj : j ≤ n) (hn : 0 < n) : bestTo R j < n := by
  cases j with
  | zero => exact hn
  | succ i => have := (bestTo_spec R i).1; omega
set_option maxHeartbeats 4000000 in
theorem sShare_any (A : Option Addr) (c lo hi : Nat) (m : List Int) (a : Int) (w : World) (hm6 : m.length = 6) (hm : ∀ x ∈ m, 0 ≤ x ∧ x ≤ 1188) (hp : 0 < sumI m) (ha : 0 ≤ a ∧ a ≤ 1000000) (hr : Rd w lo hi A (ints m)) (hh : hi ≤ w.heap.size) :
    Calls Try.prog 40 #[.slice A m.length c, .int .i64 a] w (RetI 3 (shareL m a) w) := by
  obtain ⟨i0, hi0, hz0, hz1, hz2⟩ := info_parts infoInt
  have hSb : sumI m ≤ 7128 := by
    have := Go.Proofs.Ytmeaegopenbelaa.sum_le (L := m) (B := 1188) fun x hx => (hm x hx).2
    rw [hm6] at this; omega
  have hsn := sum_nn fun x hx => (hm x hx).1
  have HM := Lib.hid hm
  have HY := Lib.hid hsn.2
  have hlr := left_range (a := a) hp
  have hl0 := hlr.2.1
  have hl1 : leftV m a ≤ 6 := by have := hlr.2.2.1; omega
  have HSH := Lib.hid (show shareL m a = shareGo (leftV m a).toNat (quoL m a (sumI m)) (resL m a (sumI m)) from rfl)
  have HLV := Lib.hid (show leftV m a = a - sumI (quoL m a (sumI m)) from rfl)
  obtain ⟨S, hS⟩ : ∃ S, S = sumI m := ⟨_, rfl⟩
  rw [← hS] at HSH HLV hSb hp HY
  have HS := Lib.hid hS
  have HA := Lib.hid ha
  obtain ⟨ha0, ha1⟩ := ha
  have hmle : m.length ≤ 6 := by omega
  have HM6 := Lib.hid hm6
  clear hm hsn hlr hS hm6
  have hb0 : Below w.heap.size w ((w.alloc (.cells #[] 3)).alloc (.cells #[] 3)) := below_alloc (below_alloc (Below.refl _ _) _) _
  have ho0 := (own_lit0 w w.heap.size 3 1 (Nat.le_refl _)).alloc (.cells #[] 3)
  have hr0 : ((w.alloc (.cells #[] 3)).alloc (.cells #[] 3)).ownsRow w.heap.size 3 1 (.slice (some ⟨w.heap.size + 1, 0, none⟩) 0 0) 0 [] := by
    have := own_lit0 (w.alloc (.cells #[] 3)) w.heap.size 3 1 (by simp)
    simpa using this
  go_enter Try.func40, Try.ntmps40
  go_wp2_with fail
  refine (sSum5_any _ _ _ _ m _ (by omega) hr (fun x hx => by have := HM.out x hx; omega)).mono ?_
  rintro e w1 ⟨rfl, rfl⟩
  rw [← HS.out]
  go_wp2_with fail
  go_loopw [6, 7, 8] (fun vo vr i wr => ∃ (k g cg h ch : Nat) (O R : List Int), k ≤ m.length ∧ i = .int .i64 k ∧ vo = .slice (some ⟨g, 0, none⟩) O.length cg ∧ vr = .slice (some ⟨h, 0, none⟩) R.length ch ∧ Hid (O = quoL (m.take k) a S) ∧ Hid (R = resL (m.take k) a S) ∧ g ≠ h ∧
    wr.ownsRow w.heap.size 3 1 (.slice (some ⟨g, 0, none⟩) O.length cg) O.length (ints O) ∧ wr.ownsRow w.heap.size 3 1 (.slice (some ⟨h, 0, none⟩) R.length ch) R.length (ints R) ∧ Below w.heap.size w wr) (fun _ _ i _ => m.length - (intOf i).toNat)
  case atStart => exact ⟨0, _, _, _, _, [], [], Nat.zero_le _, rfl, rfl, rfl, rfl, rfl, by omega, ho0, hr0, hb0⟩
  case round =>
    obtain ⟨k, g, cg, h, ch, O, R, hk, rfl, rfl, rfl, HO, HR, hne, hog, hoh, hb⟩ := hrel
    clear ho0 hr0 hb0
    have hbs := hb.size
    have hOl : O.length ≤ 6 := by rw [HO.out]; simp [quoL]; omega
    have hRl : R.length ≤ 6 := by rw [HR.out]; simp [resL]; omega
    by_cases hlt : k < m.length
    · obtain ⟨b, off, rfl, hlo, hhi, c0⟩ := (hr.below hb hh).at1 k hlt
      have hy := HM.out m[k] (List.getElem_mem hlt)
      have hyS := HY.out m[k] (List.getElem_mem hlt)
      have hso := quo_take (a := a) (all := S) hlt
      have hsr := res_take (a := a) (all := S) hlt
      rw [← HO.out] at hso
      rw [← HR.out] at hsr
      have HSL := Lib.hid (show ∀ wq, Below w.heap.size w wq → wq.cell? ⟨b, off + k, none⟩ = some (.int .i64 m[k]) from fun wq hq => by
        obtain ⟨b', off', e', _, _, c0⟩ := (hr.below hq hh).at1 k hlt
        injection e' with e'; injection e' with e1 e2; subst e1 e2
        exact c0)
      generalize m[k] = y at *
      obtain ⟨n0, n1, n2, n3, n4, n5, n6, n7⟩ := share_num HA.out hy hyS ⟨hp, hSb⟩
      obtain ⟨hy0, hy1⟩ := hy
      have wp : wrap64 (a * y) = a * y := IntWalk.wrap64_in _ (by omega)
      generalize a * y / S = q at *
      generalize a * y % S = r at *
      have HSO := Lib.hid hso
      have HSR := Lib.hid hsr
      clear hso hsr
      have hz : (S == 0) = false := by rw [beq_eq_false_iff_ne]; omega
      have tok1 := True.intro
      have hbw : b < wr.heap.size := by omega
      go_wp2_with (first | (at_builtin; have _t := tok1; go_must (refine wpList_append1 rfl _ _ 26 rfl w.heap.size 3 i0 _ Try.underlying26 hi0 hz0 hz1 hz2 rfl (.slice (some ⟨g, 0, none⟩) O.length cg) O rfl (hog.alloc _) wr.heap.size _ (nb1 _ _) rfl (by omega) (ls1 hbs _) ?_); intro g2 cap2 w2 hog2 hg2 hor2 hltg; have hoh2 := own_ne (hoh.alloc _) hg2 (Ne.symm hne); have hb2 := below_grown (below_alloc hb _) (ls1 hbs _) (hog.alloc _) (Nat.le_refl _) hg2; have hne2 := ne_of_or hor2 hne (by have := (own_lt hoh).2; simp; omega); have d0 := HSL.out _ hb2; have hbs2 := hb2.size; clear hor2 hg2 hog hoh hb hbs tok1 _t) | (at_builtin; go_must (refine wpList_append1 rfl _ _ 26 rfl w.heap.size 3 i0 _ Try.underlying26 hi0 hz0 hz1 hz2 rfl (.slice (some ⟨h, 0, none⟩) R.length ch) R rfl (hoh2.alloc _) w2.heap.size _ (nb1 _ _) rfl (by omega) (ls1 hbs2 _) ?_); intro g4 cap4 w4 hoh4 hg4 hor4 hltg4; have hog4 := own_ne (hog2.alloc _) hg4 hne2; have hb4 := below_grown (below_alloc hb2 _) (ls1 hbs2 _) (hoh2.alloc _) (Nat.le_refl _) hg4; have hne4 := ne_of_or hor4 (Ne.symm hne2) (by simp; omega); clear hor4 hg4))
      have HO2 := Lib.hid (show O ++ [q] = quoL (m.take (k + 1)) a S from HSO.out.symm)
      have HR2 := Lib.hid (show R ++ [r] = resL (m.take (k + 1)) a S from HSR.out.symm)
      go_roundw
      case rel => exact ⟨k + 1, g2, cap2, g4, cap4, O ++ [q], R ++ [r], by omega, by go_num, by simp, by simp, HO2, HR2, Ne.symm hne4, by simpa using hog4, by simpa using hoh4, hb4⟩
      case measure => simp [intOf]; omega
    · have hkl : k = m.length := by omega
      subst hkl
      rw [List.take_length] at HO HR
      have hOq : O.length = 6 := by rw [HO.out]; simp [quoL, HM6.out]
      have hRq : R.length = 6 := by rw [HR.out]; simp [resL, HM6.out]
      have HOQ := Lib.hid hOq
      have HRQ := Lib.hid hRq
      clear hOq hRq
      have HOB := Lib.hid (show ∀ x ∈ O, 0 ≤ x ∧ x ≤ 1000000 from fun x hx => by
        rw [HO.out] at hx
        obtain ⟨y, hy, rfl⟩ := List.mem_map.1 hx
        have hy2 := HM.out y hy
        have := share_num HA.out hy2 (HY.out y hy) ⟨hp, hSb⟩
        omega)
      have HRB := Lib.hid (show ∀ x ∈ R, -1 ≤ x ∧ x ≤ 7128 from fun x hx => by
        have := res_range (m := m) (a := a) hp x (by rw [← HR.out]; exact hx)
        omega)
      have HSH2 := Lib.hid (show shareL m a = shareGo (leftV m a).toNat O R by rw [HSH.out, HO.out, HR.out])
      have HLV2 := Lib.hid (show leftV m a = a - sumI O by rw [HLV.out, HO.out])
      obtain ⟨V, hV⟩ : ∃ V, V = leftV m a := ⟨_, rfl⟩
      rw [← hV] at HSH2 HLV2 hl0 hl1
      have hsb := sumI_bd O 1000000 (fun k hk => HOB.out _ (List.getElem_mem hk))
      rw [HOQ.out] at hsb
      obtain ⟨hsb0, hsb1⟩ := hsb
      obtain ⟨Q, hQ⟩ : ∃ Q, Q = sumI O := ⟨_, rfl⟩
      rw [← hQ] at HLV2 hsb0 hsb1
      have HQ := Lib.hid hQ
      have hQ1 : Q ≤ 6000000 := by omega
      clear hV hQ hsb1
      have wv : IntKind.i64.wrap (a - Q) = a - Q := IntWalk.i64_in _ (by omega)
      go_wp2_with fail
      refine (sSum5_any _ _ _ _ O _ (by omega) (Rd.of_own hog) (fun x hx => by have := HOB.out x hx; omega)).mono ?_
      rintro e w3 ⟨rfl, rfl⟩
      rw [← HQ.out]
      obtain rfl : V = a - Q := HLV2.out
      go_wp2_with fail
      obtain ⟨wo, hwo⟩ : ∃ wo : World, wo = wr := ⟨_, rfl⟩
      subst hwo
      clear wv
      have e6 := HOQ.out
      have e7 := HRQ.out
      rw [e6] at hog ⊢
      rw [e7] at hoh ⊢
      have HN6 := Lib.hid e6
      have HN7 := Lib.hid e7
      clear e6 e7 hOl hRl
      go_loopw [9, 10, 11] (fun v _ _ wr => ∃ (t : Nat) (O R : List Int), t ≤ 6 ∧ v = .int .i64 t ∧ Hid (O.length = 6) ∧ Hid (R.length = 6) ∧ Hid (∀ x ∈ O, 0 ≤ x ∧ x ≤ 1000006 - t) ∧ Hid (∀ x ∈ R, -1 ≤ x ∧ x ≤ 7128) ∧ Hid (shareL m a = shareGo t O R) ∧
        wr.ownsRow w.heap.size 3 1 (.slice (some ⟨g, 0, none⟩) 6 cg) 6 (ints O) ∧ wr.ownsRow w.heap.size 3 1 (.slice (some ⟨h, 0, none⟩) 6 ch) 6 (ints R) ∧ Below w.heap.size w wr) (fun v _ _ _ => (intOf v).toNat)
      case atStart => exact ⟨(a - Q).toNat, O, R, by omega, by rw [show (((a - Q).toNat : Nat) : Int) = a - Q by omega], HN6, HN7, Lib.hid (fun x hx => by have := HOB.out x hx; omega), HRB, HSH2, hog, hoh, hb⟩
      case round =>
        obtain ⟨t, O', R', ht, rfl, HO6, HR6, HOB', HRB', HS', hog', hoh', hb'⟩ := hrel
        clear hog hoh hb
        by_cases hpos : 0 < t
        · obtain ⟨t', rfl⟩ : ∃ t', t = t' + 1 := ⟨t - 1, by omega⟩
          have ht0 : decide ((0 : Int) < ((t' + 1 : Nat) : Int)) = true := decide_eq_true (by omega)
          obtain ⟨wq, hwq⟩ : ∃ wq : World, wq = wr := ⟨_, rfl⟩
          subst hwq
          go_wp2_with fail
          go_loopw [10, 11] (fun bv i wr => ∃ (j q : Nat), j ≤ 6 ∧ i = .int .i64 j ∧ bv = .int .i64 (bestTo R' j : Nat) ∧ wr = wq.drewN q) (fun _ i _ => 6 - (intOf i).toNat)
          case atStart => exact ⟨0, 0, by omega, rfl, rfl, rfl⟩
          case round =>
            obtain ⟨j, q, hj, rfl, rfl, rfl⟩ := hrel
            have hb6 : bestTo R' j < 6 := bestTo_lt hj (by omega)
            have HBT := Lib.hid (show bestTo R' (j + 1) = if R'.getD (bestTo R' j) 0 < R'.getD j 0 then j else bestTo R' j from rfl)
            by_cases hj6 : j < 6
            · have hjR : j < R'.length := by have := HR6.out; omega
              have hbR : bestTo R' j < R'.length := by have := HR6.out; omega
              have d0 := own1_cell hoh' j hjR
              have d1 := own1_cell hoh' (bestTo R' j) hbR
              rw [List.getD_eq_getElem?_getD, List.getD_eq_getElem?_getD, List.getElem?_eq_getElem hjR, List.getElem?_eq_getElem hbR] at HBT
              simp only [Option.getD_some] at HBT
              generalize R'[j] = x at *
              generalize R'[bestTo R' j] = y at *
              clear hjR hbR
              generalize bestTo R' j = b at *
              have hj0 : (0 : Int) ≤ (j : Int) := by omega
              have hj7 : (j : Int) < 6 := by omega
              have hb0 : (0 : Int) ≤ (b : Int) := by omega
              have hb7 : (b : Int) < 6 := by omega
              by_cases hlt : y < x
              · have hd := decide_eq_true hlt
                have HN := Lib.hid (show bestTo R' (j + 1) = j by rw [HBT.out, if_pos hlt])
                clear hlt
                go_wp2_with fail
                go_quiet (fail)
                go_wp2_with fail
                go_roundw
                case rel => exact ⟨j + 1, _, by omega, by go_num, by rw [HN.out], rfl⟩
                case measure => simp [intOf]; omega
              · have hd := decide_eq_false hlt
                have HN := Lib.hid (show bestTo R' (j + 1) = b by rw [HBT.out, if_neg hlt])
                clear hlt
                go_wp2_with fail
                go_quiet (fail)
                go_wp2_with fail
                go_roundw
                case rel => exact ⟨j + 1, _, by omega, by go_num, by rw [HN.out], rfl⟩
                case measure => simp [intOf]; omega
            · obtain rfl : j = 6 := by omega
              have hogq := own_drewN hog' q
              have hohq := own_drewN hoh' q
              have hbq := below_drewN hb' q
              generalize wq.drewN q = wz at *
              clear hog' hoh' hb' HBT
              have HG := Lib.hid (show shareGo (t' + 1) O' R' = shareGo t' (O'.set (bestTo R' 6) (O'.getD (bestTo R' 6) 0 + 1)) (R'.set (bestTo R' 6) (-1)) by rw [shareGo, HR6.out])
              generalize bestTo R' 6 = b at *
              have hbO : b < O'.length := by have := HO6.out; omega
              have hbR : b < R'.length := by have := HR6.out; omega
              have d0 := own1_cell hogq b hbO
              have d1 := own1_cell hohq b hbR
              have f0 := hogq.frozenAt b
              have f1 := hohq.frozenAt b
              have hxb := HOB'.out O'[b] (List.getElem_mem hbO)
              have hst := own1_store hogq b (O'[b] + 1)
              have hoh2 := own_setCell (o := b) (u := .int .i64 (O'[b] + 1)) hohq (Ne.symm hne)
              have hog3 := own_setCell (o := b) (u := .int .i64 (-1)) hst hne
              have hst3 := own1_store hoh2 b (-1)
              have hb3 := (hbq.setCell (p := ⟨g, b, none⟩) (own_lt hogq).1 (.int .i64 (O'[b] + 1))).setCell (p := ⟨h, b, none⟩) (own_lt hohq).1 (.int .i64 (-1))
              rw [List.getD_eq_getElem?_getD, List.getElem?_eq_getElem hbO] at HG
              simp only [Option.getD_some] at HG
              have HOB2 := Lib.hid (show ∀ x ∈ O'.set b (O'[b] + 1), 0 ≤ x ∧ x ≤ 1000006 - (t' : Int) from fun x hx => by
                rcases List.mem_or_eq_of_mem_set hx with hx | rfl
                · have := HOB'.out x hx; omega
                · omega)
              have HRB2 := Lib.hid (show ∀ x ∈ R'.set b (-1), -1 ≤ x ∧ x ≤ 7128 from fun x hx => by
                rcases List.mem_or_eq_of_mem_set hx with hx | rfl
                · exact HRB'.out x hx
                · omega)
              have HO62 := Lib.hid (show (O'.set b (O'[b] + 1)).length = 6 by rw [List.length_set]; exact HO6.out)
              have HR62 := Lib.hid (show (R'.set b (-1)).length = 6 by rw [List.length_set]; exact HR6.out)
              have HS2 := Lib.hid (show shareL m a = shareGo t' (O'.set b (O'[b] + 1)) (R'.set b (-1)) by rw [HS'.out, HG.out])
              have HOG3 := Lib.hid hog3
              have HST3 := Lib.hid hst3
              have HB3 := Lib.hid hb3
              clear hst hoh2 hog3 hst3 hb3 HG
              generalize O'[b] = x at *
              generalize R'[b] = y at *
              obtain ⟨hx0, hx1⟩ := hxb
              have hx2 : x ≤ 1000006 := by omega
              have hgw := (own_lt hogq).2
              have hhw := (own_lt hohq).2
              have hb0 : (0 : Int) ≤ (b : Int) := by omega
              have hb7 : (b : Int) < 6 := by omega
              have hne' : h ≠ g := Ne.symm hne
              clear hbO hbR hogq hohq
              go_wp2_with fail
              go_roundw
              case rel => exact ⟨t', _, _, by omega, by go_num, HO62, HR62, HOB2, HRB2, HS2, HOG3.out, HST3.out, HB3.out⟩
              case measure => simp [intOf]
        · obtain rfl : t = 0 := by omega
          have hfin := Lib.hid (show shareL m a = O' by rw [HS'.out]; rfl)
          go_wp2_with fail
          go_ret
          have e6 : (shareL m a).length = 6 := by rw [hfin.out]; exact HO6.out
          exact ⟨some ⟨g, 0, none⟩, cg, by rw [e6]; rfl, by rw [e6, hfin.out]; exact hog', hb'⟩

end Go.Proofs.Ytmeaegopenbelaa

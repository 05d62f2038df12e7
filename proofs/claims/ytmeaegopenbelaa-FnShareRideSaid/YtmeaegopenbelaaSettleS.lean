/-
  The reference's ShareSettle.
-/
import Derived.Test.YtmeaegopenbelaaShareR
namespace Go.Proofs.Ytmeaegopenbelaa
open Go.RowKit

def amtOk (x : Int) : Bool := inB x 0 1000000
theorem settle_and {ps : List T2} {tk : List Int} (h : settleOk ps tk = true) : partsB ps = true ∧ tk.length = 6 ∧ (∀ x ∈ tk, 0 ≤ x ∧ x ≤ 1000000) ∧ sumI tk ≤ 1000000 ∧ 0 ≤ sumI tk := by
  simp only [settleOk, Bool.and_eq_true, List.all_eq_true, decide_eq_true_eq, inB] at h
  have := sum_nn fun x hx => (h.1.2 x hx).1
  exact ⟨h.1.1.1, h.1.1.2, h.1.2, h.2, this.1⟩
theorem settle_no {ps : List T2} {tk : List Int} (h : settleOk ps tk = false) : settleV ps tk = [] := by unfold settleV; rw [h]; rfl
theorem settle_bad {ps : List T2} {tk : List Int} {k : Nat} (hk : k < tk.length) (h : inB tk[k] 0 1000000 = false) : settleOk ps tk = false := by
  cases hs : settleOk ps tk
  · rfl
  · have := (settle_and hs).2.2.1 tk[k] (List.getElem_mem hk)
    rw [inB_true this] at h; cases h
theorem sum_take_le {tk : List Int} (h : ∀ x ∈ tk, 0 ≤ x) (k : Nat) : sumI (tk.take k) ≤ sumI tk := by
  have e := sumI_append (tk.take k) (tk.drop k)
  rw [List.take_append_drop] at e
  have := (sum_nn (L := tk.drop k) fun x hx => h x (List.mem_of_mem_drop hx)).1
  omega
theorem settle_over {ps : List T2} {tk : List Int} {k : Nat} (h : 1000000 < sumI (tk.take k)) : settleOk ps tk = false := by
  cases hs : settleOk ps tk
  · rfl
  · obtain ⟨_, _, h1, h2, _⟩ := settle_and hs
    have := sum_take_le (fun x hx => (h1 x hx).1) k
    omega
theorem minus_len (a b : List Int) : (minusL a b).length = a.length := by simp [minusL]
theorem minus_get {a b : List Int} {k : Nat} (h : k < a.length) (h' : k < b.length) : (minusL a b)[k]'(by rw [minus_len]; exact h) = a[k] - b[k] := by
  simp [minusL, List.getD_eq_getElem?_getD, h, h']
theorem minus_step {M a : List Int} {k : Nat} (h : k < a.length) (hM : k < M.length) : (M.take k ++ a.drop k).set k M[k] = M.take (k + 1) ++ a.drop (k + 1) := by
  have e2 : (M.take k).length = k := by rw [List.length_take]; omega
  rw [List.set_append_right _ _ (by omega), e2, Nat.sub_self, List.drop_eq_getElem_cons h, List.set_cons_zero, List.take_succ_eq_append_getElem hM, List.append_assoc]
  rfl
theorem minus_at {M a : List Int} {k : Nat} (h : k < a.length) (hM : k < M.length) : (M.take k ++ a.drop k)[k]'(by rw [List.length_append, List.length_take, List.length_drop]; omega) = a[k] := by
  have e2 : (M.take k).length = k := by rw [List.length_take]; omega
  rw [List.getElem_append_right (by omega)]
  simp [e2]
set_option maxHeartbeats 4000000 in
theorem sSettle_any (A : Option Addr) (c lo hi : Nat) (ps : List T2) (B : Option Addr) (d lo' hi' : Nat) (tk : List Int) (w : World) (hl : ps.length ≤ 1048576) (hr : Rd w lo hi A (flat2 ps)) (hh : hi ≤ w.heap.size) (hlt : tk.length ≤ 1048576) (hrt : Rd w lo' hi' B (ints tk)) (hht : hi' ≤ w.heap.size) :
    Calls Try.prog 29 #[.slice A ps.length c, .slice B tk.length d] w (RetLB 3 (settleV ps tk) (settleOk ps tk) w) := by
  go_enter Try.func29, Try.ntmps29
  go_wp2_with fail
  go_loop [6, 7] (fun s i => ∃ k : Nat, k ≤ tk.length ∧ i = .int .i64 k ∧ s = .int .i64 (sumI (tk.take k)) ∧ Hid ((tk.take k).all amtOk = true) ∧ 0 ≤ sumI (tk.take k) ∧ sumI (tk.take k) ≤ 1000000) (fun _ i => tk.length - (intOf i).toNat)
  case atStart => exact ⟨0, Nat.zero_le _, rfl, rfl, by simp [Hid], by simp [sumI], by simp [sumI]⟩
  case round =>
    obtain ⟨k, hk, rfl, rfl, H, hs0, hs1⟩ := hrel
    by_cases hltk : k < tk.length
    · obtain ⟨b, off, rfl, _, _, c0⟩ := hrt.at1 k hltk
      have HBAD := Lib.hid (fun h => settle_bad (ps := ps) hltk h)
      have HST := Lib.hid (sumI_take_succ tk k hltk)
      have HOV := Lib.hid (fun h => settle_over (ps := ps) (tk := tk) (k := k + 1) h)
      have HAL := Lib.hid (show (tk.take (k + 1)).all amtOk = amtOk tk[k] by rw [List.take_succ_eq_append_getElem hltk, List.all_append, H.out]; simp)
      generalize tk[k] = x at *
      cases hx : inB x 0 1000000
      · have HN := Lib.hid (HBAD.out hx)
        have HL := Lib.hid (settle_no HN.out)
        have HX := Lib.hid hx
        clear hx
        go_wp2_with fail
        refine (l6In_any _ _ _ _).mono ?_
        rintro e w1 ⟨rfl, rfl⟩
        rw [HX.out]
        go_wp2_with fail
        go_ret2
        exact retLB_no HN.out HL.out (Below.refl _ _) rfl
      · have hxr := of_inB hx
        have HX := Lib.hid hx
        have HAL2 := Lib.hid (show (tk.take (k + 1)).all amtOk = true by rw [HAL.out]; exact hx)
        clear hx
        obtain ⟨hx0, hx1⟩ := hxr
        have HS2 := Lib.hid HST.out
        rw [HS2.out] at HOV
        generalize sumI (tk.take k) = s at *
        by_cases hov : 1000000 < s + x
        · have HN := Lib.hid (HOV.out hov)
          have HL := Lib.hid (settle_no HN.out)
          go_wp2_with fail
          refine (l6In_any _ _ _ _).mono ?_
          rintro e w1 ⟨rfl, rfl⟩
          rw [HX.out]
          go_wp2_with fail
          go_ret2
          exact retLB_no HN.out HL.out (Below.refl _ _) rfl
        · have hle : s + x ≤ 1000000 := by omega
          clear hov
          go_wp2_with fail
          refine (l6In_any _ _ _ _).mono ?_
          rintro e w1 ⟨rfl, rfl⟩
          rw [HX.out]
          go_wp2_with fail
          go_round
          case rel => exact ⟨k + 1, by omega, by go_num, by rw [HS2.out], HAL2, by rw [HS2.out]; omega, by rw [HS2.out]; exact hle⟩
          case measure => simp [intOf]; omega
    · have hkl : k = tk.length := by omega
      subst hkl
      have HH := Lib.hid (show tk.all amtOk = true by have h := H.out; rwa [List.take_length] at h)
      rw [List.take_length] at *
      obtain ⟨Z, hZ⟩ : ∃ Z, Z = sumI tk := ⟨_, rfl⟩
      rw [← hZ] at hs0 hs1 ⊢
      have HZ := Lib.hid hZ
      have HMK := Lib.hid (show makeOk ps Z = partsB ps by unfold makeOk; rw [inB_true ⟨hs0, hs1⟩, Bool.and_true])
      clear hZ
      go_wp2_with fail
      refine (sShareMake_any _ _ _ _ ps Z _ hl hr hh).mono ?_
      rintro e w1 ⟨A1, c1, rfl, ho1, hb1⟩
      rw [HMK.out]
      cases hok : partsB ps
      · have HN := Lib.hid (show settleOk ps tk = false by unfold settleOk; rw [hok]; rfl)
        have HL := Lib.hid (settle_no HN.out)
        clear hok
        go_wp2_with fail
        go_ret2
        exact retLB_no HN.out HL.out hb1 rfl
      · by_cases h6 : tk.length = 6
        · have HMV := Lib.hid (show makeV ps Z = shareL (cntL (ownersL ps)) Z by unfold makeV; rw [HMK.out, hok]; rfl)
          have HN := Lib.hid (show settleOk ps tk = true by
            unfold settleOk
            rw [hok, h6, ← HZ.out, decide_eq_true hs1]
            have h := HH.out
            have e : tk.all (fun x => inB x 0 1000000) = tk.all amtOk := rfl
            rw [e, h]; rfl)
          have HNV := Lib.hid (show settleV ps tk = minusL (shareL (cntL (ownersL ps)) Z) tk by unfold settleV; rw [HN.out, ← HZ.out]; rfl)
          obtain ⟨_, _, p3, p4, p5⟩ := parts_pos hok
          have hcs := cnt_share p5 p4 p3
          have hshl := share_len (a := Z) hcs.2.2
          rw [hcs.1] at hshl
          have hshb := share_nn (a := Z) hcs.2.2 hs0 (fun x hx => (hcs.2.1 x hx).1)
          rw [HMV.out] at ho1 ⊢
          obtain ⟨L, hL⟩ : ∃ L, L = shareL (cntL (ownersL ps)) Z := ⟨_, rfl⟩
          rw [← hL] at hshl hshb HNV ho1 ⊢
          have HB := Lib.hid (show ∀ x ∈ L, 0 ≤ x ∧ x ≤ 1000000 from fun x hx => by have := hshb x hx; omega)
          have HLL := Lib.hid hshl
          have HT6 := Lib.hid h6
          have HTB := Lib.hid (show ∀ x ∈ tk, 0 ≤ x ∧ x ≤ 1000000 from fun x hx => (settle_and HN.out).2.2.1 x hx)
          have n6 : ((tk.length : Int) != 6) = false := by simp [h6]
          rw [hshl] at ho1 ⊢
          obtain ⟨g, cap, hv, hbg, hgl⟩ := ho1.form (by omega)
          injection hv with hA _ hc
          subst hA hc
          have hrt1 := hrt.below hb1 hht
          clear hok h6 hshl hshb hL p3 p4 p5 hcs H HH
          go_wp2_with fail
          have HRT := Lib.hid (show ∀ wq, Below w.heap.size w wq → Rd wq lo' hi' B (ints tk) from fun wq hq => hrt.below hq hht)
          clear hrt hrt1
          go_loopw [10] (fun i wr => ∃ k : Nat, k ≤ 6 ∧ i = .int .i64 k ∧ mRel w.heap.size 3 g c1 ((minusL L tk).take k ++ L.drop k) wr ∧ Below w.heap.size w wr) (fun i _ => 6 - (intOf i).toNat)
          case atStart => exact ⟨0, by omega, rfl, by simpa [mRel] using ho1, hb1⟩
          case round =>
            obtain ⟨k, hk, rfl, hrow, hb⟩ := hrel
            clear ho1
            by_cases hk6 : k < 6
            · have hkL : k < L.length := by have := HLL.out; omega
              have hkT : k < tk.length := by have := HT6.out; omega
              have hkM : k < (minusL L tk).length := by rw [minus_len]; exact hkL
              obtain ⟨bt, ot, rfl, _, hbt, ct⟩ := (HRT.out wr hb).at1 k hkT
              have hlen : k < ((minusL L tk).take k ++ L.drop k).length := by rw [List.length_append, List.length_take, List.length_drop]; omega
              have d0 := own1_cell hrow k hlen
              rw [minus_at hkL hkM] at d0
              have f0 := hrow.frozenAt k
              have hst := own1_store hrow k ((minusL L tk)[k])
              rw [minus_step hkL hkM] at hst
              rw [minus_get hkL hkT] at hst
              have hx := HB.out L[k] (List.getElem_mem hkL)
              have hy := HTB.out tk[k] (List.getElem_mem hkT)
              have HST := Lib.hid hst
              clear hst hlen hkM
              generalize L[k] = x at *
              generalize tk[k] = y at *
              obtain ⟨hx0, hx1⟩ := hx
              obtain ⟨hy0, hy1⟩ := hy
              have hk0 : (0 : Int) ≤ (k : Int) := by omega
              have hk1 : (k : Int) < 6 := by omega
              have hk2 : (k : Int) < (tk.length : Int) := by omega
              have hbs := hb.size
              have hgw := (own_lt hrow).2
              have wy : IntKind.i64.wrap (x - y) = x - y := IntWalk.i64_in _ (by omega)
              have hne : g ≠ bt := by omega
              have HB2 := Lib.hid (hb.setCell (p := ⟨g, k, none⟩) hbg (.int .i64 (x - y)))
              clear hrow hkL hkT
              go_wp2_with fail
              go_region
              clear wy
              go_wp2_with fail
              go_roundw
              case rel => exact ⟨k + 1, by omega, by go_num, HST.out.drew, HB2.out.drew⟩
              case measure => simp [intOf]; omega
            · obtain rfl : k = 6 := by omega
              have hfin : (minusL L tk).take 6 ++ L.drop 6 = minusL L tk := by
                rw [List.take_of_length_le (by rw [minus_len, HLL.out]; omega), List.drop_eq_nil_of_le (by rw [HLL.out]; omega), List.append_nil]
              rw [hfin] at hrow
              have e6 := Lib.hid (show (settleV ps tk).length = 6 by rw [HNV.out, minus_len, HLL.out])
              clear hfin
              go_wp2_with fail
              go_ret2
              exact ⟨some ⟨g, 0, none⟩, c1, by rw [e6.out, HN.out]; rfl, by rw [e6.out, HNV.out]; exact hrow, hb⟩
        · have HN := Lib.hid (show settleOk ps tk = false by unfold settleOk; rw [hok, decide_eq_false h6]; rfl)
          have HL := Lib.hid (settle_no HN.out)
          have n6 : ((tk.length : Int) != 6) = true := by simp; omega
          clear hok h6
          go_wp2_with fail
          go_ret2
          exact retLB_no HN.out HL.out hb1 rfl

end Go.Proofs.Ytmeaegopenbelaa

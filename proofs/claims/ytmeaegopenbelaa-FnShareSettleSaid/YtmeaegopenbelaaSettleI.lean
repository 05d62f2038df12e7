/-
  The program's ShareSettle.
-/
import Derived.Test.YtmeaegopenbelaaShareI
import Derived.Test.YtmeaegopenbelaaSettleS
namespace Go.Proofs.Ytmeaegopenbelaa
open Go.RowKit

set_option maxHeartbeats 4000000 in
theorem iSettle_any (A : Option Addr) (c lo hi : Nat) (ps : List T2) (B : Option Addr) (d lo' hi' : Nat) (tk : List Int) (w : World) (hl : ps.length ≤ 1048576) (hr : Rd w lo hi A (flat2 ps)) (hh : hi ≤ w.heap.size) (hlt : tk.length ≤ 1048576) (hrt : Rd w lo' hi' B (ints tk)) (hht : hi' ≤ w.heap.size) :
    Calls Try.prog 28 #[.slice A ps.length c, .slice B tk.length d] w (RetLB 3 (settleV ps tk) (settleOk ps tk) w) := by
  cases hok : partsB ps
  · have HV := Lib.hid hok
    have HN := Lib.hid (show settleOk ps tk = false by unfold settleOk; rw [hok]; rfl)
    have HL := Lib.hid (settle_no HN.out)
    clear hok
    go_enter Try.func28, Try.ntmps28
    go_wp2_with fail
    refine (iPartsValid_any _ _ _ _ ps _ hl hr hh).mono ?_
    rintro e w1 ⟨rfl, hb⟩
    rw [HV.out]
    go_wp2_with fail
    go_ret2
    exact retLB_no HN.out HL.out hb rfl
  · by_cases h6 : tk.length = 6
    case neg =>
      have HV := Lib.hid hok
      have HN := Lib.hid (show settleOk ps tk = false by unfold settleOk; rw [hok, decide_eq_false h6]; rfl)
      have HL := Lib.hid (settle_no HN.out)
      have n6 : ((tk.length : Int) != 6) = true := by simp; omega
      clear hok h6
      go_enter Try.func28, Try.ntmps28
      go_wp2_with fail
      refine (iPartsValid_any _ _ _ _ ps _ hl hr hh).mono ?_
      rintro e w1 ⟨rfl, hb⟩
      rw [HV.out]
      go_wp2_with fail
      go_ret2
      exact retLB_no HN.out HL.out hb rfl
    case pos =>
      have HV := Lib.hid hok
      have HT6 := Lib.hid h6
      have n6 : ((tk.length : Int) != 6) = false := by simp [h6]
      have hle6 : tk.length ≤ 6 := by omega
      have hge6 : 6 ≤ tk.length := by omega
      obtain ⟨_, _, p3, p4, p5⟩ := parts_pos hok
      have HCS := Lib.hid (cnt_share p5 p4 p3)
      clear hok h6 p3 p4 p5
      go_enter Try.func28, Try.ntmps28
      go_wp2_with fail
      refine (iPartsValid_any _ _ _ _ ps _ hl hr hh).mono ?_
      rintro e w1 ⟨rfl, hb1⟩
      rw [HV.out]
      have hr1 := hr.below hb1 hh
      have hh1 := Nat.le_trans hh hb1.size
      have hrt1 := hrt.below hb1 hht
      have hht1 := Nat.le_trans hht hb1.size
      clear hr hrt
      go_wp2_with fail
      go_loop [6, 8, 24] (fun s _ i => ∃ k : Nat, k ≤ tk.length ∧ i = .int .i64 k ∧ s = .int .i64 (sumI (tk.take k)) ∧ Hid ((tk.take k).all amtOk = true) ∧ 0 ≤ sumI (tk.take k) ∧ sumI (tk.take k) ≤ 1000000 * k) (fun _ _ i => tk.length - (intOf i).toNat)
      case atStart => exact ⟨0, Nat.zero_le _, rfl, rfl, by simp [Hid], by simp [sumI], by simp [sumI]⟩
      case round =>
        obtain ⟨k, hk, rfl, rfl, H, hs0, hs1⟩ := hrel
        by_cases hltk : k < tk.length
        · obtain ⟨b, off, rfl, _, _, c0⟩ := hrt1.at1 k hltk
          have HBAD := Lib.hid (fun h => settle_bad (ps := ps) hltk h)
          have HST := Lib.hid (sumI_take_succ tk k hltk)
          have HAL := Lib.hid (show (tk.take (k + 1)).all amtOk = amtOk tk[k] by rw [List.take_succ_eq_append_getElem hltk, List.all_append, H.out]; simp)
          generalize tk[k] = x at *
          cases hx : inB x 0 1000000
          · have HN := Lib.hid (HBAD.out hx)
            have HL := Lib.hid (settle_no HN.out)
            have HX := Lib.hid hx
            clear hx
            go_wp2_with fail
            refine (iAmount_any _ _).mono ?_
            rintro e w2 ⟨rfl, rfl⟩
            rw [HX.out]
            go_wp2_with fail
            go_ret2
            exact retLB_no HN.out HL.out hb1 rfl
          · have hxr := of_inB hx
            have HX := Lib.hid hx
            have HAL2 := Lib.hid (show (tk.take (k + 1)).all amtOk = true by rw [HAL.out]; exact hx)
            clear hx
            obtain ⟨hx0, hx1⟩ := hxr
            generalize sumI (tk.take k) = s at *
            have hs2 : s ≤ 6000000 := by omega
            have hs3 : 0 ≤ s + x := by omega
            have hs4 : s + x ≤ 1000000 * ((k + 1 : Nat) : Int) := by omega
            go_wp2_with fail
            refine (iAmount_any _ _).mono ?_
            rintro e w2 ⟨rfl, rfl⟩
            rw [HX.out]
            go_wp2_with fail
            go_round
            case rel => exact ⟨k + 1, by omega, by go_num, by rw [HST.out], HAL2, by rw [HST.out]; exact hs3, by rw [HST.out]; exact hs4⟩
            case measure => simp [intOf]; omega
        · have hkl : k = tk.length := by omega
          subst hkl
          have HH := Lib.hid (show tk.all amtOk = true by have h := H.out; rwa [List.take_length] at h)
          rw [List.take_length] at hs0 hs1 ⊢
          obtain ⟨Z, hZ⟩ : ∃ Z, Z = sumI tk := ⟨_, rfl⟩
          rw [← hZ] at hs0 hs1 ⊢
          have HZ := Lib.hid hZ
          clear hZ
          by_cases hbig : 1000000 < Z
          · have HMK := Lib.hid (show makeOk ps Z = false by unfold makeOk; rw [inB_false (by omega), Bool.and_false])
            have HMV := Lib.hid (show makeV ps Z = [] by unfold makeV; rw [HMK.out]; rfl)
            have HN := Lib.hid (settle_over (ps := ps) (tk := tk) (k := tk.length) (by rw [List.take_length, ← HZ.out]; exact hbig))
            have HL := Lib.hid (settle_no HN.out)
            clear hbig
            go_wp2_with fail
            refine (iShareMake_any _ _ _ _ ps Z _ hl hr1 hh1).mono ?_
            rintro e w2 ⟨A1, c1, rfl, ho1, hb2⟩
            rw [HMK.out]
            have hb12 := hb1.trans (hb2.mono hb1.size)
            go_wp2_with fail
            go_ret2
            exact retLB_no HN.out HL.out hb12 rfl
          · have hsm : Z ≤ 1000000 := by omega
            clear hbig
            have HMK := Lib.hid (show makeOk ps Z = true by unfold makeOk; rw [inB_true ⟨hs0, hsm⟩, HV.out]; rfl)
            have HMV := Lib.hid (show makeV ps Z = shareL (cntL (ownersL ps)) Z by unfold makeV; rw [HMK.out]; rfl)
            have HN := Lib.hid (show settleOk ps tk = true by
              unfold settleOk
              rw [HV.out, HT6.out, ← HZ.out, decide_eq_true hsm]
              have h := HH.out
              have e : tk.all (fun x => inB x 0 1000000) = tk.all amtOk := rfl
              rw [e, h]; rfl)
            have HNV := Lib.hid (show settleV ps tk = minusL (shareL (cntL (ownersL ps)) Z) tk by unfold settleV; rw [HN.out, ← HZ.out]; rfl)
            have hshl := share_len (a := Z) HCS.out.2.2
            rw [HCS.out.1] at hshl
            have hshb := share_nn (a := Z) HCS.out.2.2 hs0 (fun x hx => (HCS.out.2.1 x hx).1)
            go_wp2_with fail
            refine (iShareMake_any _ _ _ _ ps Z _ hl hr1 hh1).mono ?_
            rintro e w2 ⟨A1, c1, rfl, ho1, hb2⟩
            rw [HMK.out]
            rw [HMV.out] at ho1 ⊢
            obtain ⟨L, hL⟩ : ∃ L, L = shareL (cntL (ownersL ps)) Z := ⟨_, rfl⟩
            rw [← hL] at hshl hshb HNV ho1 ⊢
            have HB := Lib.hid (show ∀ x ∈ L, 0 ≤ x ∧ x ≤ 1000000 from fun x hx => by have := hshb x hx; omega)
            have HLL := Lib.hid hshl
            have HTB := Lib.hid (show ∀ x ∈ tk, 0 ≤ x ∧ x ≤ 1000000 from fun x hx => (settle_and HN.out).2.2.1 x hx)
            rw [hshl] at ho1 ⊢
            obtain ⟨g, cap, hv, hbg, hgl⟩ := ho1.form (by omega)
            injection hv with hA _ hc
            subst hA hc
            have hb12 := hb1.trans (hb2.mono hb1.size)
            have HRT := Lib.hid (show ∀ wq, Below w1.heap.size w1 wq → Rd wq lo' hi' B (ints tk) from fun wq hq => hrt1.below hq hht1)
            have hb1s := hb1.size
            clear hshl hshb hL H HH hrt1 hr1
            go_wp2_with fail
            go_loopw [11, 12, 47] (fun _ _ i wr => ∃ k : Nat, k ≤ 6 ∧ i = .int .i64 k ∧ Hid (mRel w1.heap.size 3 g c1 ((minusL L tk).take k ++ L.drop k) wr) ∧ Hid (Below w1.heap.size w1 wr) ∧ Below w.heap.size w wr) (fun _ _ i _ => 6 - (intOf i).toNat)
            case atStart => exact ⟨0, by omega, rfl, Lib.hid (by simpa [mRel] using ho1), Lib.hid hb2, hb12⟩
            case round =>
              obtain ⟨k, hk, rfl, HROW, HB1, hb⟩ := hrel
              clear ho1
              by_cases hk6 : k < 6
              · have hkL : k < L.length := by have := HLL.out; omega
                have hkT : k < tk.length := by omega
                have hkM : k < (minusL L tk).length := by rw [minus_len]; exact hkL
                have hrow := HROW.out
                obtain ⟨bt, ot, rfl, _, hbt, ct⟩ := (HRT.out wr HB1.out).at1 k hkT
                have hlen : k < ((minusL L tk).take k ++ L.drop k).length := by rw [List.length_append, List.length_take, List.length_drop]; omega
                have d0 := own1_cell hrow k hlen
                rw [minus_at hkL hkM] at d0
                have f0 := hrow.frozenAt k
                have hst := own1_store hrow k ((minusL L tk)[k])
                rw [minus_step hkL hkM] at hst
                rw [minus_get hkL hkT] at hst
                have hx := HB.out L[k] (List.getElem_mem hkL)
                have hy := HTB.out tk[k] (List.getElem_mem hkT)
                have HST := Lib.hid hst
                clear hst hlen hkM
                generalize L[k] = x at *
                generalize tk[k] = y at *
                obtain ⟨hx0, hx1⟩ := hx
                obtain ⟨hy0, hy1⟩ := hy
                have hk0 : (0 : Int) ≤ (k : Int) := by omega
                have hk1 : (k : Int) < 6 := by omega
                have hk2 : (k : Int) < (tk.length : Int) := by omega
                have hbs := hb.size
                have hgw := (own_lt hrow).2
                have HB2 := Lib.hid (HB1.out.setCell (p := ⟨g, k, none⟩) hbg (.int .i64 (x - y)))
                have HB3 := Lib.hid (hb.setCell (p := ⟨g, k, none⟩) (show w.heap.size ≤ g by omega) (.int .i64 (x - y)))
                clear hrow hkL hkT HROW HB1
                go_wp2_with fail
                go_roundw
                case rel => exact ⟨k + 1, by omega, by go_num, HST, HB2, HB3.out⟩
                case measure => simp [intOf]; omega
              · obtain rfl : k = 6 := by omega
                have hfin : (minusL L tk).take 6 ++ L.drop 6 = minusL L tk := by
                  rw [List.take_of_length_le (by rw [minus_len, HLL.out]; omega), List.drop_eq_nil_of_le (by rw [HLL.out]; omega), List.append_nil]
                have hrow := HROW.out
                rw [hfin] at hrow
                have e6 := Lib.hid (show (settleV ps tk).length = 6 by rw [HNV.out, minus_len, HLL.out])
                have HRW := Lib.hid hrow
                have hk6' : ¬ ((6 : Nat) : Int) < (tk.length : Int) := by omega
                clear hfin hrow
                go_wp2_with fail
                go_ret2
                exact ⟨some ⟨g, 0, none⟩, c1, by rw [e6.out, HN.out]; rfl, by rw [e6.out, HNV.out]; exact own_mono HRW.out hb1s, hb⟩

end Go.Proofs.Ytmeaegopenbelaa

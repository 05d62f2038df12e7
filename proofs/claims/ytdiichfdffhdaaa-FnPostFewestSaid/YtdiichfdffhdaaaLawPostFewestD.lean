/-
  For every input the law FnPostFewest returns true: few rides are enough.
-/
import Derived.Test.YtdiichfdffhdaaaPostLaws2
import Derived.Test.YtdiichfdffhdaaaNetArgs
import Derived.Test.YtdiichfdffhdaaaFewS
namespace Go.Proofs.Ytdiichfdffhdaaa
open Go.ChangeShapes Go.WideShapes Go.ChangeAt Go.RowKit

set_option maxRecDepth 100000 in
set_option maxHeartbeats 4000000 in
theorem postFewest_any (A0 : Option Addr) (c0 n0 : Nat) (bs0 : Nat → Int) (w : World) (hm0 : n0 ≤ maxLen) (hb0 : Byt w w.heap.size A0 n0 bs0) (hc0 : n0 ≤ c0) :
    Calls Try.prog 13 #[.slice A0 n0 c0] w fun e w' => e = .returned (.bool true) ∧ Below w.heap.size w w' := by
  unfold maxLen at hm0
  by_cases hbig0 : (1048576 : Int) < n0
  · go_enter Try.func13, Try.ntmps13
    go_wp2_with fail
    go_ret
    exact ⟨rfl, Below.refl _ _⟩
  have hn0 : n0 ≤ 1048576 := by omega
  have hni0 : (n0 : Int) ≤ 1048576 := by omega
  clear hm0
  go_enter Try.func13, Try.ntmps13
  go_wp2_with fail
  refine (dFew_any A0 n0 c0 bs0 _ hb0 hn0 hc0).mono ?_
  rintro e w1 ⟨n, A, c, fr, g, t, ch, net, rfl, hn1, hn2, ht, hch, r_N, hb⟩
  obtain ⟨ht0, ht1⟩ := ht
  obtain ⟨hch0, hch1⟩ := hch
  obtain ⟨V, hV⟩ : ∃ V, V = fewV n net fr g t ch := ⟨_, rfl⟩
  have HV := Lib.hid hV
  clear hV
  go_wp2_with fail
  refine (iPostFewest_any n _ _ _ net fr g t ch _ (Nat.le_trans r_N.size (by omega)) r_N.2.2 (Nat.le_refl _)).mono ?_
  rintro e w2 ⟨rfl, hs⟩
  replace r_N := r_N.below hs
  replace hb := hb.trans (hs.mono hb.size)
  clear hs
  rw [← HV.out]
  go_wp2_with fail
  refine (sPostFewest_any n _ _ _ net fr g t ch _ (Nat.le_trans r_N.size (by omega)) r_N.2.2 (Nat.le_refl _)).mono ?_
  rintro e w3 ⟨rfl, hs⟩
  replace r_N := r_N.below hs
  replace hb := hb.trans (hs.mono hb.size)
  clear hs
  rw [← HV.out]
  have hne : (V != V) = false := by simp
  have hee : (V == V) = true := by simp
  by_cases hneg : V < 0
  · have hd0 : decide (V < 0) = true := decide_eq_true hneg
    go_wp2_with fail
    go_ret
    exact ⟨rfl, by (repeat (first | exact Below.refl _ _ | assumption | apply below_alloc | apply below_drewN | apply Below.drew | refine Below.setCell ?_ (by simp; try omega) _))⟩
  have hd0 : decide (V < 0) = false := decide_eq_false hneg
  have hv0 : 0 ≤ V := by omega
  clear hneg
  obtain ⟨l0, l1, l2, l3⟩ := few_law (show 0 ≤ fewV n net fr g t ch by rw [← HV.out]; exact hv0)
  rw [← HV.out] at l0 l1 l2
  obtain ⟨X, hX⟩ : ∃ X, X = postArr n net fr g t ch := ⟨_, rfl⟩
  rw [← hX] at l3
  have HX := Lib.hid hX
  clear hX
  have L0 := Lib.hid l0
  have L2 := Lib.hid l2
  clear l0 l2 hne hee hd0
  have HLR := Lib.hid r_N.2.1
  have hln := r_N.1
  go_wp2_with fail
  go_loopw [11, 12] (fun dv i wr => ∃ (k : Nat) (d : Bool), (k : Int) ≤ (net.length : Int) ∧ i = .int .i64 k ∧ dv = .bool d ∧ Hid ((net.take k).any (dirL n fr g t) = d) ∧ Below w3.heap.size w3 wr) (fun _ i _ => ((net.length : Int) - intOf i).toNat)
  case atStart => exact ⟨0, false, by omega, rfl, rfl, by simp [Hid], Below.refl _ _⟩
  case round =>
    obtain ⟨k, d, hk, rfl, rfl, HD, hb2⟩ := hrel
    have rN := r_N.below hb2
    have hbs := hb2.size
    by_cases hlt : (k : Int) < (net.length : Int)
    · have hkl : k < net.length := by omega
      obtain ⟨b, off, B, cc, rfl, _, hbw, c0, hcc, hrk⟩ := rN.2.2 k hkl
      have hlk : net[k].length ≤ 100 := HLR.out k hkl
      have HS := Lib.hid (show (net.take (k + 1)).any (dirL n fr g t) = (d || dirL n fr g t net[k]) by rw [any_take_succ hkl, HD.out])
      generalize net[k] = l at *
      have HRK := Lib.hid hrk
      clear hrk
      go_wp2_with fail
      refine (iStopsAt n _ _ _ _ l fr _ (by omega) HRK.out (Nat.le_refl _)).mono ?_
      rintro e w1' ⟨rfl, hb3⟩
      have HB3 := Lib.hid (hb2.trans (hb3.mono hbs))
      have c1 := (hb3.cell (p := ⟨b, off + k, none⟩) hbw).trans c0
      have hz3 := hb3.size
      have HRK1 := Lib.hid ((HRK.out.below hb3 (Nat.le_refl _)).more (Nat.le_refl _) hb3.size)
      clear hb3 c0
      go_wp2_with fail
      refine (iStopsAt n _ _ _ _ l g _ (by omega) HRK1.out (Nat.le_refl _)).mono ?_
      rintro e w2' ⟨rfl, hb4⟩
      have HB4 := Lib.hid (HB3.out.trans (hb4.mono HB3.out.size))
      have HRK2 := Lib.hid ((HRK1.out.below hb4 (Nat.le_refl _)))
      have c2 := (hb4.cell (p := ⟨b, off + k, none⟩) (show b < _ by omega)).trans c1
      clear hb4 c1
      have HFI := Lib.hid (fun h => stopsAt_nn (n := n) (l := l) (t := fr) h)
      have HDL := Lib.hid (show dirL n fr g t l = decide (0 ≤ stopsAt n l fr ∧ stopsAt n l fr < stopsAt n l g ∧ t ≤ (l.getD (stopsAt n l fr).toNat (0, 0, 0)).2.2) from rfl)
      generalize stopsAt n l g = m at *
      generalize stopsAt n l fr = i at *
      generalize dirL n fr g t l = dl at *
      cases d
      · by_cases hi : 0 ≤ i
        · obtain ⟨_, j, hj, hij, _⟩ := HFI.out hi
          subst hij
          clear hi
          by_cases hm : (j : Int) < m
          · obtain ⟨bl, ol, hB, _, _, _, _, c4⟩ := HRK2.out.at3 j hj
            subst hB
            rw [Int.toNat_natCast, List.getD_eq_getElem?_getD, List.getElem?_eq_getElem hj] at HDL
            have hji : (j : Int) < (l.length : Int) := by omega
            have hj0 : (0 : Int) ≤ (j : Int) := by omega
            simp only [Option.getD_some] at HDL
            generalize l[j] = s at *
            by_cases hs : t ≤ s.2.2
            · have HN := Lib.hid (show ((net.take (k + 1)).any (dirL n fr g t)) = true by rw [HS.out, HDL.out, decide_eq_true ⟨hj0, hm, hs⟩]; rfl)
              have hs2 : decide (t ≤ s.2.2) = true := decide_eq_true hs
              go_wp2_with fail
              go_roundw
              case rel => exact ⟨k + 1, true, by omega, by go_num, rfl, HN, by have := HB4.out; (repeat (first | exact Below.refl _ _ | assumption | apply below_alloc | apply below_drewN | apply Below.drew | refine Below.setCell ?_ (by simp; try omega) _))⟩
              case measure => simp [intOf]; omega
            · have HN := Lib.hid (show ((net.take (k + 1)).any (dirL n fr g t)) = false by rw [HS.out, HDL.out, decide_eq_false (fun h => hs h.2.2)]; rfl)
              have hs2 : decide (t ≤ s.2.2) = false := decide_eq_false hs
              clear hs
              go_wp2_with fail
              go_roundw
              case rel => exact ⟨k + 1, false, by omega, by go_num, rfl, HN, by have := HB4.out; (repeat (first | exact Below.refl _ _ | assumption | apply below_alloc | apply below_drewN | apply Below.drew | refine Below.setCell ?_ (by simp; try omega) _))⟩
              case measure => simp [intOf]; omega
          · have HN := Lib.hid (show ((net.take (k + 1)).any (dirL n fr g t)) = false by rw [HS.out, HDL.out, decide_eq_false (fun h => hm h.2.1)]; rfl)
            have hm2 : m ≤ (j : Int) := by omega
            have hj0 : (0 : Int) ≤ (j : Int) := by omega
            clear hm
            go_wp2_with fail
            go_roundw
            case rel => exact ⟨k + 1, false, by omega, by go_num, rfl, HN, by have := HB4.out; (repeat (first | exact Below.refl _ _ | assumption | apply below_alloc | apply below_drewN | apply Below.drew | refine Below.setCell ?_ (by simp; try omega) _))⟩
            case measure => simp [intOf]; omega
        · have HN := Lib.hid (show ((net.take (k + 1)).any (dirL n fr g t)) = false by rw [HS.out, HDL.out, decide_eq_false (fun h => hi h.1)]; rfl)
          have hi2 : i < 0 := by omega
          clear hi
          go_wp2_with fail
          go_roundw
          case rel => exact ⟨k + 1, false, by omega, by go_num, rfl, HN, by have := HB4.out; (repeat (first | exact Below.refl _ _ | assumption | apply below_alloc | apply below_drewN | apply Below.drew | refine Below.setCell ?_ (by simp; try omega) _))⟩
          case measure => simp [intOf]; omega
      · have HN := Lib.hid (show ((net.take (k + 1)).any (dirL n fr g t)) = true by rw [HS.out]; rfl)
        go_wp2_with fail
        go_roundw
        case rel => exact ⟨k + 1, true, by omega, by go_num, rfl, HN, by have := HB4.out; (repeat (first | exact Below.refl _ _ | assumption | apply below_alloc | apply below_drewN | apply Below.drew | refine Below.setCell ?_ (by simp; try omega) _))⟩
        case measure => simp [intOf]; omega
    · have HDD := Lib.hid (show net.any (dirL n fr g t) = d by have h := HD.out; rwa [List.take_of_length_le (by omega)] at h)
      have HBB := Lib.hid (hb.trans (hb2.mono hb.size))
      by_cases hfg : fr = g
      · have q1 : (fr == g) = true := by simp [hfg]
        have q2 : (fr != g) = false := by simp [hfg]
        obtain rfl : V = 0 := L0.out.2 hfg
        clear hfg
        cases d
        · go_wp2_with fail
          refine (iPostArrive_any n _ _ _ net fr g t ch _ (Nat.le_trans rN.size (by omega)) rN.2.2 (Nat.le_refl _)).mono ?_
          rintro e w9 ⟨rfl, hs⟩
          rw [← HX.out]
          have hbb := HBB.out.trans (hs.mono HBB.out.size)
          clear hs
          go_wp2_with fail
          go_ret
          exact ⟨rfl, hbb⟩
        · go_wp2_with fail
          refine (iPostArrive_any n _ _ _ net fr g t ch _ (Nat.le_trans rN.size (by omega)) rN.2.2 (Nat.le_refl _)).mono ?_
          rintro e w9 ⟨rfl, hs⟩
          rw [← HX.out]
          have hbb := HBB.out.trans (hs.mono HBB.out.size)
          clear hs
          go_wp2_with fail
          go_ret
          exact ⟨rfl, hbb⟩
      · have q1 : (fr == g) = false := by simp [hfg]
        have q2 : (fr != g) = true := by simp [hfg]
        have q3 : (V == 0) = false := by rw [beq_eq_false_iff_ne]; exact fun h => hfg (L0.out.1 h)
        have hl2 := L2.out
        rw [HDD.out] at hl2
        cases d
        · have q4 : (V == 1) = false := by rw [beq_eq_false_iff_ne]; exact fun h => by simpa using (hl2.1 h).1
          clear hfg hl2
          go_wp2_with fail
          refine (iPostArrive_any n _ _ _ net fr g t ch _ (Nat.le_trans rN.size (by omega)) rN.2.2 (Nat.le_refl _)).mono ?_
          rintro e w9 ⟨rfl, hs⟩
          rw [← HX.out]
          have hbb := HBB.out.trans (hs.mono HBB.out.size)
          clear hs
          go_wp2_with fail
          go_ret
          exact ⟨rfl, hbb⟩
        · have q4 : (V == 1) = true := by rw [beq_iff_eq]; exact hl2.2 ⟨rfl, hfg⟩
          clear hfg hl2
          go_wp2_with fail
          refine (iPostArrive_any n _ _ _ net fr g t ch _ (Nat.le_trans rN.size (by omega)) rN.2.2 (Nat.le_refl _)).mono ?_
          rintro e w9 ⟨rfl, hs⟩
          rw [← HX.out]
          have hbb := HBB.out.trans (hs.mono HBB.out.size)
          clear hs
          go_wp2_with fail
          go_ret
          exact ⟨rfl, hbb⟩

set_option maxRecDepth 100000 in
theorem postFewest_lifted (os : Os) (started : os.Started) (H : Type) (enc : TypeId × Value → H) :
    ReturnsInHanded {} Try.checked os 13 .any (Rows.fnPostFewestSpec.pre6 enc Try.prog Try.f13 Rows.fnPostFewestRow.domain false) (Rows.fnPostFewestSpec.post enc Try.prog Try.f13 false true false false) := by
  refine returnsInHanded_of_change (C := Try.checked) prog_own started (by kernel_rfl) Try.func13
    (ChangeSpec.witness6 (enc := enc) (C := Try.checked) false ⟨#[], #[.slice none 0 0], []⟩ 8 (by kernel_rfl) (by kernel_rfl) (by kernel_rfl) (by kernel_rfl)) ?_
  intro W base args ds gs before hval0 hW hcnd _
  have hval : ∀ (j : Nat) t v, Try.f13.params[j]? = some t → args[j]? = some v → Value.okWide Try.prog W .any base t v := hval0
  have hW' := hW
  obtain ⟨p, q, hA0, hV, rfl, hfz, hnd⟩ := hW
  have hA : DataW.TrodAll enc Try.prog W 0 (fun _ => true) true Try.f13.params.toList args.toList ds p := hA0
  rw [Try.params13] at hA hval
  obtain ⟨v0, vs0, d0, ds0, p0, q0, hargs, rfl, rfl, h0, r0⟩ := trodAll_cons hA
  obtain ⟨rfl, rfl, rfl⟩ := trodAll_nil r0
  obtain rfl : args = #[v0] := by cases args; simp_all
  obtain ⟨rfl, rfl⟩ := trodVars_none hV
  obtain ⟨a0, len0, cap0, rfl⟩ := okWide_slice Try.underlying22 (hval 0 22 v0 rfl rfl)
  have k0 := h0
  have lt0 : ∀ x ∈ p0, x.block < W.heap.size := by obtain ⟨m, hm⟩ := k0; exact DataW.trod_lt m _ _ _ hm
  obtain ⟨fuel0, hf0⟩ := h0
  obtain ⟨bs0, hm0, hb0, hc0⟩ := open_b1 Try.underlying22 Try.underlying5 (by kernel_rfl) hf0
  clear hA0 hval0
  refine (postFewest_any a0 cap0 len0 bs0 W hm0 hb0 hc0).mono fun e W' ⟨he, bel⟩ => ?_
  subst he
  exact ⟨_, rfl, _, _, _, [], _, [], hW', trodAll_mk1 (shut_bool Try.underlying4 _), (trodAll_cons_mk (Below.trod prog_laidOut (by kernel_rfl) (of_decide_eq_true (by kernel_rfl)) k0 bel lt0) trodAll_mk0), rfl, bel.frame _, fun h => by cases h⟩

theorem postFewest_holds : Rows.FnPostFewestSaid :=
  OpenClaim.holds_of_wide 13 Try.f13 rfl rfl rfl rfl rfl rfl rfl ⟨rfl, rfl, rfl, rfl, rfl⟩ rfl rfl rfl rfl rfl (by kernel_rfl) Try.func13 (by kernel_rfl)
    (of_decide_eq_true (by kernel_rfl)) (by unfold Func.isWrapper; first | (rw [if_pos (by decide +kernel)]; kernel_rfl) | (rw [if_neg (by decide +kernel)]; exact ⟨rfl, rfl⟩))
    (fun os started H enc _ => postFewest_lifted os started H enc)

end Go.Proofs.Ytdiichfdffhdaaa

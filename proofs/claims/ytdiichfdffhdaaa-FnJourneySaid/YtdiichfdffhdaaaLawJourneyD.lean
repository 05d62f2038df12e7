/-
  For every input the law FnJourney returns true: parts of a journey are journeys.
-/
import Derived.Test.YtdiichfdffhdaaaWayLaws
import Derived.Test.YtdiichfdffhdaaaJourneyArgs
import Derived.Test.YtdiichfdffhdaaaJourney
import Derived.Test.YtdiichfdffhdaaaJourneyS
import Derived.Test.YtdiichfdffhdaaaMore
import Derived.Test.YtdiichfdffhdaaaClass
namespace Go.Proofs.Ytdiichfdffhdaaa
open Go.ChangeShapes Go.WideShapes Go.ChangeAt Go.RowKit

theorem flat3_dropJ (l : List T3) (k : Nat) : flat3 (l.drop k) = (flat3 l).drop (k * 3) := by
  induction l generalizing k with
  | nil => simp [flat3]
  | cons g r ih =>
    cases k with
    | zero => simp
    | succ k =>
      have e : (k + 1) * 3 = k * 3 + 3 := by omega
      simp only [List.drop_succ_cons, ih, e, flat3]
theorem iJV_len (n : Int) (A : Option Addr) (c lo hi : Nat) (net : Net) (B : Option Addr) (d lo' hi' : Nat) (rides : List T3) (m : Nat) (hm : rides.length = m) (change : Int) (w : World) (hl : netSize net ≤ 1048576) (hr : RdN w lo hi A net) (hh : hi ≤ w.heap.size) (hlr : rides.length ≤ 1048576) (hrr : Rd w lo' hi' B (flat3 rides)) (hh' : hi' ≤ w.heap.size) :
    Calls Try.prog 22 #[.int .i64 n, .slice A net.length c, .slice B m d, .int .i64 change] w fun e w' => e = .returned (.bool (journeyB n net rides change)) ∧ Below w.heap.size w w' := by
  subst hm; exact iJourneyValid n A c lo hi net B d lo' hi' rides change w hl hr hh hlr hrr hh'
theorem iJV_net (n : Int) (A : Option Addr) (c lo hi : Nat) (net : Net) (k : Nat) (hk : net.length = k) (B : Option Addr) (d lo' hi' : Nat) (rides : List T3) (change : Int) (w : World) (hl : netSize net ≤ 1048576) (hr : RdN w lo hi A net) (hh : hi ≤ w.heap.size) (hlr : rides.length ≤ 1048576) (hrr : Rd w lo' hi' B (flat3 rides)) (hh' : hi' ≤ w.heap.size) :
    Calls Try.prog 22 #[.int .i64 n, .slice A k c, .slice B rides.length d, .int .i64 change] w fun e w' => e = .returned (.bool (journeyB n net rides change)) ∧ Below w.heap.size w w' := by
  subst hk; exact iJourneyValid n A c lo hi net B d lo' hi' rides change w hl hr hh hlr hrr hh'

set_option maxRecDepth 100000 in
set_option maxHeartbeats 8000000 in
theorem journey_any (A0 : Option Addr) (c0 n0 : Nat) (bs0 : Nat → Int) (A1 : Option Addr) (c1 n1 : Nat) (bs1 : Nat → Int) (w : World) (hm0 : n0 ≤ maxLen) (hb0 : Byt w w.heap.size A0 n0 bs0) (hc0 : n0 ≤ c0) (hm1 : n1 ≤ maxLen) (hb1 : Byt w w.heap.size A1 n1 bs1) (hc1 : n1 ≤ c1) :
    Calls Try.prog 5 #[.slice A0 n0 c0, .slice A1 n1 c1] w fun e w' => e = .returned (.bool true) ∧ Below w.heap.size w w' := by
  unfold maxLen at hm0 hm1
  by_cases hbig0 : (1048576 : Int) < n0
  · go_enter Try.func5, Try.ntmps5
    go_wp2_with fail
    go_ret
    exact ⟨rfl, Below.refl _ _⟩
  by_cases hbig1 : (1048576 : Int) < n1
  · go_enter Try.func5, Try.ntmps5
    go_wp2_with fail
    go_ret
    exact ⟨rfl, Below.refl _ _⟩
  have hn0 : n0 ≤ 1048576 := by omega
  have hni0 : (n0 : Int) ≤ 1048576 := by omega
  have hn1 : n1 ≤ 1048576 := by omega
  have hni1 : (n1 : Int) ≤ 1048576 := by omega
  clear hm0 hm1
  go_enter Try.func5, Try.ntmps5
  obtain ⟨i1, hi1, hy0, hy1, hy2⟩ := info_parts infoHdrD
  go_wp2_with fail
  refine (dJV_any A0 n0 c0 bs0 _ hb0 hn0 hc0).mono ?_
  rintro e w1 ⟨n, A, c, B, d, l, ch, net, rfl, hN1, hN2, hch, hll, hld, r_l, r_N, hb⟩
  obtain ⟨hch0, hch1⟩ := hch
  obtain ⟨K, hK⟩ : ∃ K, K = journeyB n net l ch := ⟨_, rfl⟩
  have HK := Lib.hid hK
  clear hK
  go_wp2_with fail
  refine (iJourneyValid n _ _ _ _ net _ _ _ _ l ch _ (Nat.le_trans r_N.size (by omega)) r_N.2.2 (Nat.le_refl _) hll r_l (Nat.le_refl _)).mono ?_
  rintro e w2 ⟨rfl, hs⟩
  replace r_l := (r_l.below hs (Nat.le_refl _)).more (Nat.le_refl _) hs.size
  replace r_N := r_N.below hs
  replace hb := hb.trans (hs.mono hb.size)
  clear hs
  rw [← HK.out]
  go_wp2_with fail
  refine (sJourneyValid n _ _ _ _ net _ _ _ _ l ch _ (Nat.le_trans r_N.size (by omega)) r_N.2.2 (Nat.le_refl _) hll r_l (Nat.le_refl _)).mono ?_
  rintro e w3 ⟨rfl, hs⟩
  replace r_l := (r_l.below hs (Nat.le_refl _)).more (Nat.le_refl _) hs.size
  replace r_N := r_N.below hs
  replace hb := hb.trans (hs.mono hb.size)
  clear hs
  rw [← HK.out]
  cases K
  · skip
    go_wp2_with fail
    go_ret
    exact ⟨rfl, by (repeat (first | exact Below.refl _ _ | assumption | apply below_alloc | apply below_drewN | apply Below.drew | refine Below.setCell ?_ (by simp; try omega) _))⟩
  have hK : journeyB n net l ch = true := HK.out.symm
  obtain ⟨z, hz⟩ : ∃ z : Nat, z = n1 % (l.length + 1) := ⟨_, rfl⟩
  have hz1 : z < l.length + 1 := by rw [hz]; exact Nat.mod_lt _ (by omega)
  have hz2 : z ≤ l.length := by omega
  have mz : Int.tmod (n1 : Int) ((l.length : Int) + 1) = (z : Int) := by rw [hz]; exact tmod_nat n1 (l.length + 1)
  have m2z : (n1 : Int) % ((l.length : Int) + 1) = (z : Int) := by rw [hz]; exact (Int.natCast_emod n1 (l.length + 1)).symm
  have wl : IntKind.i64.wrap ((l.length : Int) + 1) = (l.length : Int) + 1 := IntWalk.i64_in _ (by omega)
  have wz : IntKind.i64.wrap (z : Int) = (z : Int) := IntWalk.i64_in _ (by omega)
  have hlz : ((l.length : Int) + 1 == 0) = false := by rw [beq_eq_false_iff_ne]; omega
  clear hz hz1
  have wn : IntKind.i64.wrap (n - 1) = n - 1 := IntWalk.i64_in _ (by omega)
  obtain ⟨q1, q2, q3, q4⟩ := journey_parts hK z
  have hln := r_N.1
  obtain ⟨hs, hH, hR, hO⟩ := hdr_of r_N.2.2
  have hHl : hs.length = net.length := hH.1
  have Q1 := Lib.hid q1
  have Q2 := Lib.hid q2
  have Q3 := Lib.hid q3
  have Q4 := Lib.hid q4
  have HH := Lib.hid hH
  have HO := Lib.hid hO
  have HHL := Lib.hid hHl
  have hb0' : Below w3.heap.size w3 (w3.alloc (.cells #[] 31)) := below_alloc (Below.refl _ _) _
  have hown0 : (w3.alloc (.cells #[] 31)).ownsRow w3.heap.size 31 1 (.slice (some ⟨w3.heap.size, 0, none⟩) 0 0) 0 ([] : List Value) := own_lit0 w3 _ _ 1 (Nat.le_refl _)
  have hR0 := hR.below hb0' (Nat.le_refl _)
  have hHo1 := HO.out
  have hHo2 : hs.length = net.length := HHL.out
  have tok1 := True.intro
  clear q1 q2 q3 q4 hK hH hR hO hHl HK
  go_wp2_with (first | (at_builtin; have _t := tok1; go_must (refine wpList_appendH rfl _ _ 23 rfl w3.heap.size 31 i1 _ Try.underlying23 hi1 hy0 hy1 hy2 rfl (.slice (some ⟨w3.heap.size, 0, none⟩) 0 0) 0 [] rfl hown0 A net.length c _ _ hs hR0 hHo2 hHo1 rfl (by omega) (by simp) ?_); intro P2 d2 wA hownA hgA; have hbA : Below w3.heap.size w3 wA := below_grown hb0' (by simp) hown0 (Nat.le_refl _) hgA; have hbAs := hbA.size; simp only [Nat.zero_add, List.nil_append] at hownA ⊢; clear tok1 _t hgA hown0 hR0) | (at_builtin; go_must (refine wpList_appendH rfl _ _ 23 rfl w3.heap.size 31 i1 _ Try.underlying23 hi1 hy0 hy1 hy2 rfl (.slice P2 net.length d2) net.length hs rfl ((hownA.alloc _).alloc _) (some ⟨wA.heap.size + 1, 0, none⟩) 1 1 _ _ [.slice (some ⟨wA.heap.size, 0, none⟩) 2 2] (Rd_lit2 wA _ _ _) rfl (by simp [Value.oneCell']) rfl (by omega) (by simp; omega) ?_); intro P3 d3 wB hownB hgB; obtain ⟨hbB, hMR⟩ := more_rd (x := (0, 0, 1)) (y := (n - 1, 5, 5)) HH.out hbA hownA hgB hownB; have HMR := Lib.hid hMR; clear hMR hgB hownA hownB hbA))
  replace r_N := r_N.below hbB
  replace r_l := (r_l.below hbB (Nat.le_refl _)).more (Nat.le_refl _) hbB.size
  replace hb := hb.trans (hbB.mono hb.size)
  clear hbB hb0' hHo1 hHo2 wl wz mz m2z hlz wn
  have r_M := HMR.out
  clear HMR
  have HLT := Lib.hid (show (l.take z).length = z by rw [List.length_take]; omega)
  have HSM := Lib.hid (show netSize (net ++ [moreL n]) ≤ 1048576 by
    rw [netSize_snoc]; have := r_N.size; simp [moreL]; omega)
  have HLM := Lib.hid (show (net ++ [moreL n]).length = net.length + 1 by simp)
  have hzi : (z : Int) ≤ (l.length : Int) := by omega
  have hzd : (z : Int) ≤ (d : Int) := by omega
  have hzd2 : z ≤ d := by omega
  have hz0 : (0 : Int) ≤ (z : Int) := by omega
  have RT := r_l.take (z * 3)
  rw [flat3_take] at RT
  have HRT := Lib.hid RT
  clear RT
  refine (iJV_len n _ _ _ _ net B d _ _ (l.take z) z HLT.out ch _ (Nat.le_trans r_N.size (by omega)) r_N.2.2 (Nat.le_refl _) (by have := HLT.out; omega) HRT.out (Nat.le_refl _)).mono ?_
  rintro e w5 ⟨rfl, hs⟩
  replace r_l := (r_l.below hs (Nat.le_refl _)).more (Nat.le_refl _) hs.size
  replace r_N := r_N.below hs
  replace r_M := (r_M.below hs (Nat.le_refl _)).more (Nat.le_refl _) hs.size
  replace hb := hb.trans (hs.mono hb.size)
  clear hs
  rw [Q1.out]
  clear HRT
  have RC := r_l.cut (k := z) (size := 3) (n := l.length) (cap := d) (by rw [flat3_length]) hz2 hld
  rw [← flat3_dropJ] at RC
  have HDL := Lib.hid (show (l.drop z).length = l.length - z from List.length_drop)
  by_cases hd : d = z
  · rw [if_pos hd] at RC
    have hce : (d = z) = True := by simp [hd]
    have HRC := Lib.hid RC
    clear hd RC
    go_wp2_with fail
    refine (iJV_len n _ _ _ _ net _ _ _ _ (l.drop z) _ HDL.out ch _ (Nat.le_trans r_N.size (by omega)) r_N.2.2 (Nat.le_refl _) (by have := HDL.out; omega) HRC.out (Nat.le_refl _)).mono ?_
    rintro e w6 ⟨rfl, hs⟩
    replace r_l := (r_l.below hs (Nat.le_refl _)).more (Nat.le_refl _) hs.size
    replace r_N := r_N.below hs
    replace r_M := (r_M.below hs (Nat.le_refl _)).more (Nat.le_refl _) hs.size
    replace hb := hb.trans (hs.mono hb.size)
    clear hs HRC hce
    rw [Q2.out]
    by_cases hc : ch = 0
    · have c0 : (ch == 0) = true := by simp [hc]
      clear hc
      by_cases h6 : net.length = 6
      · have c6 : ((net.length : Int) == 6) = true := by simp [h6]
        clear h6
        go_wp2_with fail
        go_ret
        exact ⟨rfl, by (repeat (first | exact Below.refl _ _ | assumption | apply below_alloc | apply below_drewN | apply Below.drew | refine Below.setCell ?_ (by simp; try omega) _))⟩
      · have c6 : ((net.length : Int) == 6) = false := by rw [beq_eq_false_iff_ne]; omega
        have c1 : (n == 1) = false := by rw [beq_eq_false_iff_ne]; omega
        have Q4c := Lib.hid (Q4.out h6 (by omega))
        clear h6
        go_wp2_with fail
        refine (iJV_net n P3 d3 _ _ (net ++ [moreL n]) (net.length + 1) HLM.out _ _ _ _ l ch _ HSM.out r_M (Nat.le_refl _) hll r_l (Nat.le_refl _)).mono ?_
        rintro e w7 ⟨rfl, hs⟩
        replace r_l := (r_l.below hs (Nat.le_refl _)).more (Nat.le_refl _) hs.size
        replace r_N := r_N.below hs
        replace r_M := (r_M.below hs (Nat.le_refl _)).more (Nat.le_refl _) hs.size
        replace hb := hb.trans (hs.mono hb.size)
        clear hs
        rw [Q4c.out]
        go_wp2_with fail
        go_ret
        exact ⟨rfl, by (repeat (first | exact Below.refl _ _ | assumption | apply below_alloc | apply below_drewN | apply Below.drew | refine Below.setCell ?_ (by simp; try omega) _))⟩
    · have c0 : (ch == 0) = false := by simp [hc]
      have wc : IntKind.i64.wrap (ch - 1) = ch - 1 := IntWalk.i64_in _ (by omega)
      have Q3c := Lib.hid (Q3.out hc)
      clear hc
      go_wp2_with fail
      refine (iJourneyValid n _ _ _ _ net _ _ _ _ l (ch - 1) _ (Nat.le_trans r_N.size (by omega)) r_N.2.2 (Nat.le_refl _) hll r_l (Nat.le_refl _)).mono ?_
      rintro e w7 ⟨rfl, hs⟩
      replace r_l := (r_l.below hs (Nat.le_refl _)).more (Nat.le_refl _) hs.size
      replace r_N := r_N.below hs
      replace r_M := (r_M.below hs (Nat.le_refl _)).more (Nat.le_refl _) hs.size
      replace hb := hb.trans (hs.mono hb.size)
      clear hs
      rw [Q3c.out]
      by_cases h6 : net.length = 6
      · have c6 : ((net.length : Int) == 6) = true := by simp [h6]
        clear h6
        go_wp2_with fail
        go_ret
        exact ⟨rfl, by (repeat (first | exact Below.refl _ _ | assumption | apply below_alloc | apply below_drewN | apply Below.drew | refine Below.setCell ?_ (by simp; try omega) _))⟩
      · have c6 : ((net.length : Int) == 6) = false := by rw [beq_eq_false_iff_ne]; omega
        have c1 : (n == 1) = false := by rw [beq_eq_false_iff_ne]; omega
        have Q4c := Lib.hid (Q4.out h6 (by omega))
        clear h6
        go_wp2_with fail
        refine (iJV_net n P3 d3 _ _ (net ++ [moreL n]) (net.length + 1) HLM.out _ _ _ _ l ch _ HSM.out r_M (Nat.le_refl _) hll r_l (Nat.le_refl _)).mono ?_
        rintro e w8 ⟨rfl, hs⟩
        replace r_l := (r_l.below hs (Nat.le_refl _)).more (Nat.le_refl _) hs.size
        replace r_N := r_N.below hs
        replace r_M := (r_M.below hs (Nat.le_refl _)).more (Nat.le_refl _) hs.size
        replace hb := hb.trans (hs.mono hb.size)
        clear hs
        rw [Q4c.out]
        go_wp2_with fail
        go_ret
        exact ⟨rfl, by (repeat (first | exact Below.refl _ _ | assumption | apply below_alloc | apply below_drewN | apply Below.drew | refine Below.setCell ?_ (by simp; try omega) _))⟩
  · rw [if_neg hd] at RC
    have hce : (d = z) = False := by simp [hd]
    have HRC := Lib.hid RC
    clear hd RC
    go_wp2_with fail
    refine (iJV_len n _ _ _ _ net _ _ _ _ (l.drop z) _ HDL.out ch _ (Nat.le_trans r_N.size (by omega)) r_N.2.2 (Nat.le_refl _) (by have := HDL.out; omega) HRC.out (Nat.le_refl _)).mono ?_
    rintro e w6 ⟨rfl, hs⟩
    replace r_l := (r_l.below hs (Nat.le_refl _)).more (Nat.le_refl _) hs.size
    replace r_N := r_N.below hs
    replace r_M := (r_M.below hs (Nat.le_refl _)).more (Nat.le_refl _) hs.size
    replace hb := hb.trans (hs.mono hb.size)
    clear hs HRC hce
    rw [Q2.out]
    by_cases hc : ch = 0
    · have c0 : (ch == 0) = true := by simp [hc]
      clear hc
      by_cases h6 : net.length = 6
      · have c6 : ((net.length : Int) == 6) = true := by simp [h6]
        clear h6
        go_wp2_with fail
        go_ret
        exact ⟨rfl, by (repeat (first | exact Below.refl _ _ | assumption | apply below_alloc | apply below_drewN | apply Below.drew | refine Below.setCell ?_ (by simp; try omega) _))⟩
      · have c6 : ((net.length : Int) == 6) = false := by rw [beq_eq_false_iff_ne]; omega
        have c1 : (n == 1) = false := by rw [beq_eq_false_iff_ne]; omega
        have Q4c := Lib.hid (Q4.out h6 (by omega))
        clear h6
        go_wp2_with fail
        refine (iJV_net n P3 d3 _ _ (net ++ [moreL n]) (net.length + 1) HLM.out _ _ _ _ l ch _ HSM.out r_M (Nat.le_refl _) hll r_l (Nat.le_refl _)).mono ?_
        rintro e w7 ⟨rfl, hs⟩
        replace r_l := (r_l.below hs (Nat.le_refl _)).more (Nat.le_refl _) hs.size
        replace r_N := r_N.below hs
        replace r_M := (r_M.below hs (Nat.le_refl _)).more (Nat.le_refl _) hs.size
        replace hb := hb.trans (hs.mono hb.size)
        clear hs
        rw [Q4c.out]
        go_wp2_with fail
        go_ret
        exact ⟨rfl, by (repeat (first | exact Below.refl _ _ | assumption | apply below_alloc | apply below_drewN | apply Below.drew | refine Below.setCell ?_ (by simp; try omega) _))⟩
    · have c0 : (ch == 0) = false := by simp [hc]
      have wc : IntKind.i64.wrap (ch - 1) = ch - 1 := IntWalk.i64_in _ (by omega)
      have Q3c := Lib.hid (Q3.out hc)
      clear hc
      go_wp2_with fail
      refine (iJourneyValid n _ _ _ _ net _ _ _ _ l (ch - 1) _ (Nat.le_trans r_N.size (by omega)) r_N.2.2 (Nat.le_refl _) hll r_l (Nat.le_refl _)).mono ?_
      rintro e w7 ⟨rfl, hs⟩
      replace r_l := (r_l.below hs (Nat.le_refl _)).more (Nat.le_refl _) hs.size
      replace r_N := r_N.below hs
      replace r_M := (r_M.below hs (Nat.le_refl _)).more (Nat.le_refl _) hs.size
      replace hb := hb.trans (hs.mono hb.size)
      clear hs
      rw [Q3c.out]
      by_cases h6 : net.length = 6
      · have c6 : ((net.length : Int) == 6) = true := by simp [h6]
        clear h6
        go_wp2_with fail
        go_ret
        exact ⟨rfl, by (repeat (first | exact Below.refl _ _ | assumption | apply below_alloc | apply below_drewN | apply Below.drew | refine Below.setCell ?_ (by simp; try omega) _))⟩
      · have c6 : ((net.length : Int) == 6) = false := by rw [beq_eq_false_iff_ne]; omega
        have c1 : (n == 1) = false := by rw [beq_eq_false_iff_ne]; omega
        have Q4c := Lib.hid (Q4.out h6 (by omega))
        clear h6
        go_wp2_with fail
        refine (iJV_net n P3 d3 _ _ (net ++ [moreL n]) (net.length + 1) HLM.out _ _ _ _ l ch _ HSM.out r_M (Nat.le_refl _) hll r_l (Nat.le_refl _)).mono ?_
        rintro e w8 ⟨rfl, hs⟩
        replace r_l := (r_l.below hs (Nat.le_refl _)).more (Nat.le_refl _) hs.size
        replace r_N := r_N.below hs
        replace r_M := (r_M.below hs (Nat.le_refl _)).more (Nat.le_refl _) hs.size
        replace hb := hb.trans (hs.mono hb.size)
        clear hs
        rw [Q4c.out]
        go_wp2_with fail
        go_ret
        exact ⟨rfl, by (repeat (first | exact Below.refl _ _ | assumption | apply below_alloc | apply below_drewN | apply Below.drew | refine Below.setCell ?_ (by simp; try omega) _))⟩

set_option maxRecDepth 100000 in
theorem journey_lifted (os : Os) (started : os.Started) (H : Type) (enc : TypeId × Value → H) :
    ReturnsInHanded {} Try.checked os 5 .any (Rows.fnJourneySpec.pre6 enc Try.prog Try.f5 Rows.fnJourneyRow.domain false) (Rows.fnJourneySpec.post enc Try.prog Try.f5 false true false false) := by
  refine returnsInHanded_of_change (C := Try.checked) prog_own started (by kernel_rfl) Try.func5
    (ChangeSpec.witness6 (enc := enc) (C := Try.checked) false ⟨#[], #[.slice none 0 0, .slice none 0 0], []⟩ 8 (by kernel_rfl) (by kernel_rfl) (by kernel_rfl) (by kernel_rfl)) ?_
  intro W base args ds gs before hval0 hW hcnd _
  have hval : ∀ (j : Nat) t v, Try.f5.params[j]? = some t → args[j]? = some v → Value.okWide Try.prog W .any base t v := hval0
  have hW' := hW
  obtain ⟨p, q, hA0, hV, rfl, hfz, hnd⟩ := hW
  have hA : DataW.TrodAll enc Try.prog W 0 (fun _ => true) true Try.f5.params.toList args.toList ds p := hA0
  rw [Try.params5] at hA hval
  obtain ⟨v0, vs0, d0, ds0, p0, q0, hargs, rfl, rfl, h0, r0⟩ := trodAll_cons hA
  obtain ⟨v1, vs1, d1, ds1, p1, q1, rfl, rfl, rfl, h1, r1⟩ := trodAll_cons r0
  obtain ⟨rfl, rfl, rfl⟩ := trodAll_nil r1
  obtain rfl : args = #[v0, v1] := by cases args; simp_all
  obtain ⟨rfl, rfl⟩ := trodVars_none hV
  obtain ⟨a0, len0, cap0, rfl⟩ := okWide_slice Try.underlying22 (hval 0 22 v0 rfl rfl)
  have k0 := h0
  have lt0 : ∀ x ∈ p0, x.block < W.heap.size := by obtain ⟨m, hm⟩ := k0; exact DataW.trod_lt m _ _ _ hm
  obtain ⟨fuel0, hf0⟩ := h0
  obtain ⟨bs0, hm0, hb0, hc0⟩ := open_b1 Try.underlying22 Try.underlying5 (by kernel_rfl) hf0
  obtain ⟨a1, len1, cap1, rfl⟩ := okWide_slice Try.underlying22 (hval 1 22 v1 rfl rfl)
  have k1 := h1
  have lt1 : ∀ x ∈ p1, x.block < W.heap.size := by obtain ⟨m, hm⟩ := k1; exact DataW.trod_lt m _ _ _ hm
  obtain ⟨fuel1, hf1⟩ := h1
  obtain ⟨bs1, hm1, hb1, hc1⟩ := open_b1 Try.underlying22 Try.underlying5 (by kernel_rfl) hf1
  clear hA0 hval0
  refine (journey_any a0 cap0 len0 bs0 a1 cap1 len1 bs1 W hm0 hb0 hc0 hm1 hb1 hc1).mono fun e W' ⟨he, bel⟩ => ?_
  subst he
  exact ⟨_, rfl, _, _, _, [], _, [], hW', trodAll_mk1 (shut_bool Try.underlying4 _), (trodAll_cons_mk (Below.trod prog_laidOut (by kernel_rfl) (of_decide_eq_true (by kernel_rfl)) k0 bel lt0) (trodAll_cons_mk (Below.trod prog_laidOut (by kernel_rfl) (of_decide_eq_true (by kernel_rfl)) k1 bel lt1) trodAll_mk0)), rfl, bel.frame _, fun h => by cases h⟩

theorem journey_holds : Rows.FnJourneySaid :=
  OpenClaim.holds_of_wide 5 Try.f5 rfl rfl rfl rfl rfl rfl rfl ⟨rfl, rfl, rfl, rfl, rfl⟩ rfl rfl rfl rfl rfl (by kernel_rfl) Try.func5 (by kernel_rfl)
    (of_decide_eq_true (by kernel_rfl)) (by unfold Func.isWrapper; first | (rw [if_pos (by decide +kernel)]; kernel_rfl) | (rw [if_neg (by decide +kernel)]; exact ⟨rfl, rfl⟩))
    (fun os started H enc _ => journey_lifted os started H enc)

end Go.Proofs.Ytdiichfdffhdaaa

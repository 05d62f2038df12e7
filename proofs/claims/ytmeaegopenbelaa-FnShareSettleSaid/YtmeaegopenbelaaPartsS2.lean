/-
  The reference's functions on roads in parts: l5Sum, PartsLength, l5Owners, l5Stretch.
-/
import Derived.Test.YtmeaegopenbelaaPartsS
namespace Go.Proofs.Ytmeaegopenbelaa
open Go.RowKit

set_option maxHeartbeats 1000000 in
theorem sSum5_any (A : Option Addr) (c lo hi : Nat) (l : List Int) (w : World) (hl : l.length ≤ 1000) (hr : Rd w lo hi A (ints l)) (hb : ∀ x ∈ l, -2000000 ≤ x ∧ x ≤ 2000000) :
    Calls Try.prog 54 #[.slice A l.length c] w fun e w' => e = .returned (.int .i64 (sumI l)) ∧ w = w' := by
  have HB := Lib.hid hb
  clear hb
  go_enter Try.func54, Try.ntmps54
  go_wp2
  go_loop [3, 4] (fun q i => ∃ k : Nat, k ≤ l.length ∧ i = .int .i64 k ∧ q = .int .i64 (sumI (l.take k))) (fun _ i => l.length - (intOf i).toNat)
  case atStart => exact ⟨0, Nat.zero_le _, rfl, rfl⟩
  case round =>
    obtain ⟨k, hk, rfl, rfl⟩ := hrel
    by_cases hlt : k < l.length
    · obtain ⟨b, off, rfl, hlo, hhi, c0⟩ := hr.at1 k hlt
      have hx := HB.out l[k] (List.getElem_mem hlt)
      have hs := sumI_take_bd l 2000000 k HB.out hk
      have hst := Lib.hid (sumI_take_succ l k hlt)
      generalize l[k] = x at *
      generalize sumI (l.take k) = s at *
      obtain ⟨hx1, hx2⟩ := hx
      obtain ⟨hs1, hs2⟩ := hs
      have hs3 : -2000000000 ≤ s := by omega
      have hs4 : s ≤ 2000000000 := by omega
      clear hs1 hs2
      go_wp2
      go_round
      case rel => exact ⟨k + 1, by omega, by go_num, by rw [hst.out]⟩
      case measure => simp [intOf]; omega
    · have hkl : k = l.length := by omega
      subst hkl
      rw [List.take_length]
      go_wp2
      go_ret
      exact ⟨rfl, rfl⟩
set_option maxHeartbeats 1000000 in
theorem sPartsLength_any (A : Option Addr) (c lo hi : Nat) (ps : List T2) (w : World) (hl : ps.length ≤ 1048576) (hr : Rd w lo hi A (flat2 ps)) (hh : hi ≤ w.heap.size) :
    Calls Try.prog 55 #[.slice A ps.length c] w fun e w' => e = .returned (.int .i64 (lenV ps)) ∧ Below w.heap.size w w' := by
  cases hok : partsB ps
  · have HV := Lib.hid hok
    have hres := Lib.hid (show lenV ps = -1 by unfold lenV; rw [hok]; rfl)
    clear hok
    go_enter Try.func55, Try.ntmps55
    go_wp2_with fail
    refine (sPartsValid_any _ _ _ _ ps _ hl hr).mono ?_
    rintro e w1 ⟨rfl, rfl⟩
    rw [HV.out]
    go_wp2_with fail
    go_ret
    exact ⟨ret_int hres.out.symm, Below.refl _ _⟩
  · have HV := Lib.hid hok
    obtain ⟨p1, p2, p3, _, _⟩ := parts_pos hok
    have hres := Lib.hid (show lenV ps = sumI (cntL (ownersL ps)) by unfold lenV; rw [hok, p2]; rfl)
    have HB := Lib.hid (fun x hx => cntL_bd (ownersL ps) x hx)
    have HC := Lib.hid (cntL_len (ownersL ps))
    clear hok p1 p2
    obtain ⟨L, hL⟩ : ∃ L, L = cntL (ownersL ps) := ⟨_, rfl⟩
    rw [← hL] at hres HB HC
    have HL := Lib.hid hL
    clear hL
    go_enter Try.func55, Try.ntmps55
    go_wp2_with fail
    refine (sPartsValid_any _ _ _ _ ps _ hl hr).mono ?_
    rintro e w1 ⟨rfl, rfl⟩
    rw [HV.out]
    go_wp2_with fail
    refine (sMiles_any _ _ _ _ ps _ HV.out hr hh).mono ?_
    rintro e w2 ⟨A2, c2, rfl, ho, hb⟩
    rw [← HL.out] at ho ⊢
    go_wp2_with fail
    refine (sSum5_any _ _ _ _ L _ (by have := HC.out; omega) (Rd.of_own ho) (fun x hx => by have := HB.out x hx; omega)).mono ?_
    rintro e w3 ⟨rfl, rfl⟩
    rw [← hres.out]
    go_wp2_with fail
    go_ret
    exact ⟨rfl, hb⟩
set_option maxHeartbeats 2000000 in
theorem sOwners_any (A : Option Addr) (c lo hi : Nat) (ps : List T2) (w : World) (hok : partsB ps = true) (hr : Rd w lo hi A (flat2 ps)) (hh : hi ≤ w.heap.size) :
    Calls Try.prog 47 #[.slice A ps.length c] w (RetI 3 (ownersL ps) w) := by
  obtain ⟨i0, hi0, hz0, hz1, hz2⟩ := info_parts infoInt
  obtain ⟨hin, hl1, hl2⟩ := parts_and hok
  have HIN := Lib.hid hin
  have hown0 := own_lit0 w w.heap.size 3 1 (Nat.le_refl _)
  have hb0 := below_alloc (Below.refl w.heap.size w) (.cells #[] 3)
  clear hin hok
  go_enter Try.func47, Try.ntmps47
  go_wp2_with fail
  go_loopw [3, 4, 5] (fun v i _ wr => ∃ (k g cap : Nat) (L : List Int), k ≤ ps.length ∧ i = .int .i64 k ∧ Hid (L = ownersL (ps.take k)) ∧ v = .slice (some ⟨g, 0, none⟩) L.length cap ∧ wr.ownsRow w.heap.size 3 1 (.slice (some ⟨g, 0, none⟩) L.length cap) L.length (ints L) ∧ Below w.heap.size w wr) (fun _ i _ _ => ps.length - (intOf i).toNat)
  case atStart => exact ⟨0, _, _, [], Nat.zero_le _, rfl, by simp [Hid, ownersL], rfl, hown0, hb0⟩
  case round =>
    obtain ⟨k, g, cap, L, hk, rfl, HT, rfl, hown, hb⟩ := hrel
    clear hown0 hb0
    by_cases hlt : k < ps.length
    · obtain ⟨b, off, rfl, hlo, hhi, _, _⟩ := hr.at2 k hlt
      have hx := HIN.out ps[k] (List.getElem_mem hlt)
      have hbd := (owners_take_len HIN.out k).1
      rw [← HT.out] at hbd
      have hll : L.length ≤ 1188 := by omega
      have HST := Lib.hid (owners_take_succ hlt)
      have HSL := Lib.hid (show ∀ wq, Below w.heap.size w wq → wq.cell? ⟨b, off + k * 2, none⟩ = some (.int .i64 ps[k].1) ∧ wq.cell? ⟨b, off + k * 2 + 1, none⟩ = some (.int .i64 ps[k].2) from fun wq hq => by
        obtain ⟨b', off', e', _, _, c0, c1⟩ := (hr.below hq hh).at2 k hlt
        injection e' with e'; injection e' with e1 e2; subst e1 e2
        exact ⟨c0, c1⟩)
      generalize ps[k] = x at *
      obtain ⟨x0, x1, x2, x3⟩ := hx
      obtain ⟨wo, hwo⟩ : ∃ wo : World, wo = wr := ⟨_, rfl⟩
      subst hwo
      clear hbd
      go_wp2_with fail
      go_loopw [3, 5] (fun v j wr => ∃ (m g cap : Nat) (M : List Int), (m : Int) ≤ x.2 ∧ j = .int .i64 m ∧ Hid (M = L ++ List.replicate m x.1) ∧ v = .slice (some ⟨g, 0, none⟩) M.length cap ∧ wr.ownsRow w.heap.size 3 1 (.slice (some ⟨g, 0, none⟩) M.length cap) M.length (ints M) ∧ Below w.heap.size w wr) (fun _ j _ => x.2.toNat - (intOf j).toNat)
      case atStart => exact ⟨0, g, cap, L, by omega, rfl, by simp [Hid], rfl, hown, hb⟩
      case round =>
        obtain ⟨m, g', cap', M, hm, rfl, HM, rfl, hown', hb'⟩ := hrel
        clear hown hb
        obtain ⟨c0, c1⟩ := HSL.out wr hb'
        have hbs := hb'.size
        have hMl : M.length ≤ 2000 := by rw [HM.out]; simp; omega
        by_cases hml : (m : Int) < x.2
        · have hstep := Lib.hid (show M ++ [x.1] = L ++ List.replicate (m + 1) x.1 by rw [HM.out, List.append_assoc, ← List.replicate_succ'])
          go_wp2_with (at_builtin; go_must (refine wpList_append1 rfl _ _ 26 rfl w.heap.size 3 i0 _ Try.underlying26 hi0 hz0 hz1 hz2 rfl (.slice (some ⟨g', 0, none⟩) M.length cap') M rfl (hown'.alloc _) wr.heap.size _ (nb1 _ _) rfl (by omega) (ls1 hbs _) ?_); intro g2 cap2 w2 hown2 hg2 _ _)
          have hb2 := below_grown (below_alloc hb' _) (ls1 hbs _) (hown'.alloc _) (Nat.le_refl _) hg2
          go_roundw
          case rel => exact ⟨m + 1, g2, cap2, M ++ [x.1], by omega, by go_num, hstep, by simp, by simpa using hown2, hb2⟩
          case measure => simp [intOf]; omega
        · have hfin := Lib.hid (show M = ownersL (ps.take (k + 1)) by
            rw [HM.out, HST.out, ← HT.out, show x.2.toNat = m by omega])
          go_wp2_with fail
          go_roundw
          case rel => exact ⟨k + 1, g', cap', M, by omega, by go_num, hfin, rfl, hown', hb'⟩
          case measure => simp [intOf]; omega
    · have hfin := Lib.hid (show ownersL ps = L by rw [HT.out, List.take_of_length_le (by omega)])
      go_wp2_with fail
      go_ret
      rw [hfin.out]
      exact ⟨_, _, rfl, hown, hb⟩
set_option maxHeartbeats 1000000 in
theorem sStretch_any (A : Option Addr) (c lo hi : Nat) (ps : List T2) (a b : Int) (w : World) (hl : ps.length ≤ 1048576) (hr : Rd w lo hi A (flat2 ps)) (hh : hi ≤ w.heap.size) (ha : in64 a) :
    Calls Try.prog 46 #[.slice A ps.length c, .int .i64 a, .int .i64 b] w fun e w' => e = .returned (.bool (stretchB ps a b)) ∧ Below w.heap.size w w' := by
  unfold in64 at ha
  obtain ⟨ha0, ha1⟩ := ha
  have hlv : lenV ps = -1 ∨ (0 ≤ lenV ps ∧ lenV ps ≤ 1188) := by
    unfold lenV
    cases hok : partsB ps
    · exact .inl rfl
    · right
      have := parts_pos hok
      simp only [if_true]; omega
  have hB : stretchB ps a b = (decide (0 ≤ lenV ps) && inB a 0 (lenV ps - 1) && inB b (a + 1) (lenV ps)) := by
    unfold stretchB lenV
    cases hok : partsB ps
    · simp
    · have := parts_pos hok
      simp only [if_true, Bool.true_and]
      rw [Bool.eq_iff_iff]
      simp only [Bool.and_eq_true, inB, decide_eq_true_eq]
      omega
  have HB := Lib.hid hB
  clear hB
  obtain ⟨V, hV⟩ : ∃ V, V = lenV ps := ⟨_, rfl⟩
  rw [← hV] at HB hlv
  have HV := Lib.hid hV
  clear hV
  go_enter Try.func46, Try.ntmps46
  go_wp2_with fail
  refine (sPartsLength_any _ _ _ _ ps _ hl hr hh).mono ?_
  rintro e w1 ⟨rfl, hb⟩
  rw [← HV.out]
  rcases hlv with rfl | ⟨v0, v1⟩
  · have hres := Lib.hid (show stretchB ps a b = false by rw [HB.out]; rfl)
    go_wp2_with fail
    go_ret
    exact ⟨ret_bool hres.out.symm, hb⟩
  · have d0 : decide (0 ≤ V) = true := decide_eq_true v0
    cases h1 : inB a 0 (V - 1)
    · have hres := Lib.hid (show stretchB ps a b = false by rw [HB.out, h1]; simp)
      go_wp2_with (go_at_call 39; refine (l6In_any _ _ _ _).mono ?_; rintro e w' ⟨rfl, rfl⟩)
      go_ret
      exact ⟨ret_bool hres.out.symm, hb⟩
    · have hr1 := of_inB h1
      have a0 : 0 ≤ a := hr1.1
      have a1 : a ≤ 1188 := by omega
      have hres := Lib.hid (show stretchB ps a b = inB b (a + 1) V by rw [HB.out, h1, decide_eq_true v0]; rfl)
      clear hr1
      go_wp2_with (go_at_call 39; refine (l6In_any _ _ _ _).mono ?_; rintro e w' ⟨rfl, rfl⟩)
      go_ret
      exact ⟨ret_bool hres.out.symm, hb⟩

end Go.Proofs.Ytmeaegopenbelaa

/-
  Contract of the drawer of timetables.
-/
import Derived.Test.YtdiichfdffhdaaaDrawWords
namespace Go.Proofs.Ytdiichfdffhdaaa
open Go.RowKit

theorem infoStopD : (Try.prog.info? 30).map (fun i => (i.zero, i.size, i.bytes)) = some (some (.agg #[.int .i64 0, .int .i64 0, .int .i64 0]), 3, 24) := by kernel_rfl

set_option maxRecDepth 100000 in
set_option maxHeartbeats 16000000 in
theorem stops_any (R p : Nat) (f : Nat → Int → Int) (n t : Int) (w : World) (h : IsRdr w R p f) (hp : p ≤ 900000) (hn1 : 2 ≤ n) (hn2 : n ≤ 8) (ht1 : 0 ≤ t) (ht2 : t ≤ 1000000) :
    Calls Try.prog 67 #[.pointer (some ⟨R, 0, none⟩), .int .i64 n, .int .i64 t] w (DrewS 30 R p f w) := by
  obtain ⟨i0, hi0, hz0, hz1, hz2⟩ := info_parts infoStopD
  have hRw := h.lt
  have h1 := drawF_bd (n := 4) h (p := p) (by omega) (by omega)
  have h2 := drawF_bd (n := n) h (p := p + 1) (by omega) (by omega)
  have hmax : (1 : Int) < n := by omega
  go_enter Try.func67, Try.ntmps67
  go_wp2_with fail
  refine (pick_any 4 R p f _ (h.alloc _) (by omega) (by omega) (by omega)).mono ?_
  rintro e w1 ⟨rfl, hs1⟩
  have hr1 := hs1.rdr (h.alloc _)
  have hg1 := (gr_alloc (gr_refl w (some R)) (.cells #[] 30)).trans hs1.grown
  have ho1 := hs1.own (own_lit0 w w.heap.size 30 3 (Nat.le_refl _)) hRw
  obtain ⟨mm, hmm⟩ : ∃ mm, mm = f p 4 := ⟨_, rfl⟩
  rw [← hmm] at h1 ⊢
  clear hmm
  go_wp2_with fail
  refine (pick_any n R (p + 1) f _ hr1 (by omega) (by omega) (by omega)).mono ?_
  rintro e w2 ⟨rfl, hs2⟩
  have hr2 := hs2.rdr hr1
  have hg2 := hg1.trans hs2.grown
  have ho2 := hs2.own ho1 hRw
  generalize f (p + 1) n = town0 at *
  clear ho1 hr1 hg1 hs1 hs2 h
  obtain ⟨h1a, h1b⟩ := h1
  obtain ⟨h2a, h2b⟩ := h2
  go_wp2_with fail
  go_loopw [2, 7, 9, 10] (fun tt v tn i wr => ∃ (k g cap : Nat) (L : List T3) (t' town : Int), (k : Int) ≤ 2 + mm ∧ (k : Int) ≤ n ∧ i = .int .i64 k ∧ tt = .int .i64 t' ∧ 0 ≤ t' ∧ t' ≤ t + 100 * k ∧ tn = .int .i64 town ∧ 0 ≤ town ∧ town < n ∧ L.length = k ∧ v = .slice (some ⟨g, 0, none⟩) L.length cap ∧ wr.ownsRow w.heap.size 30 3 (.slice (some ⟨g, 0, none⟩) L.length cap) L.length (flat3 L) ∧ IsRdr wr R (p + 2 + 3 * k) f ∧ w.grownBy wr (some R)) (fun _ _ _ i _ => 10 - (intOf i).toNat)
  case atStart => exact ⟨0, _, _, [], t, town0, by omega, by omega, rfl, rfl, by omega, by omega, rfl, by omega, by omega, rfl, rfl, ho2, hr2, hg2⟩
  case round =>
    obtain ⟨k, g, cap, L, t', town, hk1, hk2, rfl, rfl, ht3, ht4, rfl, hto1, hto2, hLk, rfl, hown, hrd, hgr⟩ := hrel
    clear ho2 hr2 hg2
    have hLle : k ≤ L.length := by omega
    have hLge : L.length ≤ k := by omega
    have HLK := Lib.hid hLk
    clear hLk
    by_cases hlt : (k : Int) < 2 + mm ∧ (k : Int) < n
    · obtain ⟨hlt1, hlt2⟩ := hlt
      have b1 := drawF_bd (n := 3) hrd (p := p + 2 + 3 * k) (by omega) (by omega)
      have b2 := drawF_bd (n := 12) hrd (p := p + 2 + 3 * k + 1) (by omega) (by omega)
      have b3 := drawF_bd (n := 40) hrd (p := p + 2 + 3 * k + 1 + 1) (by omega) (by omega)
      have hsz := hgr.size
      go_wp2_with fail
      refine (pick_any 3 R (p + 2 + 3 * k) f _ hrd (by omega) (by omega) (by omega)).mono ?_
      rintro e w3 ⟨rfl, hs3⟩
      have hr3 := hs3.rdr hrd
      have hg3 := hgr.trans hs3.grown
      have ho3 := hs3.own hown hRw
      go_wp2_with fail
      refine (pick_any 12 R (p + 2 + 3 * k + 1) f _ hr3 (by omega) (by omega) (by omega)).mono ?_
      rintro e w4 ⟨rfl, hs4⟩
      have hr4 := hs4.rdr hr3
      have hg4 := hg3.trans hs4.grown
      have ho4 := hs4.own ho3 hRw
      have hsz4 := hg4.size
      have hab := mul_bd (a := f (p + 2 + 3 * k) 3) (b := f (p + 2 + 3 * k + 1) 12) (A := 2) (B := 11) (by omega) (by omega)
      generalize f (p + 2 + 3 * k) 3 = va at *
      generalize f (p + 2 + 3 * k + 1) 12 = vb at *
      obtain ⟨vab, hvab⟩ : ∃ x, x = va * vb := ⟨_, rfl⟩
      rw [← hvab] at hab
      have k1 : wrap64 (va * vb) = vab := by rw [← hvab]; exact IntWalk.wrap64_in vab (by omega)
      clear hvab
      clear hs3 hs4 ho3 hr3 hg3 hown hrd hgr
      obtain ⟨hab0, hab1⟩ := hab
      go_wp2_with (at_builtin; go_must (refine wpList_append3 rfl _ _ 31 rfl w.heap.size 30 i0 _ Try.underlying31 hi0 hz0 hz1 hz2 rfl (.slice (some ⟨g, 0, none⟩) L.length cap) L rfl (ho4.alloc _) w4.heap.size _ _ _ (nb1 _ _) rfl (by omega) (ls1 hsz4 _) ?_); intro g2 cap2 w5 ho5 hg5 hor5 hlt5; have hr5 := (hr4.alloc _).grown hg5 (by have := (own_lt ho4).1; omega); have hgr5 := draw_grown (gr_alloc hg4 _) hg5 (own_lt ho4).1)
      refine (pick_any 40 R (p + 2 + 3 * k + 1 + 1) f _ hr5 (by omega) (by omega) (by omega)).mono ?_
      rintro e w6 ⟨rfl, hs6⟩
      have hr6 := hs6.rdr hr5
      have hg6 := hgr5.trans hs6.grown
      have ho6 := hs6.own ho5 hRw
      generalize f (p + 2 + 3 * k + 1 + 1) 40 = vc at *
      have e6 : p + 2 + 3 * k + 1 + 1 + 1 = p + 2 + 3 * (k + 1) := by omega
      rw [e6] at hr6
      clear e6
      have hmod : 0 ≤ (town + 1) % n ∧ (town + 1) % n < n := ⟨Int.emod_nonneg _ (by omega), Int.emod_lt_of_pos _ (by omega)⟩
      go_wp2_with fail
      go_roundw
      case rel => exact ⟨k + 1, g2, cap2, L ++ [(town, t', t' + vab)], t' + vab + 1 + vc, (town + 1) % n, by omega, by omega, by go_num, rfl, by omega, by omega, rfl, hmod.1, hmod.2, by have := HLK.out; simp [this], by simp, by simpa using ho6, hr6, hg6⟩
      case measure => simp [intOf]; omega
    · have hL2 : 2 ≤ L.length := by omega
      have hL6 : L.length ≤ 8 := by omega
      have hgb : w.heap.size ≤ g := (own_lt hown).1
      have hRg : R < g := by omega
      have hgR : g ≠ R := by omega
      obtain ⟨P0, hP0⟩ : ∃ P0, P0 = p + 2 + 3 * k := ⟨_, rfl⟩
      rw [← hP0] at hrd
      have hP1 : P0 ≤ p + 100 := by omega
      have hP2 : p ≤ P0 := by omega
      clear hP0 HLK
      by_cases hlt1 : (k : Int) < 2 + mm
      · have hlt2 : ¬ (k : Int) < n := by omega
        clear hlt
        by_cases hL3 : 2 < L.length
        · have hlen2 : decide (2 < L.length) = true := decide_eq_true hL3
          have hlen2i : (2 : Int) < (L.length : Int) := by omega
          have b2 := drawF_bd (n := 2) hrd (p := P0) (by omega) (by omega)
          go_wp2_with fail
          refine (pick_any 2 R P0 f _ hrd (by omega) (by omega) (by omega)).mono ?_
          rintro e w3 ⟨rfl, hs3⟩
          have hr3 := hs3.rdr hrd
          have hg3 := hgr.trans hs3.grown
          have ho3 := hs3.own hown hRw
          clear hs3 hrd hgr hown
          generalize f P0 2 = v2 at *
          by_cases hv2 : v2 = 0
          · have d2 : (v2 == 0) = true := by simp [hv2]
            clear hv2
            have bk := drawF_bd (n := (L.length : Int) - 2) hr3 (p := P0 + 1) (by omega) (by omega)
            go_wp2_with fail
            refine (pick_any ((L.length : Int) - 2) R (P0 + 1) f _ hr3 (by omega) (by omega) (by omega)).mono ?_
            rintro e w4 ⟨rfl, hs4⟩
            have hr4 := hs4.rdr hr3
            have hg4 := hg3.trans hs4.grown
            have ho4 := hs4.own ho3 hRw
            clear hs4 hr3 hg3 ho3
            generalize f (P0 + 1) ((L.length : Int) - 2) = v at *
            obtain ⟨bk1, bk2⟩ := bk
            have hi1 : (1 : Int) + v < (L.length : Int) := by omega
            have hi0 : (0 : Int) ≤ 1 + v := by omega
            have hK : (1 + v).toNat < L.length := by omega
            obtain ⟨c0, _, _⟩ := own3_cells ho4 0 (by omega)
            simp only [Nat.zero_mul] at c0
            obtain ⟨ck, _, _⟩ := own3_cells ho4 _ hK
            have f0 := ho4.frozenAt 0
            have fk := ho4.frozenAt ((1 + v).toNat * 3)
            obtain ⟨y0, hy0⟩ : ∃ y, y = L[0].1 := ⟨_, rfl⟩
            obtain ⟨yk, hyk⟩ : ∃ y, y = (L[(1 + v).toNat]).1 := ⟨_, rfl⟩
            rw [← hy0] at c0
            rw [← hyk] at ck
            clear hy0 hyk
            obtain ⟨L2, hL2l, hset⟩ := flat3_set_any L 0 yk (by omega)
            have ho5 := own_write ho4 hset
            have hr5 := hr4.setCell (S := g) (o := 0) (u := .int .i64 yk) hRg
            have hg5 := draw_set hg4 (g := g) (o := 0) (u := .int .i64 yk) hgb
            obtain ⟨L3, hL3l, hset3⟩ := flat3_set_any L2 ((1 + v).toNat * 3) y0 (by omega)
            have ho3 := own_write ho5 hset3
            have hr3 := hr5.setCell (S := g) (o := (1 + v).toNat * 3) (u := .int .i64 y0) hRg
            have hg3 := draw_set hg5 (g := g) (o := (1 + v).toNat * 3) (u := .int .i64 y0) hgb
            have HLX := Lib.hid (show L3.length = L.length by omega)
            clear hL2l hL3l hset hset3 ho5 hr5 hg5 ho4 hr4 hg4
            obtain ⟨P, hP⟩ : ∃ P, P = P0 + 1 + 1 := ⟨_, rfl⟩
            rw [← hP] at hr3
            obtain ⟨c00, c01, c02⟩ := own3_cells ho3 0 (by have := HLX.out; omega)
            obtain ⟨c10, c11, c12⟩ := own3_cells ho3 1 (by have := HLX.out; omega)
            simp only [Nat.zero_mul, Nat.zero_add, Nat.one_mul] at c00 c01 c02 c10 c11 c12
            have fz := ho3.frozenAt
            have fz3 := fz 3
            have fz4 := fz 4
            have fz1 := fz 1
            clear fz
            have hlen1 : decide (1 < L.length) = true := decide_eq_true (by omega)
            have hlen1i : (1 : Int) < (L.length : Int) := by omega
            have b40 := drawF_bd (n := 40) hr3 (p := P) (by omega) (by omega)
            go_wp2_with fail
            refine (pick_any 40 R P f _ hr3 (by omega) (by omega) (by omega)).mono ?_
            rintro e w4 ⟨rfl, hs4⟩
            have hr4 := hs4.rdr hr3
            have hg4 := hg3.trans hs4.grown
            have ho4 := hs4.own ho3 hRw
            have c00 := (hs4.cell hgR).trans c00
            have c01 := (hs4.cell hgR).trans c01
            have c02 := (hs4.cell hgR).trans c02
            have c10 := (hs4.cell hgR).trans c10
            have c11 := (hs4.cell hgR).trans c11
            have c12 := (hs4.cell hgR).trans c12
            have fz3 := hs4.frozen.trans fz3
            have fz4 := hs4.frozen.trans fz4
            have fz1 := hs4.frozen.trans fz1
            generalize f P 40 = sw at *
            generalize L3[0]'(by have := HLX.out; omega) = x0 at *
            generalize L3[1]'(by have := HLX.out; omega) = x1 at *
            clear hs4 ho3 hr3 hg3
            by_cases hs0 : sw = 0
            · have d0 : (sw == 0) = true := by simp [hs0]
              clear hs0
              obtain ⟨L2, hL2, hset⟩ := flat3_set_any L3 3 x0.1 (by have := HLX.out; omega)
              have hown := own_write ho4 hset
              have hrf := hr4.setCell (S := g) (o := 3) (u := .int .i64 x0.1) hRg
              have hgf := draw_set hg4 (g := g) (o := 3) (u := .int .i64 x0.1) hgb
              have HL2 := Lib.hid hL2
              clear hset hL2 ho4 hr4 hg4
              go_wp2_with fail
              go_ret
              exact ⟨_, _, _, L2, by rw [HL2.out, HLX.out]; rfl, by have := HL2.out; have := HLX.out; omega, by rw [HL2.out, HLX.out]; exact hown, by omega, by omega, hrf, hgf⟩
            have d0 : (sw == 0) = false := by simp [hs0]
            clear hs0
            by_cases hs1 : sw = 1
            · have d1 : (sw == 1) = true := by simp [hs1]
              clear hs1
              obtain ⟨L2, hL2, hset⟩ := flat3_set_any L3 4 x0.2.2 (by have := HLX.out; omega)
              have hown := own_write ho4 hset
              have hrf := hr4.setCell (S := g) (o := 4) (u := .int .i64 x0.2.2) hRg
              have hgf := draw_set hg4 (g := g) (o := 4) (u := .int .i64 x0.2.2) hgb
              have HL2 := Lib.hid hL2
              clear hset hL2 ho4 hr4 hg4
              go_wp2_with fail
              go_ret
              exact ⟨_, _, _, L2, by rw [HL2.out, HLX.out]; rfl, by have := HL2.out; have := HLX.out; omega, by rw [HL2.out, HLX.out]; exact hown, by omega, by omega, hrf, hgf⟩
            have d1 : (sw == 1) = false := by simp [hs1]
            clear hs1
            by_cases hs2 : sw = 2
            · have d2 : (sw == 2) = true := by simp [hs2]
              clear hs2
              have hcp := own_cap ho4
              have hown := own_take ho4 (m := 1) (by omega)
              have HT := Lib.hid (flat3_take L3 1)
              have HLT := Lib.hid (show (L3.take 1).length = 1 by have := HLX.out; rw [List.length_take]; omega)
              go_wp2_with fail
              go_ret
              exact ⟨_, _, _, L3.take 1, by rw [HLT.out]; rfl, by have := HLT.out; omega, by rw [HLT.out, ← HT.out]; exact hown, by omega, by omega, hr4, hg4⟩
            have d2 : (sw == 2) = false := by simp [hs2]
            clear hs2
            by_cases hs3 : sw = 3
            · have d3 : (sw == 3) = true := by simp [hs3]
              clear hs3
              obtain ⟨L2, hL2, hset⟩ := flat3_set_any L3 1 (-1) (by have := HLX.out; omega)
              have hown := own_write ho4 hset
              have hrf := hr4.setCell (S := g) (o := 1) (u := .int .i64 (-1)) hRg
              have hgf := draw_set hg4 (g := g) (o := 1) (u := .int .i64 (-1)) hgb
              have HL2 := Lib.hid hL2
              clear hset hL2 ho4 hr4 hg4
              go_wp2_with fail
              go_ret
              exact ⟨_, _, _, L2, by rw [HL2.out, HLX.out]; rfl, by have := HL2.out; have := HLX.out; omega, by rw [HL2.out, HLX.out]; exact hown, by omega, by omega, hrf, hgf⟩
            have d3 : (sw == 3) = false := by simp [hs3]
            clear hs3
            go_wp2_with fail
            go_ret
            exact ⟨_, _, _, L3, by rw [HLX.out]; rfl, by have := HLX.out; omega, by rw [HLX.out]; exact ho4, by omega, by omega, hr4, hg4⟩
          · have d2 : (v2 == 0) = false := by simp [hv2]
            clear hv2
            obtain ⟨P, hP⟩ : ∃ P, P = P0 + 1 := ⟨_, rfl⟩
            rw [← hP] at hr3
            obtain ⟨L3, hL3e⟩ : ∃ L3, L3 = L := ⟨_, rfl⟩
            have HLX := Lib.hid (show L3.length = L.length by rw [hL3e])
            have ho3 : w3.ownsRow w.heap.size 30 3 (.slice (some ⟨g, 0, none⟩) L.length cap) L.length (flat3 L3) := by rw [hL3e]; exact ho3
            clear hL3e
            obtain ⟨c00, c01, c02⟩ := own3_cells ho3 0 (by have := HLX.out; omega)
            obtain ⟨c10, c11, c12⟩ := own3_cells ho3 1 (by have := HLX.out; omega)
            simp only [Nat.zero_mul, Nat.zero_add, Nat.one_mul] at c00 c01 c02 c10 c11 c12
            have fz := ho3.frozenAt
            have fz3 := fz 3
            have fz4 := fz 4
            have fz1 := fz 1
            clear fz
            have hlen1 : decide (1 < L.length) = true := decide_eq_true (by omega)
            have hlen1i : (1 : Int) < (L.length : Int) := by omega
            have b40 := drawF_bd (n := 40) hr3 (p := P) (by omega) (by omega)
            go_wp2_with fail
            refine (pick_any 40 R P f _ hr3 (by omega) (by omega) (by omega)).mono ?_
            rintro e w4 ⟨rfl, hs4⟩
            have hr4 := hs4.rdr hr3
            have hg4 := hg3.trans hs4.grown
            have ho4 := hs4.own ho3 hRw
            have c00 := (hs4.cell hgR).trans c00
            have c01 := (hs4.cell hgR).trans c01
            have c02 := (hs4.cell hgR).trans c02
            have c10 := (hs4.cell hgR).trans c10
            have c11 := (hs4.cell hgR).trans c11
            have c12 := (hs4.cell hgR).trans c12
            have fz3 := hs4.frozen.trans fz3
            have fz4 := hs4.frozen.trans fz4
            have fz1 := hs4.frozen.trans fz1
            generalize f P 40 = sw at *
            generalize L3[0]'(by have := HLX.out; omega) = x0 at *
            generalize L3[1]'(by have := HLX.out; omega) = x1 at *
            clear hs4 ho3 hr3 hg3
            by_cases hs0 : sw = 0
            · have d0 : (sw == 0) = true := by simp [hs0]
              clear hs0
              obtain ⟨L2, hL2, hset⟩ := flat3_set_any L3 3 x0.1 (by have := HLX.out; omega)
              have hown := own_write ho4 hset
              have hrf := hr4.setCell (S := g) (o := 3) (u := .int .i64 x0.1) hRg
              have hgf := draw_set hg4 (g := g) (o := 3) (u := .int .i64 x0.1) hgb
              have HL2 := Lib.hid hL2
              clear hset hL2 ho4 hr4 hg4
              go_wp2_with fail
              go_ret
              exact ⟨_, _, _, L2, by rw [HL2.out, HLX.out]; rfl, by have := HL2.out; have := HLX.out; omega, by rw [HL2.out, HLX.out]; exact hown, by omega, by omega, hrf, hgf⟩
            have d0 : (sw == 0) = false := by simp [hs0]
            clear hs0
            by_cases hs1 : sw = 1
            · have d1 : (sw == 1) = true := by simp [hs1]
              clear hs1
              obtain ⟨L2, hL2, hset⟩ := flat3_set_any L3 4 x0.2.2 (by have := HLX.out; omega)
              have hown := own_write ho4 hset
              have hrf := hr4.setCell (S := g) (o := 4) (u := .int .i64 x0.2.2) hRg
              have hgf := draw_set hg4 (g := g) (o := 4) (u := .int .i64 x0.2.2) hgb
              have HL2 := Lib.hid hL2
              clear hset hL2 ho4 hr4 hg4
              go_wp2_with fail
              go_ret
              exact ⟨_, _, _, L2, by rw [HL2.out, HLX.out]; rfl, by have := HL2.out; have := HLX.out; omega, by rw [HL2.out, HLX.out]; exact hown, by omega, by omega, hrf, hgf⟩
            have d1 : (sw == 1) = false := by simp [hs1]
            clear hs1
            by_cases hs2 : sw = 2
            · have d2 : (sw == 2) = true := by simp [hs2]
              clear hs2
              have hcp := own_cap ho4
              have hown := own_take ho4 (m := 1) (by omega)
              have HT := Lib.hid (flat3_take L3 1)
              have HLT := Lib.hid (show (L3.take 1).length = 1 by have := HLX.out; rw [List.length_take]; omega)
              go_wp2_with fail
              go_ret
              exact ⟨_, _, _, L3.take 1, by rw [HLT.out]; rfl, by have := HLT.out; omega, by rw [HLT.out, ← HT.out]; exact hown, by omega, by omega, hr4, hg4⟩
            have d2 : (sw == 2) = false := by simp [hs2]
            clear hs2
            by_cases hs3 : sw = 3
            · have d3 : (sw == 3) = true := by simp [hs3]
              clear hs3
              obtain ⟨L2, hL2, hset⟩ := flat3_set_any L3 1 (-1) (by have := HLX.out; omega)
              have hown := own_write ho4 hset
              have hrf := hr4.setCell (S := g) (o := 1) (u := .int .i64 (-1)) hRg
              have hgf := draw_set hg4 (g := g) (o := 1) (u := .int .i64 (-1)) hgb
              have HL2 := Lib.hid hL2
              clear hset hL2 ho4 hr4 hg4
              go_wp2_with fail
              go_ret
              exact ⟨_, _, _, L2, by rw [HL2.out, HLX.out]; rfl, by have := HL2.out; have := HLX.out; omega, by rw [HL2.out, HLX.out]; exact hown, by omega, by omega, hrf, hgf⟩
            have d3 : (sw == 3) = false := by simp [hs3]
            clear hs3
            go_wp2_with fail
            go_ret
            exact ⟨_, _, _, L3, by rw [HLX.out]; rfl, by have := HLX.out; omega, by rw [HLX.out]; exact ho4, by omega, by omega, hr4, hg4⟩
        · have hlen2 : decide (2 < L.length) = false := decide_eq_false hL3
          have hlen2i : ¬ (2 : Int) < (L.length : Int) := by omega
          obtain ⟨P, hP⟩ : ∃ P, P = P0 := ⟨_, rfl⟩
          rw [← hP] at hrd
          have hr3 := hrd
          have hg3 := hgr
          have ho3 := hown
          obtain ⟨w3, rfl⟩ : ∃ w3, w3 = wr := ⟨_, rfl⟩
          clear hrd hgr hown
          obtain ⟨L3, hL3e⟩ : ∃ L3, L3 = L := ⟨_, rfl⟩
          have HLX := Lib.hid (show L3.length = L.length by rw [hL3e])
          have ho3 : w3.ownsRow w.heap.size 30 3 (.slice (some ⟨g, 0, none⟩) L.length cap) L.length (flat3 L3) := by rw [hL3e]; exact ho3
          clear hL3e
          obtain ⟨c00, c01, c02⟩ := own3_cells ho3 0 (by have := HLX.out; omega)
          obtain ⟨c10, c11, c12⟩ := own3_cells ho3 1 (by have := HLX.out; omega)
          simp only [Nat.zero_mul, Nat.zero_add, Nat.one_mul] at c00 c01 c02 c10 c11 c12
          have fz := ho3.frozenAt
          have fz3 := fz 3
          have fz4 := fz 4
          have fz1 := fz 1
          clear fz
          have hlen1 : decide (1 < L.length) = true := decide_eq_true (by omega)
          have hlen1i : (1 : Int) < (L.length : Int) := by omega
          have b40 := drawF_bd (n := 40) hr3 (p := P) (by omega) (by omega)
          go_wp2_with fail
          refine (pick_any 40 R P f _ hr3 (by omega) (by omega) (by omega)).mono ?_
          rintro e w4 ⟨rfl, hs4⟩
          have hr4 := hs4.rdr hr3
          have hg4 := hg3.trans hs4.grown
          have ho4 := hs4.own ho3 hRw
          have c00 := (hs4.cell hgR).trans c00
          have c01 := (hs4.cell hgR).trans c01
          have c02 := (hs4.cell hgR).trans c02
          have c10 := (hs4.cell hgR).trans c10
          have c11 := (hs4.cell hgR).trans c11
          have c12 := (hs4.cell hgR).trans c12
          have fz3 := hs4.frozen.trans fz3
          have fz4 := hs4.frozen.trans fz4
          have fz1 := hs4.frozen.trans fz1
          generalize f P 40 = sw at *
          generalize L3[0]'(by have := HLX.out; omega) = x0 at *
          generalize L3[1]'(by have := HLX.out; omega) = x1 at *
          clear hs4 ho3 hr3 hg3
          by_cases hs0 : sw = 0
          · have d0 : (sw == 0) = true := by simp [hs0]
            clear hs0
            obtain ⟨L2, hL2, hset⟩ := flat3_set_any L3 3 x0.1 (by have := HLX.out; omega)
            have hown := own_write ho4 hset
            have hrf := hr4.setCell (S := g) (o := 3) (u := .int .i64 x0.1) hRg
            have hgf := draw_set hg4 (g := g) (o := 3) (u := .int .i64 x0.1) hgb
            have HL2 := Lib.hid hL2
            clear hset hL2 ho4 hr4 hg4
            go_wp2_with fail
            go_ret
            exact ⟨_, _, _, L2, by rw [HL2.out, HLX.out]; rfl, by have := HL2.out; have := HLX.out; omega, by rw [HL2.out, HLX.out]; exact hown, by omega, by omega, hrf, hgf⟩
          have d0 : (sw == 0) = false := by simp [hs0]
          clear hs0
          by_cases hs1 : sw = 1
          · have d1 : (sw == 1) = true := by simp [hs1]
            clear hs1
            obtain ⟨L2, hL2, hset⟩ := flat3_set_any L3 4 x0.2.2 (by have := HLX.out; omega)
            have hown := own_write ho4 hset
            have hrf := hr4.setCell (S := g) (o := 4) (u := .int .i64 x0.2.2) hRg
            have hgf := draw_set hg4 (g := g) (o := 4) (u := .int .i64 x0.2.2) hgb
            have HL2 := Lib.hid hL2
            clear hset hL2 ho4 hr4 hg4
            go_wp2_with fail
            go_ret
            exact ⟨_, _, _, L2, by rw [HL2.out, HLX.out]; rfl, by have := HL2.out; have := HLX.out; omega, by rw [HL2.out, HLX.out]; exact hown, by omega, by omega, hrf, hgf⟩
          have d1 : (sw == 1) = false := by simp [hs1]
          clear hs1
          by_cases hs2 : sw = 2
          · have d2 : (sw == 2) = true := by simp [hs2]
            clear hs2
            have hcp := own_cap ho4
            have hown := own_take ho4 (m := 1) (by omega)
            have HT := Lib.hid (flat3_take L3 1)
            have HLT := Lib.hid (show (L3.take 1).length = 1 by have := HLX.out; rw [List.length_take]; omega)
            go_wp2_with fail
            go_ret
            exact ⟨_, _, _, L3.take 1, by rw [HLT.out]; rfl, by have := HLT.out; omega, by rw [HLT.out, ← HT.out]; exact hown, by omega, by omega, hr4, hg4⟩
          have d2 : (sw == 2) = false := by simp [hs2]
          clear hs2
          by_cases hs3 : sw = 3
          · have d3 : (sw == 3) = true := by simp [hs3]
            clear hs3
            obtain ⟨L2, hL2, hset⟩ := flat3_set_any L3 1 (-1) (by have := HLX.out; omega)
            have hown := own_write ho4 hset
            have hrf := hr4.setCell (S := g) (o := 1) (u := .int .i64 (-1)) hRg
            have hgf := draw_set hg4 (g := g) (o := 1) (u := .int .i64 (-1)) hgb
            have HL2 := Lib.hid hL2
            clear hset hL2 ho4 hr4 hg4
            go_wp2_with fail
            go_ret
            exact ⟨_, _, _, L2, by rw [HL2.out, HLX.out]; rfl, by have := HL2.out; have := HLX.out; omega, by rw [HL2.out, HLX.out]; exact hown, by omega, by omega, hrf, hgf⟩
          have d3 : (sw == 3) = false := by simp [hs3]
          clear hs3
          go_wp2_with fail
          go_ret
          exact ⟨_, _, _, L3, by rw [HLX.out]; rfl, by have := HLX.out; omega, by rw [HLX.out]; exact ho4, by omega, by omega, hr4, hg4⟩
      · clear hlt
        by_cases hL3 : 2 < L.length
        · have hlen2 : decide (2 < L.length) = true := decide_eq_true hL3
          have hlen2i : (2 : Int) < (L.length : Int) := by omega
          have b2 := drawF_bd (n := 2) hrd (p := P0) (by omega) (by omega)
          go_wp2_with fail
          refine (pick_any 2 R P0 f _ hrd (by omega) (by omega) (by omega)).mono ?_
          rintro e w3 ⟨rfl, hs3⟩
          have hr3 := hs3.rdr hrd
          have hg3 := hgr.trans hs3.grown
          have ho3 := hs3.own hown hRw
          clear hs3 hrd hgr hown
          generalize f P0 2 = v2 at *
          by_cases hv2 : v2 = 0
          · have d2 : (v2 == 0) = true := by simp [hv2]
            clear hv2
            have bk := drawF_bd (n := (L.length : Int) - 2) hr3 (p := P0 + 1) (by omega) (by omega)
            go_wp2_with fail
            refine (pick_any ((L.length : Int) - 2) R (P0 + 1) f _ hr3 (by omega) (by omega) (by omega)).mono ?_
            rintro e w4 ⟨rfl, hs4⟩
            have hr4 := hs4.rdr hr3
            have hg4 := hg3.trans hs4.grown
            have ho4 := hs4.own ho3 hRw
            clear hs4 hr3 hg3 ho3
            generalize f (P0 + 1) ((L.length : Int) - 2) = v at *
            obtain ⟨bk1, bk2⟩ := bk
            have hi1 : (1 : Int) + v < (L.length : Int) := by omega
            have hi0 : (0 : Int) ≤ 1 + v := by omega
            have hK : (1 + v).toNat < L.length := by omega
            obtain ⟨c0, _, _⟩ := own3_cells ho4 0 (by omega)
            simp only [Nat.zero_mul] at c0
            obtain ⟨ck, _, _⟩ := own3_cells ho4 _ hK
            have f0 := ho4.frozenAt 0
            have fk := ho4.frozenAt ((1 + v).toNat * 3)
            obtain ⟨y0, hy0⟩ : ∃ y, y = L[0].1 := ⟨_, rfl⟩
            obtain ⟨yk, hyk⟩ : ∃ y, y = (L[(1 + v).toNat]).1 := ⟨_, rfl⟩
            rw [← hy0] at c0
            rw [← hyk] at ck
            clear hy0 hyk
            obtain ⟨L2, hL2l, hset⟩ := flat3_set_any L 0 yk (by omega)
            have ho5 := own_write ho4 hset
            have hr5 := hr4.setCell (S := g) (o := 0) (u := .int .i64 yk) hRg
            have hg5 := draw_set hg4 (g := g) (o := 0) (u := .int .i64 yk) hgb
            obtain ⟨L3, hL3l, hset3⟩ := flat3_set_any L2 ((1 + v).toNat * 3) y0 (by omega)
            have ho3 := own_write ho5 hset3
            have hr3 := hr5.setCell (S := g) (o := (1 + v).toNat * 3) (u := .int .i64 y0) hRg
            have hg3 := draw_set hg5 (g := g) (o := (1 + v).toNat * 3) (u := .int .i64 y0) hgb
            have HLX := Lib.hid (show L3.length = L.length by omega)
            clear hL2l hL3l hset hset3 ho5 hr5 hg5 ho4 hr4 hg4
            obtain ⟨P, hP⟩ : ∃ P, P = P0 + 1 + 1 := ⟨_, rfl⟩
            rw [← hP] at hr3
            obtain ⟨c00, c01, c02⟩ := own3_cells ho3 0 (by have := HLX.out; omega)
            obtain ⟨c10, c11, c12⟩ := own3_cells ho3 1 (by have := HLX.out; omega)
            simp only [Nat.zero_mul, Nat.zero_add, Nat.one_mul] at c00 c01 c02 c10 c11 c12
            have fz := ho3.frozenAt
            have fz3 := fz 3
            have fz4 := fz 4
            have fz1 := fz 1
            clear fz
            have hlen1 : decide (1 < L.length) = true := decide_eq_true (by omega)
            have hlen1i : (1 : Int) < (L.length : Int) := by omega
            have b40 := drawF_bd (n := 40) hr3 (p := P) (by omega) (by omega)
            go_wp2_with fail
            refine (pick_any 40 R P f _ hr3 (by omega) (by omega) (by omega)).mono ?_
            rintro e w4 ⟨rfl, hs4⟩
            have hr4 := hs4.rdr hr3
            have hg4 := hg3.trans hs4.grown
            have ho4 := hs4.own ho3 hRw
            have c00 := (hs4.cell hgR).trans c00
            have c01 := (hs4.cell hgR).trans c01
            have c02 := (hs4.cell hgR).trans c02
            have c10 := (hs4.cell hgR).trans c10
            have c11 := (hs4.cell hgR).trans c11
            have c12 := (hs4.cell hgR).trans c12
            have fz3 := hs4.frozen.trans fz3
            have fz4 := hs4.frozen.trans fz4
            have fz1 := hs4.frozen.trans fz1
            generalize f P 40 = sw at *
            generalize L3[0]'(by have := HLX.out; omega) = x0 at *
            generalize L3[1]'(by have := HLX.out; omega) = x1 at *
            clear hs4 ho3 hr3 hg3
            by_cases hs0 : sw = 0
            · have d0 : (sw == 0) = true := by simp [hs0]
              clear hs0
              obtain ⟨L2, hL2, hset⟩ := flat3_set_any L3 3 x0.1 (by have := HLX.out; omega)
              have hown := own_write ho4 hset
              have hrf := hr4.setCell (S := g) (o := 3) (u := .int .i64 x0.1) hRg
              have hgf := draw_set hg4 (g := g) (o := 3) (u := .int .i64 x0.1) hgb
              have HL2 := Lib.hid hL2
              clear hset hL2 ho4 hr4 hg4
              go_wp2_with fail
              go_ret
              exact ⟨_, _, _, L2, by rw [HL2.out, HLX.out]; rfl, by have := HL2.out; have := HLX.out; omega, by rw [HL2.out, HLX.out]; exact hown, by omega, by omega, hrf, hgf⟩
            have d0 : (sw == 0) = false := by simp [hs0]
            clear hs0
            by_cases hs1 : sw = 1
            · have d1 : (sw == 1) = true := by simp [hs1]
              clear hs1
              obtain ⟨L2, hL2, hset⟩ := flat3_set_any L3 4 x0.2.2 (by have := HLX.out; omega)
              have hown := own_write ho4 hset
              have hrf := hr4.setCell (S := g) (o := 4) (u := .int .i64 x0.2.2) hRg
              have hgf := draw_set hg4 (g := g) (o := 4) (u := .int .i64 x0.2.2) hgb
              have HL2 := Lib.hid hL2
              clear hset hL2 ho4 hr4 hg4
              go_wp2_with fail
              go_ret
              exact ⟨_, _, _, L2, by rw [HL2.out, HLX.out]; rfl, by have := HL2.out; have := HLX.out; omega, by rw [HL2.out, HLX.out]; exact hown, by omega, by omega, hrf, hgf⟩
            have d1 : (sw == 1) = false := by simp [hs1]
            clear hs1
            by_cases hs2 : sw = 2
            · have d2 : (sw == 2) = true := by simp [hs2]
              clear hs2
              have hcp := own_cap ho4
              have hown := own_take ho4 (m := 1) (by omega)
              have HT := Lib.hid (flat3_take L3 1)
              have HLT := Lib.hid (show (L3.take 1).length = 1 by have := HLX.out; rw [List.length_take]; omega)
              go_wp2_with fail
              go_ret
              exact ⟨_, _, _, L3.take 1, by rw [HLT.out]; rfl, by have := HLT.out; omega, by rw [HLT.out, ← HT.out]; exact hown, by omega, by omega, hr4, hg4⟩
            have d2 : (sw == 2) = false := by simp [hs2]
            clear hs2
            by_cases hs3 : sw = 3
            · have d3 : (sw == 3) = true := by simp [hs3]
              clear hs3
              obtain ⟨L2, hL2, hset⟩ := flat3_set_any L3 1 (-1) (by have := HLX.out; omega)
              have hown := own_write ho4 hset
              have hrf := hr4.setCell (S := g) (o := 1) (u := .int .i64 (-1)) hRg
              have hgf := draw_set hg4 (g := g) (o := 1) (u := .int .i64 (-1)) hgb
              have HL2 := Lib.hid hL2
              clear hset hL2 ho4 hr4 hg4
              go_wp2_with fail
              go_ret
              exact ⟨_, _, _, L2, by rw [HL2.out, HLX.out]; rfl, by have := HL2.out; have := HLX.out; omega, by rw [HL2.out, HLX.out]; exact hown, by omega, by omega, hrf, hgf⟩
            have d3 : (sw == 3) = false := by simp [hs3]
            clear hs3
            go_wp2_with fail
            go_ret
            exact ⟨_, _, _, L3, by rw [HLX.out]; rfl, by have := HLX.out; omega, by rw [HLX.out]; exact ho4, by omega, by omega, hr4, hg4⟩
          · have d2 : (v2 == 0) = false := by simp [hv2]
            clear hv2
            obtain ⟨P, hP⟩ : ∃ P, P = P0 + 1 := ⟨_, rfl⟩
            rw [← hP] at hr3
            obtain ⟨L3, hL3e⟩ : ∃ L3, L3 = L := ⟨_, rfl⟩
            have HLX := Lib.hid (show L3.length = L.length by rw [hL3e])
            have ho3 : w3.ownsRow w.heap.size 30 3 (.slice (some ⟨g, 0, none⟩) L.length cap) L.length (flat3 L3) := by rw [hL3e]; exact ho3
            clear hL3e
            obtain ⟨c00, c01, c02⟩ := own3_cells ho3 0 (by have := HLX.out; omega)
            obtain ⟨c10, c11, c12⟩ := own3_cells ho3 1 (by have := HLX.out; omega)
            simp only [Nat.zero_mul, Nat.zero_add, Nat.one_mul] at c00 c01 c02 c10 c11 c12
            have fz := ho3.frozenAt
            have fz3 := fz 3
            have fz4 := fz 4
            have fz1 := fz 1
            clear fz
            have hlen1 : decide (1 < L.length) = true := decide_eq_true (by omega)
            have hlen1i : (1 : Int) < (L.length : Int) := by omega
            have b40 := drawF_bd (n := 40) hr3 (p := P) (by omega) (by omega)
            go_wp2_with fail
            refine (pick_any 40 R P f _ hr3 (by omega) (by omega) (by omega)).mono ?_
            rintro e w4 ⟨rfl, hs4⟩
            have hr4 := hs4.rdr hr3
            have hg4 := hg3.trans hs4.grown
            have ho4 := hs4.own ho3 hRw
            have c00 := (hs4.cell hgR).trans c00
            have c01 := (hs4.cell hgR).trans c01
            have c02 := (hs4.cell hgR).trans c02
            have c10 := (hs4.cell hgR).trans c10
            have c11 := (hs4.cell hgR).trans c11
            have c12 := (hs4.cell hgR).trans c12
            have fz3 := hs4.frozen.trans fz3
            have fz4 := hs4.frozen.trans fz4
            have fz1 := hs4.frozen.trans fz1
            generalize f P 40 = sw at *
            generalize L3[0]'(by have := HLX.out; omega) = x0 at *
            generalize L3[1]'(by have := HLX.out; omega) = x1 at *
            clear hs4 ho3 hr3 hg3
            by_cases hs0 : sw = 0
            · have d0 : (sw == 0) = true := by simp [hs0]
              clear hs0
              obtain ⟨L2, hL2, hset⟩ := flat3_set_any L3 3 x0.1 (by have := HLX.out; omega)
              have hown := own_write ho4 hset
              have hrf := hr4.setCell (S := g) (o := 3) (u := .int .i64 x0.1) hRg
              have hgf := draw_set hg4 (g := g) (o := 3) (u := .int .i64 x0.1) hgb
              have HL2 := Lib.hid hL2
              clear hset hL2 ho4 hr4 hg4
              go_wp2_with fail
              go_ret
              exact ⟨_, _, _, L2, by rw [HL2.out, HLX.out]; rfl, by have := HL2.out; have := HLX.out; omega, by rw [HL2.out, HLX.out]; exact hown, by omega, by omega, hrf, hgf⟩
            have d0 : (sw == 0) = false := by simp [hs0]
            clear hs0
            by_cases hs1 : sw = 1
            · have d1 : (sw == 1) = true := by simp [hs1]
              clear hs1
              obtain ⟨L2, hL2, hset⟩ := flat3_set_any L3 4 x0.2.2 (by have := HLX.out; omega)
              have hown := own_write ho4 hset
              have hrf := hr4.setCell (S := g) (o := 4) (u := .int .i64 x0.2.2) hRg
              have hgf := draw_set hg4 (g := g) (o := 4) (u := .int .i64 x0.2.2) hgb
              have HL2 := Lib.hid hL2
              clear hset hL2 ho4 hr4 hg4
              go_wp2_with fail
              go_ret
              exact ⟨_, _, _, L2, by rw [HL2.out, HLX.out]; rfl, by have := HL2.out; have := HLX.out; omega, by rw [HL2.out, HLX.out]; exact hown, by omega, by omega, hrf, hgf⟩
            have d1 : (sw == 1) = false := by simp [hs1]
            clear hs1
            by_cases hs2 : sw = 2
            · have d2 : (sw == 2) = true := by simp [hs2]
              clear hs2
              have hcp := own_cap ho4
              have hown := own_take ho4 (m := 1) (by omega)
              have HT := Lib.hid (flat3_take L3 1)
              have HLT := Lib.hid (show (L3.take 1).length = 1 by have := HLX.out; rw [List.length_take]; omega)
              go_wp2_with fail
              go_ret
              exact ⟨_, _, _, L3.take 1, by rw [HLT.out]; rfl, by have := HLT.out; omega, by rw [HLT.out, ← HT.out]; exact hown, by omega, by omega, hr4, hg4⟩
            have d2 : (sw == 2) = false := by simp [hs2]
            clear hs2
            by_cases hs3 : sw = 3
            · have d3 : (sw == 3) = true := by simp [hs3]
              clear hs3
              obtain ⟨L2, hL2, hset⟩ := flat3_set_any L3 1 (-1) (by have := HLX.out; omega)
              have hown := own_write ho4 hset
              have hrf := hr4.setCell (S := g) (o := 1) (u := .int .i64 (-1)) hRg
              have hgf := draw_set hg4 (g := g) (o := 1) (u := .int .i64 (-1)) hgb
              have HL2 := Lib.hid hL2
              clear hset hL2 ho4 hr4 hg4
              go_wp2_with fail
              go_ret
              exact ⟨_, _, _, L2, by rw [HL2.out, HLX.out]; rfl, by have := HL2.out; have := HLX.out; omega, by rw [HL2.out, HLX.out]; exact hown, by omega, by omega, hrf, hgf⟩
            have d3 : (sw == 3) = false := by simp [hs3]
            clear hs3
            go_wp2_with fail
            go_ret
            exact ⟨_, _, _, L3, by rw [HLX.out]; rfl, by have := HLX.out; omega, by rw [HLX.out]; exact ho4, by omega, by omega, hr4, hg4⟩
        · have hlen2 : decide (2 < L.length) = false := decide_eq_false hL3
          have hlen2i : ¬ (2 : Int) < (L.length : Int) := by omega
          obtain ⟨P, hP⟩ : ∃ P, P = P0 := ⟨_, rfl⟩
          rw [← hP] at hrd
          have hr3 := hrd
          have hg3 := hgr
          have ho3 := hown
          obtain ⟨w3, rfl⟩ : ∃ w3, w3 = wr := ⟨_, rfl⟩
          clear hrd hgr hown
          obtain ⟨L3, hL3e⟩ : ∃ L3, L3 = L := ⟨_, rfl⟩
          have HLX := Lib.hid (show L3.length = L.length by rw [hL3e])
          have ho3 : w3.ownsRow w.heap.size 30 3 (.slice (some ⟨g, 0, none⟩) L.length cap) L.length (flat3 L3) := by rw [hL3e]; exact ho3
          clear hL3e
          obtain ⟨c00, c01, c02⟩ := own3_cells ho3 0 (by have := HLX.out; omega)
          obtain ⟨c10, c11, c12⟩ := own3_cells ho3 1 (by have := HLX.out; omega)
          simp only [Nat.zero_mul, Nat.zero_add, Nat.one_mul] at c00 c01 c02 c10 c11 c12
          have fz := ho3.frozenAt
          have fz3 := fz 3
          have fz4 := fz 4
          have fz1 := fz 1
          clear fz
          have hlen1 : decide (1 < L.length) = true := decide_eq_true (by omega)
          have hlen1i : (1 : Int) < (L.length : Int) := by omega
          have b40 := drawF_bd (n := 40) hr3 (p := P) (by omega) (by omega)
          go_wp2_with fail
          refine (pick_any 40 R P f _ hr3 (by omega) (by omega) (by omega)).mono ?_
          rintro e w4 ⟨rfl, hs4⟩
          have hr4 := hs4.rdr hr3
          have hg4 := hg3.trans hs4.grown
          have ho4 := hs4.own ho3 hRw
          have c00 := (hs4.cell hgR).trans c00
          have c01 := (hs4.cell hgR).trans c01
          have c02 := (hs4.cell hgR).trans c02
          have c10 := (hs4.cell hgR).trans c10
          have c11 := (hs4.cell hgR).trans c11
          have c12 := (hs4.cell hgR).trans c12
          have fz3 := hs4.frozen.trans fz3
          have fz4 := hs4.frozen.trans fz4
          have fz1 := hs4.frozen.trans fz1
          generalize f P 40 = sw at *
          generalize L3[0]'(by have := HLX.out; omega) = x0 at *
          generalize L3[1]'(by have := HLX.out; omega) = x1 at *
          clear hs4 ho3 hr3 hg3
          by_cases hs0 : sw = 0
          · have d0 : (sw == 0) = true := by simp [hs0]
            clear hs0
            obtain ⟨L2, hL2, hset⟩ := flat3_set_any L3 3 x0.1 (by have := HLX.out; omega)
            have hown := own_write ho4 hset
            have hrf := hr4.setCell (S := g) (o := 3) (u := .int .i64 x0.1) hRg
            have hgf := draw_set hg4 (g := g) (o := 3) (u := .int .i64 x0.1) hgb
            have HL2 := Lib.hid hL2
            clear hset hL2 ho4 hr4 hg4
            go_wp2_with fail
            go_ret
            exact ⟨_, _, _, L2, by rw [HL2.out, HLX.out]; rfl, by have := HL2.out; have := HLX.out; omega, by rw [HL2.out, HLX.out]; exact hown, by omega, by omega, hrf, hgf⟩
          have d0 : (sw == 0) = false := by simp [hs0]
          clear hs0
          by_cases hs1 : sw = 1
          · have d1 : (sw == 1) = true := by simp [hs1]
            clear hs1
            obtain ⟨L2, hL2, hset⟩ := flat3_set_any L3 4 x0.2.2 (by have := HLX.out; omega)
            have hown := own_write ho4 hset
            have hrf := hr4.setCell (S := g) (o := 4) (u := .int .i64 x0.2.2) hRg
            have hgf := draw_set hg4 (g := g) (o := 4) (u := .int .i64 x0.2.2) hgb
            have HL2 := Lib.hid hL2
            clear hset hL2 ho4 hr4 hg4
            go_wp2_with fail
            go_ret
            exact ⟨_, _, _, L2, by rw [HL2.out, HLX.out]; rfl, by have := HL2.out; have := HLX.out; omega, by rw [HL2.out, HLX.out]; exact hown, by omega, by omega, hrf, hgf⟩
          have d1 : (sw == 1) = false := by simp [hs1]
          clear hs1
          by_cases hs2 : sw = 2
          · have d2 : (sw == 2) = true := by simp [hs2]
            clear hs2
            have hcp := own_cap ho4
            have hown := own_take ho4 (m := 1) (by omega)
            have HT := Lib.hid (flat3_take L3 1)
            have HLT := Lib.hid (show (L3.take 1).length = 1 by have := HLX.out; rw [List.length_take]; omega)
            go_wp2_with fail
            go_ret
            exact ⟨_, _, _, L3.take 1, by rw [HLT.out]; rfl, by have := HLT.out; omega, by rw [HLT.out, ← HT.out]; exact hown, by omega, by omega, hr4, hg4⟩
          have d2 : (sw == 2) = false := by simp [hs2]
          clear hs2
          by_cases hs3 : sw = 3
          · have d3 : (sw == 3) = true := by simp [hs3]
            clear hs3
            obtain ⟨L2, hL2, hset⟩ := flat3_set_any L3 1 (-1) (by have := HLX.out; omega)
            have hown := own_write ho4 hset
            have hrf := hr4.setCell (S := g) (o := 1) (u := .int .i64 (-1)) hRg
            have hgf := draw_set hg4 (g := g) (o := 1) (u := .int .i64 (-1)) hgb
            have HL2 := Lib.hid hL2
            clear hset hL2 ho4 hr4 hg4
            go_wp2_with fail
            go_ret
            exact ⟨_, _, _, L2, by rw [HL2.out, HLX.out]; rfl, by have := HL2.out; have := HLX.out; omega, by rw [HL2.out, HLX.out]; exact hown, by omega, by omega, hrf, hgf⟩
          have d3 : (sw == 3) = false := by simp [hs3]
          clear hs3
          go_wp2_with fail
          go_ret
          exact ⟨_, _, _, L3, by rw [HLX.out]; rfl, by have := HLX.out; omega, by rw [HLX.out]; exact ho4, by omega, by omega, hr4, hg4⟩

end Go.Proofs.Ytdiichfdffhdaaa

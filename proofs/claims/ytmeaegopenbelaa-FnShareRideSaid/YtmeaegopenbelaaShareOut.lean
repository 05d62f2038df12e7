/-
  The program shares an amount: shareOut.
-/
import Derived.Test.YtmeaegopenbelaaSort
namespace Go.Proofs.Ytmeaegopenbelaa
open Go.RowKit

/-- The three boxes. -/
structure Bx (w0 w : World) (A : Option Addr) (c : Nat) (a S : Int) : Prop where
  b0 : w.cell? ⟨w0.heap.size, 0, none⟩ = some (.slice A 6 c)
  b1 : w.cell? ⟨w0.heap.size + 1, 0, none⟩ = some (.int .i64 a)
  b2 : w.cell? ⟨w0.heap.size + 1 + 1, 0, none⟩ = some (.int .i64 S)
  lo : Below w0.heap.size w0 w
  sz : w0.heap.size + 3 ≤ w.heap.size
theorem Bx.below {w0 w w' : World} {A : Option Addr} {c : Nat} {a S : Int} (h : Bx w0 w A c a S) (hb : Below w.heap.size w w') : Bx w0 w' A c a S := by
  have h0 := h.sz
  have h1 := hb.size
  exact ⟨(hb.cell (p := ⟨w0.heap.size, 0, none⟩) (show w0.heap.size < _ by omega)).trans h.b0, (hb.cell (p := ⟨w0.heap.size + 1, 0, none⟩) (show w0.heap.size + 1 < _ by omega)).trans h.b1, (hb.cell (p := ⟨w0.heap.size + 1 + 1, 0, none⟩) (show w0.heap.size + 1 + 1 < _ by omega)).trans h.b2,
    h.lo.trans (hb.mono (by omega)), by omega⟩
theorem Bx.set {w0 w : World} {A : Option Addr} {c : Nat} {a S : Int} (h : Bx w0 w A c a S) {g : Nat} (hg : w0.heap.size + 3 ≤ g) (o : Nat) (u : Value) : Bx w0 (w.setCell ⟨g, o, none⟩ u) A c a S :=
  ⟨(cell_set_ne (.inl (by omega))).trans h.b0, (cell_set_ne (.inl (by omega))).trans h.b1, (cell_set_ne (.inl (by omega))).trans h.b2, h.lo.setCell (p := ⟨g, o, none⟩) (show w0.heap.size ≤ g by omega) u, by simpa using h.sz⟩
theorem Bx.drew {w0 w : World} {A : Option Addr} {c : Nat} {a S : Int} (h : Bx w0 w A c a S) : Bx w0 w.drew A c a S := ⟨h.b0, h.b1, h.b2, h.lo.drew, h.sz⟩
theorem Bx.drewN {w0 w : World} {A : Option Addr} {c : Nat} {a S : Int} (h : Bx w0 w A c a S) (q : Nat) : Bx w0 (w.drewN q) A c a S := ⟨h.b0, h.b1, h.b2, below_drewN h.lo q, h.sz⟩
theorem Bx.grown {w0 w w' : World} {A : Option Addr} {c : Nat} {a S : Int} (h : Bx w0 w A c a S) {g : Nat} (hg : w0.heap.size + 3 ≤ g) (hgr : w.grownBy w' (some g)) : Bx w0 w' A c a S := by
  have h0 := h.sz
  have key : ∀ b o, b < w0.heap.size + 3 → w'.cell? ⟨b, o, none⟩ = w.cell? ⟨b, o, none⟩ := fun b o hb => World.cell?_of_block (hgr.block b (by omega) (fun e => by injection e with e; omega))
  exact ⟨(key _ _ (by omega)).trans h.b0, (key _ _ (by omega)).trans h.b1, (key _ _ (by omega)).trans h.b2, h.lo.grown hgr (by omega) (fun k e => by injection e with e; omega), Nat.le_trans h.sz hgr.size⟩
theorem gset_len (k : Nat) (q : List Int) (hq : q.length = k) (hk : k ≤ 6) : (q ++ List.replicate (6 - k) (0 : Int)).length = 6 := by simp [hq]; omega
theorem gset_step {k : Nat} {q : List Int} (hq : q.length = k) (hk : k < 6) (x : Int) : (q ++ List.replicate (6 - k) (0 : Int)).set k x = (q ++ [x]) ++ List.replicate (6 - (k + 1)) 0 := by
  rw [List.set_append_right _ _ (by omega), hq, Nat.sub_self, show 6 - k = (6 - (k + 1)) + 1 by omega, List.replicate_succ, List.set_cons_zero, List.append_assoc]
  rfl
theorem upN_succ (k : Nat) : ((List.range (k + 1)).map fun (i : Nat) => (i : Int)) = ((List.range k).map fun (i : Nat) => (i : Int)) ++ [(k : Int)] := by
  rw [List.range_succ, List.map_append]; rfl
theorem restL_zero : restL 0 = (List.range 6).map fun (i : Nat) => (i : Int) := by rfl
set_option maxRecDepth 100000 in
set_option maxHeartbeats 8000000 in
theorem shareOut_any (A : Option Addr) (c lo hi : Nat) (m : List Int) (a : Int) (w : World) (hm6 : m.length = 6) (hm : ∀ x ∈ m, 0 ≤ x ∧ x ≤ 1188) (hp : 0 < sumI m) (ha : 0 ≤ a ∧ a ≤ 1000000) (hr : Rd w lo hi A (ints m)) (hh : hi ≤ w.heap.size) :
    Calls Try.prog 37 #[.slice A 6 c, .int .i64 a] w (RetI 3 (shareL m a) w) := by
  obtain ⟨i0, hi0, hz0, hz1, hz2⟩ := info_parts infoInt
  have hc1 : i0.bytes * 6 ≤ 281474976710656 := by rw [hz2]; omega
  have hSb : sumI m ≤ 7128 := by
    have := Go.Proofs.Ytmeaegopenbelaa.sum_le (L := m) (B := 1188) fun x hx => (hm x hx).2
    rw [hm6] at this; omega
  have hsn := sum_nn fun x hx => (hm x hx).1
  have HM := Lib.hid hm
  have HY := Lib.hid hsn.2
  have HLR := Lib.hid (left_range (a := a) hp)
  have HP := Lib.hid hp
  have HM6 := Lib.hid hm6
  have HA := Lib.hid ha
  obtain ⟨ha0, ha1⟩ := ha
  have HTK := Lib.hid (fun k (h : k < m.length) => sumI_take_succ m k h)
  have HRD := Lib.hid (fun wq (hq : Below w.heap.size w wq) => hr.below hq hh)
  have HBD := Lib.hid (fun k (hk : k ≤ m.length) => sumI_take_bd m 1188 k (fun x hx => by have := hm x hx; omega) hk)
  have HFULL := Lib.hid (show sumI (m.take 6) = sumI m by rw [List.take_of_length_le (by omega)])
  clear hm hsn hm6 hr
  go_enter Try.func37, Try.ntmps37
  go_wp2_with fail
  go_loopw [7, 17] (fun _ i wr => ∃ k : Nat, k ≤ 6 ∧ i = .int .i64 k ∧ Bx w wr A c a (sumI (m.take k)) ∧ wr.frozen? ⟨w.heap.size + 1 + 1, 0, none⟩ = false) (fun _ i _ => 6 - (intOf i).toNat)
  case atStart =>
    refine ⟨0, by omega, rfl, ⟨by simp [go_sem], by simp [go_sem], by simp [go_sem, sumI], below_alloc (below_alloc (below_alloc (Below.refl _ _) _) _) _, by simp⟩, by simp [go_sem]⟩
  case round =>
    obtain ⟨k, hk, rfl, hx, hf⟩ := hrel
    by_cases hlt : k < 6
    · have hkm : k < m.length := by have := HM6.out; omega
      obtain ⟨b, off, rfl, _, hbh, c0⟩ := (HRD.out wr hx.lo).at1 k hkm
      have hy := HM.out m[k] (List.getElem_mem hkm)
      have hst := HTK.out k hkm
      have hbd := HBD.out k (by omega)
      generalize m[k] = y at *
      generalize sumI (m.take k) = s at *
      obtain ⟨hy0, hy1⟩ := hy
      have hs0 : -8000 ≤ s := by omega
      have hs1 : s ≤ 8000 := by omega
      have HST := Lib.hid hst
      clear hst hbd
      have q0 := hx.b0
      have q2 := hx.b2
      have qs := hx.sz
      have hX := Lib.hid hx
      clear hx hkm
      go_wp2_with fail
      go_roundw
      case rel =>
        refine ⟨k + 1, by omega, by go_num, ?_, by rw [World.frozen?_setCell]; exact hf⟩
        rw [HST.out]
        exact ⟨(cell_set_ne (.inl (by omega))).trans hX.out.b0, (cell_set_ne (.inl (by omega))).trans hX.out.b1, cell_set_same hX.out.b2, hX.out.lo.setCell (p := ⟨w.heap.size + 1 + 1, 0, none⟩) (show w.heap.size ≤ w.heap.size + 1 + 1 by omega) _, by simpa using hX.out.sz⟩
      case measure => simp [intOf]; omega
    · obtain rfl : k = 6 := by omega
      rw [HFULL.out] at hx
      obtain ⟨S, hS⟩ : ∃ S, S = sumI m := ⟨_, rfl⟩
      rw [← hS] at hx
      have HS := Lib.hid hS
      have hX := Lib.hid hx
      have q0 := hx.b0
      have q1 := hx.b1
      have qs := hx.sz
      rw [← hS] at hSb hp
      clear hx hS hf
      have tok1 := True.intro
      have hb0s : w.heap.size ≤ wr.heap.size := by omega
      go_wp2_with (first | (at_make; have _t := tok1; go_must (refine wpList_make_full _ rfl _ _ 26 rfl w.heap.size 3 i0 _ 1 Try.underlying26 hi0 hz0 hz1 _ _ _ _ 6 rfl rfl rfl rfl hc1 (by simp [maxLen]) hb0s ?_); intro w2 hown2 hg2; have hbm2 := (Below.refl wr.heap.size wr).grown hg2 (Nat.le_refl _) (by simp); have hX2 := Lib.hid (hX.out.below hbm2); have r0 := hX2.out.b0; have r1 := hX2.out.b1; have rs := hX2.out.sz; have hz2s : wr.heap.size < w2.heap.size := (own_lt hown2).2; have hb2s : w.heap.size ≤ w2.heap.size := (by omega); clear q0 q1 hX hg2 tok1 _t) | (at_make; go_must (refine wpList_make_full _ rfl _ _ 26 rfl w.heap.size 3 i0 _ 1 Try.underlying26 hi0 hz0 hz1 _ _ _ _ 6 rfl rfl rfl rfl hc1 (by simp [maxLen]) hb2s ?_); intro w3 hown3 hg3; have hbm3 := (Below.refl w2.heap.size w2).grown hg3 (Nat.le_refl _) (by simp); have hX3 := Lib.hid (hX2.out.below hbm3); have hown23 := own_below hown2 hbm3; have t0 := hX3.out.b0; have t1 := hX3.out.b1; have ts := hX3.out.sz; have hz3s : w2.heap.size < w3.heap.size := (own_lt hown3).2; clear r0 r1 hX2 hg3 hown2))
      have hG1 : w.heap.size + 3 ≤ wr.heap.size := qs
      obtain ⟨G1, hG1e⟩ : ∃ G1, G1 = wr.heap.size := ⟨_, rfl⟩
      obtain ⟨G2, hG2e⟩ : ∃ G2, G2 = w2.heap.size := ⟨_, rfl⟩
      rw [← hG1e] at hown23 hG1 hz2s ⊢
      rw [← hG2e] at hown3 hz2s hz3s ⊢
      rw [made1] at hown23 hown3
      have HSH := Lib.hid (show w3.ownsRow w.heap.size 3 1 (.slice (some ⟨G1, 0, none⟩) 6 6) 6 (ints (quoL (m.take 0) a S ++ List.replicate (6 - 0) 0)) by simpa [quoL] using hown23)
      have HOR := Lib.hid (show w3.ownsRow w.heap.size 3 1 (.slice (some ⟨G2, 0, none⟩) 6 6) 6 (ints (((List.range 0).map fun (i : Nat) => (i : Int)) ++ List.replicate (6 - 0) 0)) by simpa using hown3)
      have HQ0 := Lib.hid (show a - sumI (quoL (m.take 0) a S) = a from by simp [quoL, sumI])
      have HQB := Lib.hid (show ∀ k, k ≤ 6 → 0 ≤ sumI (quoL (m.take k) a S) ∧ sumI (quoL (m.take k) a S) ≤ 6000000 from fun k hk => by
        have hb := sumI_bd (quoL (m.take k) a S) 1000000 (fun j hj => by
          have := List.getElem_mem hj
          obtain ⟨y, hy, e⟩ := List.mem_map.1 this
          rw [← e]
          have hym := List.mem_of_mem_take hy
          have := share_num HA.out (HM.out y hym) (by rw [HS.out]; exact HY.out y hym) ⟨hp, hSb⟩
          omega)
        have hl : (quoL (m.take k) a S).length ≤ 6 := by simp [quoL]; omega
        omega)
      have hne : G1 ≠ G2 := by omega
      clear hown23 hown3 hbm2 hbm3 hG1e hG2e qs ts
      go_loopw [10, 11, 12, 34] (fun lv _ _ i wv => ∃ k : Nat, k ≤ 6 ∧ i = .int .i64 k ∧ lv = .int .i64 (a - sumI (quoL (m.take k) a S)) ∧ Hid (wv.ownsRow w.heap.size 3 1 (.slice (some ⟨G1, 0, none⟩) 6 6) 6 (ints (quoL (m.take k) a S ++ List.replicate (6 - k) 0))) ∧ Hid (wv.ownsRow w.heap.size 3 1 (.slice (some ⟨G2, 0, none⟩) 6 6) 6 (ints (((List.range k).map fun (i : Nat) => (i : Int)) ++ List.replicate (6 - k) 0))) ∧ Hid (Bx w wv A c a S)) (fun _ _ _ i _ => 6 - (intOf i).toNat)
      case atStart => exact ⟨0, by omega, rfl, by rw [HQ0.out], HSH, HOR, hX3⟩
      case round =>
        obtain ⟨k, hk, rfl, rfl, HSH', HOR', HX⟩ := hrel
        clear HSH HOR hX3 t0 t1
        have hQ := HQB.out k hk
        by_cases hlt : k < 6
        · have hkm : k < m.length := by have := HM6.out; omega
          obtain ⟨b, off, rfl, _, hbh, c0⟩ := (HRD.out wr HX.out.lo).at1 k hkm
          have hy := HM.out m[k] (List.getElem_mem hkm)
          have hyS := HY.out m[k] (List.getElem_mem hkm)
          rw [← HS.out] at hyS
          have hso := quo_take (a := a) (all := S) hkm
          have hql : (quoL (m.take k) a S).length = k := by simp [quoL]; omega
          have hrl : ((List.range k).map fun (i : Nat) => (i : Int)).length = k := by simp
          generalize m[k] = y at *
          obtain ⟨n0, n1, n2, n3, n4, n5, n6, n7⟩ := share_num HA.out hy hyS ⟨hp, hSb⟩
          obtain ⟨hy0, hy1⟩ := hy
          generalize a * y / S = q at *
          have hsum : sumI (quoL (m.take (k + 1)) a S) = sumI (quoL (m.take k) a S) + q := by rw [hso, sumI_snoc]
          generalize sumI (quoL (m.take k) a S) = sq at *
          have hsh := HSH'.out
          have hor := HOR'.out
          have d0 := own1_cell hsh k (by rw [gset_len k _ hql (by omega)]; exact hlt)
          have d1 := own1_cell hor k (by rw [gset_len k _ hrl (by omega)]; exact hlt)
          have f0 := hsh.frozenAt k
          have f1 := hor.frozenAt k
          generalize (quoL (m.take k) a S ++ List.replicate (6 - k) (0 : Int))[k]'(by rw [gset_len k _ hql (by omega)]; exact hlt) = z0 at *
          generalize (((List.range k).map fun (i : Nat) => (i : Int)) ++ List.replicate (6 - k) (0 : Int))[k]'(by rw [gset_len k _ hrl (by omega)]; exact hlt) = z1 at *
          have hst0 := own1_store hsh k q
          rw [gset_step hql hlt, ← hso] at hst0
          have hst1 := own1_store hor k (k : Int)
          rw [gset_step hrl hlt, ← upN_succ] at hst1
          have HS0 := Lib.hid (own_setCell (o := k) (u := .int .i64 (k : Int)) hst0 hne)
          have hor2 := own_setCell (o := k) (u := .int .i64 q) hor (Ne.symm hne)
          have hst2 := own1_store hor2 k (k : Int)
          rw [gset_step hrl hlt, ← upN_succ] at hst2
          have HS1 := Lib.hid hst2
          have HX2 := Lib.hid ((HX.out.set (g := G1) hG1 k (.int .i64 q)).set (g := G2) (by omega) k (.int .i64 (k : Int)))
          have HSUM := Lib.hid hsum
          have q1 := HX.out.b1
          have q2 := HX.out.b2
          have hgw := (own_lt hsh).2
          have hgw2 := (own_lt hor).2
          have wp : wrap64 (a * y) = a * y := IntWalk.wrap64_in _ (by omega)
          have hz : (S == 0) = false := by rw [beq_eq_false_iff_ne]; omega
          have hk0 : (0 : Int) ≤ (k : Int) := by omega
          have hk6 : (k : Int) < 6 := by omega
          obtain ⟨hQ0, hQ1⟩ := hQ
          have hne' : G2 ≠ G1 := Ne.symm hne
          clear hsh hor hst0 hst1 hor2 hst2 hso hsum hql hrl HSH' HOR' hkm
          go_wp2_with fail
          go_roundw
          case rel => exact ⟨k + 1, by omega, by go_num, by rw [HSUM.out]; congr 1; omega, HS0, HS1, HX2⟩
          case measure => simp [intOf]; omega
        · obtain rfl : k = 6 := by omega
          have hqf : quoL (m.take 6) a S = quoL m a S := by rw [List.take_of_length_le (by have := HM6.out; omega)]
          rw [hqf] at HSH' hQ ⊢
          have HLV := Lib.hid (show a - sumI (quoL m a S) = leftV m a by rw [HS.out]; rfl)
          obtain ⟨hlr1, hlr2, hlr3, _⟩ := HLR.out
          have hl6 : leftV m a ≤ 6 := by have := HM6.out; omega
          obtain ⟨t, ht⟩ : ∃ t : Nat, t = (leftV m a).toNat := ⟨_, rfl⟩
          have ht6 : t ≤ 6 := by omega
          have hte : a - sumI (quoL m a S) = (t : Int) := by rw [HLV.out]; omega
          rw [hte]
          have HTE := Lib.hid (show (t : Int) = leftV m a by omega)
          have hok : ShOk m a S := ⟨HM6.out, HM.out, fun x hx => by rw [HS.out]; exact HY.out x hx, hp, hSb, ha0, ha1⟩
          have hsw : ShW wr G2 (w.heap.size + 1) w.heap.size (w.heap.size + 1 + 1) lo hi c A m a S :=
            ⟨HX.out.b1, by have := HX.out.b0; rw [HM6.out]; exact this, HX.out.b2, HRD.out wr HX.out.lo, by omega, by omega, by omega, .inr (by omega)⟩
          have hord : ordRow w.heap.size G2 6 (restL 0) wr := by
            have h := HOR'.out
            rw [show (6 : Nat) - 6 = 0 from rfl, List.replicate_zero, List.append_nil] at h
            exact h
          have HSRT := Lib.hid (sortStable_any wr hok hsw hord)
          have HQ6 := Lib.hid (show (quoL m a S).length = 6 by simp [quoL, HM6.out])
          have hqf6 := HSH'.out
          rw [show (6 : Nat) - 6 = 0 from rfl, List.replicate_zero, List.append_nil] at hqf6
          have HSHF := Lib.hid hqf6
          clear hqf hlr1 hlr2 hlr3 hl6 ht hte hok hsw hord hQ hqf6 HSH' HOR'
          go_wp2_with fail
          refine HSRT.out.mono ?_
          rintro e w5 ⟨⟨v, rfl⟩, P, h1, h2, h3⟩
          have HPS := Lib.hid h1
          have HSH5 := Lib.hid (own_ne (g' := G2) (m := 0) (c' := 0) HSHF.out h3 hne)
          have HX5 := Lib.hid (HX.out.grown (g := G2) (by omega) h3)
          have HORD5 := Lib.hid h2
          have HQE := Lib.hid (fun b (hb : b < (quoL m a S).length) => show 0 ≤ (quoL m a S).getD b 0 ∧ (quoL m a S).getD b 0 ≤ 1000000 by
            rw [List.getD_eq_getElem?_getD, List.getElem?_eq_getElem hb]
            obtain ⟨y, hy, e⟩ := List.mem_map.1 (List.getElem_mem hb)
            show 0 ≤ (quoL m a S)[b] ∧ (quoL m a S)[b] ≤ 1000000
            rw [← e]
            have := share_num HA.out (HM.out y hy) (by rw [HS.out]; exact HY.out y hy) ⟨hp, hSb⟩
            omega)
          have HR0 := Lib.hid (show quoL m a S = raise (quoL m a S) (P.take 0) by rw [List.take_zero, raise_nil])
          clear h1 h2 h3 HSRT HSHF HX
          have htl : ((t : Int)).toNat = t := by omega
          have htc : (t : Int) ≤ 6 := by omega
          have ht0 : (0 : Int) ≤ (t : Int) := by omega
          go_wp2_with fail
          go_loopw [14, 65] (fun _ i wv => ∃ k : Nat, k ≤ t ∧ i = .int .i64 k ∧ Hid (wv.ownsRow w.heap.size 3 1 (.slice (some ⟨G1, 0, none⟩) 6 6) 6 (ints (raise (quoL m a S) (P.take k)))) ∧ Hid (ordRow w.heap.size G2 6 P wv) ∧ Below w.heap.size w wv) (fun _ i _ => t - (intOf i).toNat)
          case atStart => exact ⟨0, by omega, rfl, by rw [← HR0.out]; exact HSH5, HORD5, HX5.out.lo⟩
          case round =>
            obtain ⟨k, hk, rfl, HS6, HO6, hb6⟩ := hrel
            clear HSH5 HORD5 HX5
            by_cases hlt : k < t
            · have hkP : k < P.length := by have := HPS.out.2.1; omega
              have d0 := own1_cell HO6.out k hkP
              have hx := HPS.out.2.2 P[k] (List.getElem_mem hkP)
              have hnd : P.Nodup := HPS.out.1.imp (fun h e => by subst e; exact bef_not h h)
              have hni : P[k] ∉ P.take k := by
                intro hin
                obtain ⟨i, hi, e⟩ := List.getElem_of_mem hin
                rw [List.length_take] at hi
                rw [List.getElem_take] at e
                have := (List.pairwise_iff_getElem.1 hnd) i k (by omega) hkP (by omega)
                exact this e
              have hts := List.take_succ_eq_append_getElem hkP
              generalize P[k] = x at *
              obtain ⟨x0, x1⟩ := hx
              have hxq : x.toNat < (quoL m a S).length := by have := HQ6.out; omega
              have hxr : x.toNat < (raise (quoL m a S) (P.take k)).length := by rw [raise_len]; exact hxq
              have hxe : ((x.toNat : Nat) : Int) = x := by omega
              have hni2 : ((x.toNat : Nat) : Int) ∉ P.take k := by rw [hxe]; exact hni
              have hrs := raise_set hxq hni2
              have hrg := raise_get hxq (S := P.take k)
              rw [if_neg hni2, Int.add_zero] at hrg
              have hqb := HQE.out x.toNat hxq
              rw [← hrg] at hqb
              have d1 := own1_cell HS6.out x.toNat hxr
              have f1 := HS6.out.frozenAt x.toNat
              have hge : (raise (quoL m a S) (P.take k)).getD x.toNat 0 = (raise (quoL m a S) (P.take k))[x.toNat] := by rw [List.getD_eq_getElem?_getD, List.getElem?_eq_getElem hxr]; rfl
              rw [hge] at hrs hqb
              have hst := own1_store HS6.out x.toNat ((raise (quoL m a S) (P.take k))[x.toNat] + 1)
              have hrs2 := hrs.trans (raise_same (q := quoL m a S) (S' := P.take (k + 1)) (fun i => by
                rw [hts, hxe, List.mem_cons, List.mem_append, List.mem_singleton]
                exact ⟨fun h => h.elim .inr .inl, fun h => h.elim .inr .inl⟩))
              rw [hrs2] at hst
              have HST := Lib.hid hst
              have HO7 := Lib.hid (show ordRow w.heap.size G2 6 P (wr.setCell ⟨G1, x.toNat, none⟩ (.int .i64 ((raise (quoL m a S) (P.take k))[x.toNat] + 1))) from own_setCell HO6.out (Ne.symm hne))
              have hb7 := hb6.setCell (p := ⟨G1, x.toNat, none⟩) (show w.heap.size ≤ G1 by omega) (.int .i64 ((raise (quoL m a S) (P.take k))[x.toNat] + 1))
              have hgw := (own_lt HS6.out).2
              have hgw2 := (own_lt HO6.out).2
              clear hst hrs hrs2 hge hrg hts hnd hni hni2 hxe
              generalize (raise (quoL m a S) (P.take k))[x.toNat] = z at *
              clear hxr hxq
              obtain ⟨hz0, hz1⟩ := hqb
              have hk0 : (0 : Int) ≤ (k : Int) := by omega
              have hkt : (k : Int) < (t : Int) := by omega
              have x16 : x < 6 := by omega
              clear HS6 HO6 hkP hb6
              go_wp2_with fail
              go_roundw
              case rel => exact ⟨k + 1, by omega, by go_num, HST, HO7, hb7⟩
              case measure => simp [intOf]; omega
            · obtain rfl : k = t := by omega
              have hres : shareL m a = raise (quoL m a S) (P.take k) := by
                have hpS : 0 < sumI m := HP.out
                have h1 := HPS.out
                rw [HS.out] at h1 ⊢
                refine (share_is hpS (sorted_top h1.1 (fun i hi => ?_) ?_ k) ?_).symm
                · have := h1.2.2 i hi; simp [resL, HM6.out]; omega
                · rw [h1.2.1]; simp [resL, HM6.out]
                · rw [List.length_take, h1.2.1, Nat.min_eq_left ht6]; exact HTE.out
              have e6 : (shareL m a).length = 6 := by rw [hres, raise_len]; exact HQ6.out
              have HR := Lib.hid hres
              have HE6 := Lib.hid e6
              clear hres e6
              go_wp2_with fail
              go_ret
              exact ⟨some ⟨G1, 0, none⟩, 6, by rw [HE6.out]; rfl, by rw [HE6.out, HR.out]; exact HS6.out, hb6⟩

end Go.Proofs.Ytmeaegopenbelaa

/-
  The reference's functions on roads in parts: PartsValid, l5Miles, l5Sum, PartsLength, l5Owners, l5Stretch.
-/
import Derived.Test.YtmeaegopenbelaaPartsMath
import Derived.Test.YtmeaegopenbelaaInts
import Derived.Test.YtmeaegopenbelaaLawFns
import Derived.Test.YtmeaegopenbelaaApp
import Derived.BigRegion
namespace Go.Proofs.Ytmeaegopenbelaa
open Go.RowKit

set_option maxHeartbeats 1000000 in
theorem sPartsValid_any (A : Option Addr) (c lo hi : Nat) (ps : List T2) (w : World) (hl : ps.length ≤ 1048576) (hr : Rd w lo hi A (flat2 ps)) :
    Calls Try.prog 38 #[.slice A ps.length c] w fun e w' => e = .returned (.bool (partsB ps)) ∧ w = w' := by
  go_enter Try.func38, Try.ntmps38
  go_wp2
  go_loop [3] (fun i => ∃ k : Nat, k ≤ ps.length ∧ i = .int .i64 k ∧ Hid ((ps.take k).all partOk = true)) (fun i => ps.length - (intOf i).toNat)
  case atStart => exact ⟨0, Nat.zero_le _, rfl, by simp [Hid]⟩
  case round =>
    obtain ⟨k, hk, rfl, H⟩ := hrel
    by_cases hlt : k < ps.length
    · obtain ⟨b, off, rfl, hlo, hhi, c0, c1⟩ := hr.at2 k hlt
      have HN := Lib.hid (show (ps.take (k + 1)).all partOk = (inB ps[k].1 0 5 && inB ps[k].2 1 99) by
        rw [List.take_succ_eq_append_getElem hlt, List.all_append, H.out]; simp [partOk])
      have HF := Lib.hid (show (inB ps[k].1 0 5 && inB ps[k].2 1 99) = false → partsB ps = false from fun h => by
        have : ps.all partOk = false := by
          rw [List.all_eq_false]
          exact ⟨ps[k], List.getElem_mem hlt, by unfold partOk; rw [h]; simp⟩
        rw [partsB, this, Bool.false_and])
      generalize ps[k] = x at *
      cases h1 : inB x.1 0 5
      · have hres := Lib.hid (HF.out (by rw [h1]; rfl))
        go_wp2_with (go_at_call 39; refine (l6In_any _ _ _ _).mono ?_; rintro e w' ⟨rfl, rfl⟩)
        go_ret
        exact ⟨ret_bool hres.out.symm, rfl⟩
      · cases h2 : inB x.2 1 99
        · have hres := Lib.hid (HF.out (by rw [h1, h2]; rfl))
          go_wp2_with (go_at_call 39; refine (l6In_any _ _ _ _).mono ?_; rintro e w' ⟨rfl, rfl⟩)
          go_ret
          exact ⟨ret_bool hres.out.symm, rfl⟩
        · have hnx := Lib.hid (show (ps.take (k + 1)).all partOk = true by rw [HN.out, h1, h2]; rfl)
          go_wp2_with (go_at_call 39; refine (l6In_any _ _ _ _).mono ?_; rintro e w' ⟨rfl, rfl⟩)
          go_round
          case rel => exact ⟨k + 1, by omega, by go_num, hnx⟩
          case measure => simp [intOf]; omega
    · have hres := Lib.hid (show partsB ps = inB (ps.length : Int) 1 12 by
        have h := H.out
        rw [List.take_of_length_le (by omega)] at h
        rw [partsB, h, Bool.true_and])
      go_wp2_with (go_at_call 39; refine (l6In_any _ _ _ _).mono ?_; rintro e w' ⟨rfl, rfl⟩)
      go_ret
      exact ⟨ret_bool hres.out.symm, rfl⟩
def mRel (B : Nat) (E : TypeId) (g cap : Nat) (L : List Int) (wr : World) : Prop := wr.ownsRow B E 1 (.slice (some ⟨g, 0, none⟩) 6 cap) 6 (ints L)
set_option maxHeartbeats 2000000 in
theorem sMiles_any (A : Option Addr) (c lo hi : Nat) (ps : List T2) (w : World) (hok : partsB ps = true) (hr : Rd w lo hi A (flat2 ps)) (hh : hi ≤ w.heap.size) :
    Calls Try.prog 41 #[.slice A ps.length c] w (RetI 3 (cntL (ownersL ps)) w) := by
  obtain ⟨i0, hi0, hz0, hz1, hz2⟩ := info_parts infoInt
  have hc1 : i0.bytes * 6 ≤ 281474976710656 := by rw [hz2]; omega
  obtain ⟨hin, hl1, hl2⟩ := parts_and hok
  have HIN := Lib.hid hin
  clear hin hok
  go_enter Try.func41, Try.ntmps41
  go_wp2_with (first | (at_make; go_must (refine wpList_make_full _ rfl _ _ 26 rfl w.heap.size 3 i0 _ 1 Try.underlying26 hi0 hz0 hz1 _ _ _ _ 6 rfl rfl rfl rfl hc1 (by simp [maxLen]) (Nat.le_refl _) ?_); intro w1 hown hg))
  rw [made1] at hown
  have hb1 : Below w.heap.size w w1 := (Below.refl _ _).grown hg (Nat.le_refl _) (by simp)
  clear hg
  go_loopw [4] (fun i wr => ∃ k : Nat, k ≤ ps.length ∧ i = .int .i64 k ∧ mRel w.heap.size 3 w.heap.size 6 (cntL (ownersL (ps.take k))) wr ∧ Below w.heap.size w wr) (fun i _ => ps.length - (intOf i).toNat)
  case atStart => exact ⟨0, Nat.zero_le _, rfl, by simpa [mRel, ownersL, cntL_nil] using hown, hb1⟩
  case round =>
    obtain ⟨k, hk, rfl, hrow, hb⟩ := hrel
    clear hown hb1
    by_cases hlt : k < ps.length
    · obtain ⟨b, off, rfl, hlo, hhi, c0, c1⟩ := (hr.below hb hh).at2 k hlt
      have hx := HIN.out ps[k] (List.getElem_mem hlt)
      have hbd := owners_take_len HIN.out k
      have hst := owners_take_succ hlt
      obtain ⟨own, ho⟩ : ∃ own, own = ownersL (ps.take k) := ⟨_, rfl⟩
      rw [← ho] at hrow hbd hst
      have HO := Lib.hid ho
      generalize ps[k] = x at *
      obtain ⟨x0, x1, x2, x3⟩ := hx
      have hset := cntL_add own x0 x1 x.2.toNat
      rw [← hst] at hset
      have HSET := Lib.hid hset
      have hi6 : x.1.toNat < (cntL own).length := by rw [cntL_len]; omega
      have hgd := cntL_bd own ((cntL own)[x.1.toNat]) (List.getElem_mem hi6)
      have hgg : (cntL own).getD x.1.toNat 0 = (cntL own)[x.1.toNat] := by rw [List.getD_eq_getElem?_getD, List.getElem?_eq_getElem hi6]; rfl
      have d0 := own1_cell hrow x.1.toNat hi6
      have f0 := hrow.frozenAt x.1.toNat
      have hst2 := own1_store hrow x.1.toNat ((cntL own)[x.1.toNat] + x.2)
      rw [show (cntL own)[x.1.toNat] + x.2 = (cntL own).getD x.1.toNat 0 + (x.2.toNat : Int) by rw [hgg]; omega, ← hset, ← show (cntL own)[x.1.toNat] + x.2 = (cntL own).getD x.1.toNat 0 + (x.2.toNat : Int) by rw [hgg]; omega] at hst2
      have HST := Lib.hid hst2
      clear hset hst2 hst hgg ho
      generalize (cntL own)[x.1.toNat] = y at *
      have hy : y ≤ 1188 := by have := hbd.1; omega
      obtain ⟨hy0, _⟩ := hgd
      have hk0 : (0 : Int) ≤ (k : Int) := by omega
      have hk1 : (k : Int) < (ps.length : Int) := by omega
      have hbw : b < wr.heap.size := by have := hb.size; omega
      have wy : IntKind.i64.wrap (y + x.2) = y + x.2 := IntWalk.i64_in _ (by omega)
      have x16 : x.1 < 6 := by omega
      clear hrow hbd hi6
      go_wp2_with fail
      go_region
      have HB := hb.setCell (p := ⟨w.heap.size, x.1.toNat, none⟩) (Nat.le_refl _) (.int .i64 (y + x.2))
      clear wy
      go_wp2_with fail
      go_roundw
      case rel => exact ⟨k + 1, by omega, by go_num, HST.out.drew, HB.drew⟩
      case measure => simp [intOf]; omega
    · have hkl : k = ps.length := by omega
      subst hkl
      rw [List.take_length] at hrow
      go_wp2
      go_ret
      exact ⟨_, _, rfl, by simpa [mRel, cntL_len] using hrow, hb⟩

end Go.Proofs.Ytmeaegopenbelaa

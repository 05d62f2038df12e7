/-
  Contracts of LateBlame, the reference's and the program's.
-/
import Derived.Test.YtjpjglpabnlobaaLate2
namespace Go.Proofs.Ytjpjglpabnlobaa
open Go.RowKit

set_option maxHeartbeats 2000000 in
theorem sBlame_any (n : Int) (A : Option Addr) (c lo hi : Nat) (l : List T3) (least start : Int) (B : Option Addr) (d lo' hi' : Nat) (ds : List Int) (k : Int) (w : World) (hl : l.length ≤ 1048576) (hr : Rd w lo hi A (flat3 l)) (hh : hi ≤ w.heap.size) (hld : ds.length ≤ 1048576) (hrd : Rd w lo' hi' B (ints ds)) (hhd : hi' ≤ w.heap.size) :
    Calls Try.prog 30 #[.int .i64 n, .slice A l.length c, .int .i64 least, .int .i64 start, .slice B ds.length d, .int .i64 k] w fun e w' => e = .returned (.int .i64 (blameV n l least start ds k)) ∧ Below w.heap.size w w' := by
  obtain ⟨i0, hi0, hz0, hz1, hz2⟩ := info_parts infoInt
  have hbd1 := endV_bd n l least start ds
  obtain ⟨hbd1, hbd2⟩ := hbd1
  go_enter Try.func30, Try.ntmps30
  go_wp2_with fail
  refine (sEnd_any n _ _ _ _ l least start _ _ _ _ ds _ hl hr hh hld hrd hhd).mono ?_
  rintro e w1 ⟨rfl, hb1⟩
  by_cases he : 0 ≤ endV n l least start ds
  case neg =>
    have hres := Lib.hid (show blameV n l least start ds k = -1 by unfold blameV; rw [if_neg (fun h => he h.1)])
    have he' : endV n l least start ds < 0 := by omega
    clear he
    generalize endV n l least start ds = en at *
    go_wp2_with fail
    all_goals (go_ret; exact ⟨ret_int hres.out.symm, hb1⟩)
  by_cases hk : 0 ≤ k ∧ k < ds.length
  case neg =>
    have hres := Lib.hid (show blameV n l least start ds k = -1 by unfold blameV; rw [if_neg (fun h => hk h.2)])
    have HIN := Lib.hid (inB_false (n := k) (lo := 0) (hi := (ds.length : Int) - 1) (by omega))
    clear hk
    generalize endV n l least start ds = en at *
    go_wp2_with fail
    refine (l6In_any _ _ _ _).mono ?_
    rintro e wq ⟨rfl, rfl⟩
    rw [HIN.out]
    go_wp2_with fail
    go_ret
    exact ⟨ret_int hres.out.symm, hb1⟩
  obtain ⟨hk0, hk1⟩ := hk
  have HIN := Lib.hid (inB_true (n := k) (lo := 0) (hi := (ds.length : Int) - 1) (by omega))
  obtain ⟨j, rfl⟩ := Int.eq_ofNat_of_zero_le hk0
  have hj : j < ds.length := by omega
  have hres := Lib.hid (show blameV n l least start ds (j : Int) = endV n l least start ds - endV n l least start (ds.set j 0) by
    unfold blameV; rw [if_pos ⟨he, hk0, hk1⟩, Int.toNat_natCast])
  have hbd3 := endV_bd n l least start (ds.set j 0)
  obtain ⟨hbd3, hbd4⟩ := hbd3
  obtain ⟨en, hen⟩ : ∃ en, en = endV n l least start ds := ⟨_, rfl⟩
  rw [← hen] at hbd1 hbd2 he hres ⊢
  clear hen
  have hbs1 := hb1.size
  have hb0 := below_alloc hb1 (.cells #[] 3)
  have hown0 : (w1.alloc (.cells #[] 3)).ownsRow w1.heap.size 3 1 (.slice (some ⟨w1.heap.size, 0, none⟩) 0 0) ([] : List Int).length (ints []) := by simpa [ints] using own_lit0 w1 w1.heap.size 3 1 (Nat.le_refl _)
  have hrd0 := hrd.below hb0 hhd
  have hd0 : 0 < ds.length := by omega
  go_wp2_with fail
  refine (l6In_any _ _ _ _).mono ?_
  rintro e wq ⟨rfl, rfl⟩
  rw [HIN.out]
  go_wp2_with (at_builtin; go_must (refine wpList_appendR1 rfl _ _ 27 rfl w1.heap.size 3 i0 _ Try.underlying27 hi0 hz0 hz1 hz2 rfl (.slice (some ⟨w1.heap.size, 0, none⟩) 0 0) [] rfl hown0 _ ds _ _ _ hrd0 rfl hd0 (by simp) (by omega) (by simp) ?_); intro g2 cap2 w2 hown2 hg2 hor2 hltg2; have hb2 := below_grown hb0 hb0.size hown0 hbs1 hg2; simp only [List.length_nil, Nat.zero_add, List.nil_append] at hown2; have d0 := own1_cell hown2 j hj; have f0 := hown2.frozenAt j; have hst := own1_store hown2 j 0; generalize ds[j] = u0 at d0)
  have hb3 := hb2.setCell (p := ⟨g2, j, none⟩) (by have := (own_lt hown2).1; show w.heap.size ≤ g2; omega) (.int .i64 0)
  have hset : (ds.set j 0).length = ds.length := by simp
  obtain ⟨ds2, hds2⟩ : ∃ ds2, ds2 = ds.set j 0 := ⟨_, rfl⟩
  rw [← hds2] at hst hset hres hbd3 hbd4
  clear hds2
  try simp only [List.length_nil, Nat.zero_add]
  rw [← hset]
  rw [← hset] at hst
  refine (sEnd_any n _ _ _ _ l least start _ _ _ _ ds2 _ hl (hr.below hb3 hh) (Nat.le_trans hh hb3.size) (by omega) (Rd.of_own hst) (Nat.le_refl _)).mono ?_
  rintro e w4 ⟨rfl, hb4⟩
  have hb34 := hb3.trans (hb4.mono hb3.size)
  generalize endV n l least start ds2 = en2 at *
  go_wp2_with fail
  go_ret
  exact ⟨ret_int hres.out.symm, hb34⟩
set_option maxHeartbeats 2000000 in
theorem iBlame_any (n : Int) (A : Option Addr) (c lo hi : Nat) (l : List T3) (least start : Int) (B : Option Addr) (d lo' hi' : Nat) (ds : List Int) (k : Int) (w : World) (hl : l.length ≤ 1048576) (hr : Rd w lo hi A (flat3 l)) (hh : hi ≤ w.heap.size) (hld : ds.length ≤ 1048576) (hrd : Rd w lo' hi' B (ints ds)) (hhd : hi' ≤ w.heap.size) (hcap : l.length ≤ c) :
    Calls Try.prog 29 #[.int .i64 n, .slice A l.length c, .int .i64 least, .int .i64 start, .slice B ds.length d, .int .i64 k] w fun e w' => e = .returned (.int .i64 (blameV n l least start ds k)) ∧ Below w.heap.size w w' := by
  obtain ⟨i0, hi0, hz0, hz1, hz2⟩ := info_parts infoInt
  have hbd1 := endV_bd n l least start ds
  obtain ⟨hbd1, hbd2⟩ := hbd1
  go_enter Try.func29, Try.ntmps29
  go_wp2_with fail
  refine (iEnd_any n _ _ _ _ l least start _ _ _ _ ds _ hl hr hh hld hrd hhd hcap).mono ?_
  rintro e w1 ⟨rfl, hb1⟩
  by_cases he : 0 ≤ endV n l least start ds
  case neg =>
    have hres := Lib.hid (show blameV n l least start ds k = -1 by unfold blameV; rw [if_neg (fun h => he h.1)])
    have he' : endV n l least start ds < 0 := by omega
    clear he
    generalize endV n l least start ds = en at *
    go_wp2_with fail
    all_goals (go_ret; exact ⟨ret_int hres.out.symm, hb1⟩)
  by_cases hk0 : 0 ≤ k
  case neg =>
    have hres := Lib.hid (show blameV n l least start ds k = -1 by unfold blameV; rw [if_neg (fun h => hk0 h.2.1)])
    have hk' : k < 0 := by omega
    clear hk0
    generalize endV n l least start ds = en at *
    go_wp2_with fail
    all_goals (go_ret; exact ⟨ret_int hres.out.symm, hb1⟩)
  by_cases hk1 : k < ds.length
  case neg =>
    have hres := Lib.hid (show blameV n l least start ds k = -1 by unfold blameV; rw [if_neg (fun h => hk1 h.2.2)])
    have hk' : (ds.length : Int) ≤ k := by omega
    clear hk1
    generalize endV n l least start ds = en at *
    go_wp2_with fail
    all_goals (go_ret; exact ⟨ret_int hres.out.symm, hb1⟩)
  obtain ⟨j, rfl⟩ := Int.eq_ofNat_of_zero_le hk0
  have hj : j < ds.length := by omega
  have hres := Lib.hid (show blameV n l least start ds (j : Int) = endV n l least start ds - endV n l least start (ds.set j 0) by
    unfold blameV; rw [if_pos ⟨he, hk0, hk1⟩, Int.toNat_natCast])
  have hbd3 := endV_bd n l least start (ds.set j 0)
  obtain ⟨hbd3, hbd4⟩ := hbd3
  obtain ⟨en, hen⟩ : ∃ en, en = endV n l least start ds := ⟨_, rfl⟩
  rw [← hen] at hbd1 hbd2 he hres ⊢
  clear hen
  have hbs1 := hb1.size
  have hb0 := below_alloc hb1 (.cells #[] 3)
  have hown0 : (w1.alloc (.cells #[] 3)).ownsRow w1.heap.size 3 1 (.slice (some ⟨w1.heap.size, 0, none⟩) 0 0) ([] : List Int).length (ints []) := by simpa [ints] using own_lit0 w1 w1.heap.size 3 1 (Nat.le_refl _)
  have hrd0 := hrd.below hb0 hhd
  have hd0 : 0 < ds.length := by omega
  go_wp2_with (at_builtin; go_must (refine wpList_appendR1 rfl _ _ 27 rfl w1.heap.size 3 i0 _ Try.underlying27 hi0 hz0 hz1 hz2 rfl (.slice (some ⟨w1.heap.size, 0, none⟩) 0 0) [] rfl hown0 _ ds _ _ _ hrd0 rfl hd0 (by simp) (by omega) (by simp) ?_); intro g2 cap2 w2 hown2 hg2 hor2 hltg2; have hb2 := below_grown hb0 hb0.size hown0 hbs1 hg2; simp only [List.length_nil, Nat.zero_add, List.nil_append] at hown2; have d0 := own1_cell hown2 j hj; have f0 := hown2.frozenAt j; have hst := own1_store hown2 j 0; generalize ds[j] = u0 at d0)
  have hb3 := hb2.setCell (p := ⟨g2, j, none⟩) (by have := (own_lt hown2).1; show w.heap.size ≤ g2; omega) (.int .i64 0)
  have hset : (ds.set j 0).length = ds.length := by simp
  obtain ⟨ds2, hds2⟩ : ∃ ds2, ds2 = ds.set j 0 := ⟨_, rfl⟩
  rw [← hds2] at hst hset hres hbd3 hbd4
  clear hds2
  try simp only [List.length_nil, Nat.zero_add]
  rw [← hset]
  rw [← hset] at hst
  refine (iEnd_any n _ _ _ _ l least start _ _ _ _ ds2 _ hl (hr.below hb3 hh) (Nat.le_trans hh hb3.size) (by omega) (Rd.of_own hst) (Nat.le_refl _) hcap).mono ?_
  rintro e w4 ⟨rfl, hb4⟩
  have hb34 := hb3.trans (hb4.mono hb3.size)
  generalize endV n l least start ds2 = en2 at *
  go_wp2_with fail
  go_ret
  exact ⟨ret_int hres.out.symm, hb34⟩

end Go.Proofs.Ytjpjglpabnlobaa

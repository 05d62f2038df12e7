/-
  For every input the law FnPassed returns true: parts of a way have their gates.
-/
import Derived.Test.YtgalkbnlpadpfaaPassed
import Derived.Test.YtgalkbnlpadpfaaGatesArgs
import Derived.Test.YtgalkbnlpadpfaaApart
import Derived.Test.YtgalkbnlpadpfaaApp
namespace Go.Proofs.Ytgalkbnlpadpfaa
open Go.ChangeShapes Go.WideShapes Go.ChangeAt Go.RowKit

theorem wayB_and {l : List T3} {a b : Int} (h : wayB l a b = true) : gatesB l = true ∧ (0 ≤ a ∧ a ≤ 1000) ∧ (0 ≤ b ∧ b ≤ 1000) := by
  simp only [wayB, Bool.and_eq_true] at h
  exact ⟨h.1.1, by simpa [inB] using h.1.2, by simpa [inB] using h.2⟩
theorem gatesFrom_up {l : List T3} {last : Int} (h : gatesFrom last l = true) (i : Nat) (hi : i < l.length) : last < l[i].1 := by
  induction l generalizing last i with
  | nil => simp at hi
  | cons g r ih =>
    simp only [gatesFrom, Bool.and_eq_true, gOk, decide_eq_true_eq] at h
    cases i with
    | zero => simp only [List.getElem_cons_zero]; omega
    | succ i => simp only [List.getElem_cons_succ]; have := ih h.2 i (by simpa using hi); omega
theorem gatesFrom_mono {l : List T3} {last : Int} (h : gatesFrom last l = true) (i j : Nat) (hi : i < j) (hj : j < l.length) : l[i].1 < l[j].1 := by
  induction l generalizing last i j with
  | nil => simp at hj
  | cons g r ih =>
    simp only [gatesFrom, Bool.and_eq_true] at h
    obtain ⟨j, rfl⟩ : ∃ k, j = k + 1 := ⟨j - 1, by omega⟩
    cases i with
    | zero => simp only [List.getElem_cons_zero, List.getElem_cons_succ]; exact gatesFrom_up h.2 j (by simpa using hj)
    | succ i => simp only [List.getElem_cons_succ]; exact ih h.2 i j (by omega) (by simpa using hj)
theorem passL_pos {l : List T3} {a b : Int} (h : 0 < (passL l a b).length) : wayB l a b = true ∧ a < b := by
  unfold passL at h
  split at h
  · rename_i hw
    refine ⟨hw, ?_⟩
    obtain ⟨i, _, _, hi⟩ := selI_get h
    have := of_decide_eq_true hi
    omega
  · simp at h
theorem passL_parts {l : List T3} {a b m : Int} (hw : wayB l a b = true) (h1 : a ≤ m) (h2 : m ≤ b) : passL l a m ++ passL l m b = passL l a b := by
  obtain ⟨hg, ha, hb⟩ := wayB_and hw
  have e1 : wayB l a m = true := by simp [wayB, hg, inB]; omega
  have e2 : wayB l m b = true := by simp [wayB, hg, inB]; omega
  rw [passL, passL, passL, if_pos hw, if_pos e1, if_pos e2]
  simp only [gatesB, Bool.and_eq_true] at hg
  refine selI_split l.length (Nat.le_refl _) ?_ ?_
  · intro i hi
    unfold onWay
    rw [Bool.eq_iff_iff]
    simp only [Bool.or_eq_true, decide_eq_true_eq]
    omega
  · intro i j hi hj hq hp
    have hq := of_decide_eq_true hq
    have hp := of_decide_eq_true hp
    rcases Nat.lt_trichotomy j i with h | h | h
    · exact h
    · subst h; omega
    · have := gatesFrom_mono hg.2 i j h hj; omega

theorem sel_at {a b : Int} {l : List T3} {L : List Int} (hs : L = selI (onWay a b) l l.length) (k : Nat) (hk : k < L.length) :
    0 ≤ L[k] ∧ L[k] < (l.length : Int) ∧ ∃ h : L[k].toNat < l.length, a ≤ (l[L[k].toNat]).1 ∧ (l[L[k].toNat]).1 < b := by
  subst hs
  obtain ⟨i, hi, hil, hon⟩ := selI_get hk
  have hon := of_decide_eq_true hon
  rw [hi]
  refine ⟨by omega, by omega, by simpa using hil, ?_⟩
  simpa [List.getD, hil] using hon
theorem sel_up {a b : Int} {l : List T3} {L : List Int} (hs : L = selI (onWay a b) l l.length) (k : Nat) (hk : k + 1 < L.length) : L[k] < L[k + 1] := by
  subst hs; exact selI_up hk

set_option maxRecDepth 100000 in
set_option maxHeartbeats 4000000 in
theorem passed_any (A0 : Option Addr) (c0 n0 : Nat) (bs0 : Nat → Int) (A1 : Option Addr) (c1 n1 : Nat) (bs1 : Nat → Int) (w : World) (hm0 : n0 ≤ maxLen) (hb0 : Byt w w.heap.size A0 n0 bs0) (hc0 : n0 ≤ c0) (hm1 : n1 ≤ maxLen) (_ : Byt w w.heap.size A1 n1 bs1) (_ : n1 ≤ c1) :
    Calls Try.prog 5 #[.slice A0 n0 c0, .slice A1 n1 c1] w fun e w' => e = .returned (.bool true) ∧ Below w.heap.size w w' := by
  unfold maxLen at hm0 hm1
  obtain ⟨i0, hi0, hz0, hz1, hz2⟩ := info_parts infoInt
  by_cases hbig0 : (1048576 : Int) < n0
  · go_enter Try.func5, Try.ntmps5
    go_wp2_with fail
    go_ret
    exact ⟨rfl, Below.refl _ _⟩
  by_cases hbig1 : (1048576 : Int) < n1
  · go_enter Try.func5, Try.ntmps5
    go_wp2_with fail
    go_ret
    exact ⟨rfl, Below.refl _ _⟩
  have hn1 : (n1 : Int) ≤ 1048576 := by omega
  have hn10 : (0 : Int) ≤ n1 := by omega
  have hn0 : n0 ≤ 1048576 := by omega
  clear hm0 hm1
  go_enter Try.func5, Try.ntmps5
  go_wp2_with fail
  refine (drawPassed_any A0 n0 c0 bs0 _ hb0 hn0 hc0).mono ?_
  rintro e w1 ⟨A, c, l, a, b, rfl, hl, ho1, hb1⟩
  go_wp2_with fail
  refine (iPass_any _ _ _ _ l a b _ (by omega) (Rd.of_own ho1) (Nat.le_refl _)).mono ?_
  rintro e w2 ⟨P2, d2, rfl, ho2, hs2⟩
  have hb2 := hb1.trans (hs2.mono hb1.size)
  have ho1 := own_below ho1 hs2
  go_wp2_with fail
  refine (sPass_any _ _ _ _ l a b _ (by omega) (Rd.of_own ho1) (Nat.le_refl _)).mono ?_
  rintro e w3 ⟨P3, d3, rfl, ho3, hs3⟩
  have hb3 := hb2.trans (hs3.mono hb2.size)
  have ho1 := own_below ho1 hs3
  have ho2 := own_below ho2 hs3
  have hlen := Lib.hid (show (passL l a b).length ≤ l.length by unfold passL; split; exact selI_len _ _ _; simp)
  have hL : (passL l a b).length ≤ 1048576 := by have := hlen.out; omega
  have heq : decide (passL l a b = passL l a b) = true := by simp
  go_wp2_with fail
  refine (sameInts_any _ _ _ _ _ _ _ _ _ _ _ hL (Rd.of_own ho2) (Rd.of_own ho3)).mono ?_
  rintro e w4 ⟨rfl, hs4⟩
  have hb4 := hb3.trans (hs4.mono hb3.size)
  have ho1 := own_below ho1 hs4
  have ho2 := own_below ho2 hs4
  have ho3 := own_below ho3 hs4
  rcases Nat.eq_zero_or_pos (passL l a b).length with hz | hz
  · have hzd : (((passL l a b).length : Int) == 0) = true := by simp [hz]
    clear hz
    go_wp2_with fail
    refine (sameInts_any _ _ _ _ _ _ _ _ _ _ _ hL (Rd.of_own ho2) (Rd.of_own ho3)).mono ?_
    rintro e w5 ⟨rfl, hs5⟩
    go_wp2_with fail
    go_ret
    exact ⟨rfl, hb4.trans (hs5.mono hb4.size)⟩
  have hzd : (((passL l a b).length : Int) == 0) = false := by rw [beq_eq_false_iff_ne]; omega
  obtain ⟨hw, hab⟩ := passL_pos hz
  obtain ⟨hg, ⟨ha0, ha1⟩, ⟨hb0', hb1'⟩⟩ := wayB_and hw
  have hmod : 0 ≤ (n1 : Int) % (b - a + 1) ∧ (n1 : Int) % (b - a + 1) < b - a + 1 := ⟨Int.emod_nonneg _ (by omega), Int.emod_lt_of_pos _ (by omega)⟩
  obtain ⟨md, hmd⟩ : ∃ md, md = (n1 : Int) % (b - a + 1) := ⟨_, rfl⟩
  have hdiv : Int.tmod (n1 : Int) (b - a + 1) = md := by rw [hmd, Int.tmod_eq_emod_of_nonneg (by omega)]
  rw [← hmd] at hmod
  have hdz : ((b - a + 1) == 0) = false := by simp; omega
  have hparts := Lib.hid (passL_parts (m := a + md) hw (by omega) (by omega))
  have hlb : ∀ x y, (passL l x y).length ≤ l.length := fun x y => by unfold passL; split; exact selI_len _ _ _; simp
  have HLB := Lib.hid hlb
  have HMD := Lib.hid hmd
  have HG := Lib.hid hg
  have HW := Lib.hid hw
  clear hmd hlb hg hw
  obtain ⟨hmod0, hmod1⟩ := hmod
  go_wp2_with fail
  refine (iPass_any _ _ _ _ l a (a + md) _ (by omega) (Rd.of_own ho1) (Nat.le_refl _)).mono ?_
  rintro e w5 ⟨P5, d5, rfl, ho5, hs5⟩
  have hb5 := hb4.trans (hs5.mono hb4.size)
  have ho1 := own_below ho1 hs5
  have ho2 := own_below ho2 hs5
  go_wp2_with fail
  refine (iPass_any _ _ _ _ l (a + md) b _ (by omega) (Rd.of_own ho1) (Nat.le_refl _)).mono ?_
  rintro e w6 ⟨P6, d6, rfl, ho6, hs6⟩
  have hb6 := hb5.trans (hs6.mono hb5.size)
  have ho1 := own_below ho1 hs6
  have ho2 := own_below ho2 hs6
  have ho5 := own_below ho5 hs6
  have HSEL := Lib.hid (show passL l a b = selI (onWay a b) l l.length by rw [passL, if_pos HW.out])
  have hLl := hlen.out
  have h5l := HLB.out a (a + md)
  have h6l := HLB.out (a + md) b
  obtain ⟨L5, hL5⟩ : ∃ L, L = passL l a (a + md) := ⟨_, rfl⟩
  obtain ⟨L6, hL6⟩ : ∃ L, L = passL l (a + md) b := ⟨_, rfl⟩
  rw [← hL5, ← hL6] at hparts
  rw [← hL5] at ho5 h5l ⊢
  rw [← hL6] at ho6 h6l ⊢
  obtain ⟨L, hLe⟩ : ∃ L, L = passL l a b := ⟨_, rfl⟩
  rw [← hLe] at ho2 hL hz hzd hLl hparts HSEL ⊢
  clear heq hL5 hL6 hLe hs2 hs3 hs4 hs5 hs6 hb1 hb2 hb3 hb4 hb5 hlen HLB hmod0 hmod1 hdiv hdz ho3
  go_wp2_with fail
  go_loopw [13] (fun i wr => ∃ (k q : Nat), k ≤ L.length ∧ i = .int .i64 k ∧ wr = w6.drewN q) (fun i _ => L.length - (intOf i).toNat)
  case atStart => exact ⟨0, 0, Nat.zero_le _, rfl, rfl⟩
  case round =>
    obtain ⟨k, q, hk, rfl, rfl⟩ := hrel
    by_cases hlt : k < L.length
    · obtain ⟨x0, x1, xl, hx2, hx3⟩ := sel_at HSEL.out k hlt
      obtain ⟨bo, oo, rfl, -, -, e0⟩ := (Rd.of_own ho2).at1 k hlt
      obtain ⟨bg, og, rfl, -, -, c0, -, -⟩ := (Rd.of_own ho1).at3 _ xl
      have d1 : decide ((l[L[k].toNat]).1 < a) = false := decide_eq_false (by omega)
      have d2 : decide (b ≤ (l[L[k].toNat]).1) = false := decide_eq_false (by omega)
      generalize (l[L[k].toNat]).1 = mi at *
      have hk0 : (0 : Int) ≤ (k : Int) := by omega
      have hk1 : (k : Int) < (L.length : Int) := by omega
      cases k with
      | zero =>
        simp only [Nat.add_zero] at e0
        generalize L[0] = x at *
        clear hz hparts HSEL HW HG HMD xl
        go_wp2_with fail
        go_quiet (fail)
        go_wp2_with fail
        go_roundw
        case rel => exact ⟨1, _, by omega, by go_num, rfl⟩
        case measure => simp [intOf]; omega
      | succ k =>
        have hup := sel_up HSEL.out k hlt
        obtain ⟨bo', oo', ee, _, _, f0⟩ := (Rd.of_own ho2).at1 k (by omega)
        injection ee with ee; injection ee with e1 e2; subst e1 e2
        generalize L[k + 1] = x at *
        generalize L[k] = y at *
        have d3 : decide (x ≤ y) = false := decide_eq_false (by omega)
        have hk2 : (0 : Int) ≤ (k : Int) := by omega
        have hk3 : (k : Int) < (L.length : Int) := by omega
        have hd : decide (0 < k + 1) = true := by simp
        clear hz hparts HSEL HW HG HMD xl
        go_wp2_with fail
        go_quiet (fail)
        go_wp2_with fail
        go_roundw
        case rel => exact ⟨k + 1 + 1, _, by omega, by go_num, rfl⟩
        case measure => simp [intOf]; omega
    · clear HSEL hz hzd HW HG HMD
      have ho0 := own_lit0 (w6.drewN q) w6.heap.size 3 1 (Nat.le_refl _)
      have r5 := ((Rd.of_own ho5).drewN q).alloc (w := w6.drewN q) (Nat.le_refl _) (.cells #[] 3)
      have hbA : Below w.heap.size w ((w6.drewN q).alloc (.cells #[] 3)) := below_alloc (below_drewN hb6 q) _
      have hP := hparts.out
      have r6 := ((Rd.of_own ho6).drewN q).alloc (w := w6.drewN q) (Nat.le_refl _) (.cells #[] 3)
      have tok1 : True := trivial
      go_wp2_with (first
        | (at_builtin; have _t := tok1; go_must (refine wpList_appendA1 rfl _ _ 32 rfl w6.heap.size 3 i0 _ Try.underlying32 hi0 hz0 hz1 hz2 rfl (.slice (some ⟨w6.heap.size, 0, none⟩) 0 0) [] rfl ho0 P5 L5 d5 _ _ r5 rfl (by simp) (by omega) (by simp) ?_); intro A7 c7 w7 ho7 hg7 hor7; have hs7 := hg7.size; have r67 := Rd.apart r6 (by simp) ho0 hg7 (Nat.le_refl _); clear tok1)
        | (at_builtin; go_must (refine wpList_appendA1 rfl _ _ 32 rfl w6.heap.size 3 i0 _ Try.underlying32 hi0 hz0 hz1 hz2 rfl (.slice A7 ([] ++ L5).length c7) ([] ++ L5) rfl ho7 P6 L6 d6 _ _ r67 rfl (by simp; omega) (by omega) (by simp at hs7; omega) ?_); intro A8 c8 w8 ho8 hg8 hor8))
      have hb67 := below_grown (below_alloc (below_drewN (Below.refl w6.heap.size w6) q) (.cells #[] 3)) (by simp) ho0 (Nat.le_refl _) hg7
      have hb68 := below_grown hb67 hb67.size ho7 (Nat.le_refl _) hg8
      have hb8 := hb6.trans (hb68.mono hb6.size)
      simp only [List.nil_append, hP] at ho8 ⊢
      have heq : decide (L = L) = true := by simp
      refine (sameInts_any _ _ _ _ _ _ _ _ L L _ hL (Rd.of_own ho8) (Rd.of_own (own_below ho2 hb68))).mono ?_
      rintro e w9 ⟨rfl, hs9⟩
      go_wp2_with fail
      go_ret
      exact ⟨rfl, hb8.trans (hs9.mono hb8.size)⟩

set_option maxRecDepth 100000 in
theorem passed_lifted (os : Os) (started : os.Started) (H : Type) (enc : TypeId × Value → H) :
    ReturnsInHanded {} Try.checked os 5 .any (Rows.fnPassedSpec.pre6 enc Try.prog Try.f5 Rows.fnPassedRow.domain false) (Rows.fnPassedSpec.post enc Try.prog Try.f5 false true false false) := by
  refine returnsInHanded_of_change (C := Try.checked) prog_own started (by kernel_rfl) Try.func5
    (ChangeSpec.witness6 (enc := enc) (C := Try.checked) false ⟨#[], #[.slice none 0 0, .slice none 0 0], []⟩ 8 (by kernel_rfl) (by kernel_rfl) (by kernel_rfl) (by kernel_rfl)) ?_
  intro W base args ds gs before hval0 hW hcnd _
  have hval : ∀ (j : Nat) t v, Try.f5.params[j]? = some t → args[j]? = some v → Value.okWide Try.prog W .any base t v := hval0
  have hW' := hW
  obtain ⟨p, q, hA0, hV, rfl, hfz, hnd⟩ := hW
  have hA : DataW.TrodAll enc Try.prog W 0 (fun _ => true) true Try.f5.params.toList args.toList ds p := hA0
  rw [Try.params5] at hA hval
  obtain ⟨v0, vs0, d0, ds0, p0, q0, hargs, rfl, rfl, h0, r0⟩ := trodAll_cons hA
  obtain ⟨v1, vs1, d1, ds1, p1, q1, rfl, rfl, rfl, h1, r1⟩ := trodAll_cons r0
  obtain ⟨rfl, rfl, rfl⟩ := trodAll_nil r1
  obtain rfl : args = #[v0, v1] := by cases args; simp_all
  obtain ⟨rfl, rfl⟩ := trodVars_none hV
  obtain ⟨a0, len0, cap0, rfl⟩ := okWide_slice Try.underlying29 (hval 0 29 v0 rfl rfl)
  have k0 := h0
  have lt0 : ∀ x ∈ p0, x.block < W.heap.size := by obtain ⟨m, hm⟩ := k0; exact DataW.trod_lt m _ _ _ hm
  obtain ⟨fuel0, hf0⟩ := h0
  obtain ⟨bs0, hm0, hb0, hc0⟩ := open_b1 Try.underlying29 Try.underlying5 (by kernel_rfl) hf0
  obtain ⟨a1, len1, cap1, rfl⟩ := okWide_slice Try.underlying29 (hval 1 29 v1 rfl rfl)
  have k1 := h1
  have lt1 : ∀ x ∈ p1, x.block < W.heap.size := by obtain ⟨m, hm⟩ := k1; exact DataW.trod_lt m _ _ _ hm
  obtain ⟨fuel1, hf1⟩ := h1
  obtain ⟨bs1, hm1, hb1, hc1⟩ := open_b1 Try.underlying29 Try.underlying5 (by kernel_rfl) hf1
  clear hA0 hval0
  refine (passed_any a0 cap0 len0 bs0 a1 cap1 len1 bs1 W hm0 hb0 hc0 hm1 hb1 hc1).mono fun e W' ⟨he, bel⟩ => ?_
  subst he
  exact ⟨_, rfl, _, _, _, [], _, [], hW', trodAll_mk1 (shut_bool Try.underlying4 _), (trodAll_cons_mk (Below.trod prog_laidOut (by kernel_rfl) (of_decide_eq_true (by kernel_rfl)) k0 bel lt0) (trodAll_cons_mk (Below.trod prog_laidOut (by kernel_rfl) (of_decide_eq_true (by kernel_rfl)) k1 bel lt1) trodAll_mk0)), rfl, bel.frame _, fun h => by cases h⟩

theorem passed_holds : Rows.FnPassedSaid :=
  OpenClaim.holds_of_wide 5 Try.f5 rfl rfl rfl rfl rfl rfl rfl ⟨rfl, rfl, rfl, rfl, rfl⟩ rfl rfl rfl rfl rfl (by kernel_rfl) Try.func5 (by kernel_rfl)
    (of_decide_eq_true (by kernel_rfl)) (by unfold Func.isWrapper; first | (rw [if_pos (by decide +kernel)]; kernel_rfl) | (rw [if_neg (by decide +kernel)]; exact ⟨rfl, rfl⟩))
    (fun os started H enc _ => passed_lifted os started H enc)

end Go.Proofs.Ytgalkbnlpadpfaa

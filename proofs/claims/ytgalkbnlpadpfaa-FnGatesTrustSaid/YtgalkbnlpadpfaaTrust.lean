/-
  Contracts of GatesTrust, the reference's and the program's.
-/
import Derived.Test.YtgalkbnlpadpfaaTrustI
namespace Go.Proofs.Ytgalkbnlpadpfaa
open Go.RowKit

def onTrust (t : Int) (g : T3) : Bool := decide (g.2.1 = t)
def trustL (l : List T3) (t : Int) : List Int := if gatesB l then selI (onTrust t) l l.length else []
theorem gatesFrom_trust {l : List T3} {last : Int} (h : gatesFrom last l = true) (k : Nat) (hk : k < l.length) : 0 ≤ l[k].2.1 ∧ l[k].2.1 ≤ 3 := by
  induction l generalizing last k with
  | nil => simp at hk
  | cons g r ih =>
    simp only [gatesFrom, Bool.and_eq_true, gOk, decide_eq_true_eq] at h
    cases k with
    | zero => simp only [List.getElem_cons_zero]; omega
    | succ k => simp only [List.getElem_cons_succ]; exact ih h.2 k _
theorem gatesB_trust {l : List T3} (h : gatesB l = true) (k : Nat) (hk : k < l.length) : 0 ≤ l[k].2.1 ∧ l[k].2.1 ≤ 3 := by
  simp only [gatesB, Bool.and_eq_true] at h; exact gatesFrom_trust h.2 k hk
theorem selI_none (p : T3 → Bool) (l : List T3) (h : ∀ i (hi : i < l.length), p l[i] = false) (k : Nat) (hk : k ≤ l.length) : selI p l k = [] := by
  induction k with
  | zero => rfl
  | succ k ih => rw [selI_no p l k (by omega) (h k (by omega)), ih (by omega)]
theorem trustL_none {l : List T3} {t : Int} (h : ¬ (0 ≤ t ∧ t ≤ 3)) : trustL l t = [] := by
  unfold trustL
  split
  · rename_i hg
    refine selI_none _ l (fun i hi => decide_eq_false ?_) _ (Nat.le_refl _)
    have := gatesB_trust hg i hi
    omega
  · rfl

set_option maxHeartbeats 1000000 in
theorem clo_any (x : T3) (a : Nat) (t : Int) (w : World) (ha : a < w.heap.size) (hc : w.cell? ⟨a, 0, none⟩ = some (.int .i64 t)) :
    Calls Try.prog 34 #[.agg #[.int .i64 x.1, .int .i64 x.2.1, .int .i64 x.2.2], .pointer (some ⟨a, 0, none⟩)] w fun e w' => e = .returned (.bool (x.2.1 == t)) ∧ Below w.heap.size w w' := by
  go_enter Try.func34, Try.ntmps34
  go_wp2
  try go_quiet (fail)
  try go_wp2
  go_ret
  exact ⟨rfl, by (repeat (first | exact Below.refl _ _ | assumption | apply below_alloc | apply below_drewN | apply Below.drew | refine Below.setCell ?_ (by simp; try omega) _))⟩

set_option maxHeartbeats 2000000 in
theorem sTrust_any (A : Option Addr) (c lo hi : Nat) (l : List T3) (t : Int) (w : World) (hl : l.length ≤ 1048576) (hr : Rd w lo hi A (flat3 l)) (hh : hi ≤ w.heap.size) :
    Calls Try.prog 14 #[.slice A l.length c, .int .i64 t] w (RetI 3 (trustL l t) w) := by
  obtain ⟨i0, hi0, hz0, hz1, hz2⟩ := info_parts infoInt
  cases hw : gatesB l
  · have hres := Lib.hid (show trustL l t = [] by simp [trustL, hw])
    have HW := Lib.hid hw
    clear hw
    by_cases hz : 0 < l.length
    · have hz3 : decide (0 < l.length) = true := decide_eq_true hz
      go_enter Try.func14, Try.ntmps14
      go_wp2_with fail
      refine wp_loop_rounds 1 ?_
      rw [rounds_succ]
      go_wp2_with fail
      have hb1 : Below w.heap.size w (w.alloc (.cells #[] 3)) := below_alloc (Below.refl _ _) _
      refine (sGatesValid _ _ _ _ l _ hl (hr.below hb1 hh) (Nat.le_trans hh hb1.size)).mono ?_
      rintro e w2 ⟨rfl, hb2⟩
      rw [HW.out]
      go_wp2_with fail
      go_ret
      exact retI_of (M := []) ⟨_, _, rfl, own_below (own_lit0 w _ 3 1 (Nat.le_refl _)) hb2⟩ hres.out.symm (hb1.trans (hb2.mono hb1.size))
    · have hz3 : decide (0 < l.length) = false := decide_eq_false hz
      clear hz
      generalize hn : l.length = n at *
      go_enter Try.func14, Try.ntmps14
      go_wp2_with fail
      refine wp_loop_rounds 1 ?_
      rw [rounds_succ]
      go_wp2_with fail
      go_ret
      exact retI_of (M := []) ⟨_, _, rfl, own_lit0 w _ 3 1 (Nat.le_refl _)⟩ hres.out.symm (below_alloc (Below.refl _ _) _)
  · have hres := Lib.hid (show trustL l t = selI (onTrust t) l l.length by simp [trustL, hw])
    have HW := Lib.hid hw
    have hl10 : l.length ≤ 10 := gatesB_le10 hw
    clear hw
    go_enter Try.func14, Try.ntmps14
    go_wp2_with fail
    go_loopw [5, 6] (fun v i wr => ∃ j : Nat, j ≤ l.length ∧ i = .int .i64 j ∧ passRel w.heap.size 3 (selI (onTrust t) l j) v wr ∧ Below w.heap.size w wr) (fun _ i _ => l.length - (intOf i).toNat)
    case atStart => exact ⟨0, Nat.zero_le _, rfl, ⟨_, _, rfl, own_lit0 w _ _ 1 (Nat.le_refl _)⟩, below_alloc (Below.refl _ _) _⟩
    case round =>
      obtain ⟨j, hj, rfl, ⟨g, cap, rfl, hown⟩, hb⟩ := hrel
      have hbs := hb.size
      by_cases hlt : j < l.length
      · go_wp2_with fail
        refine (sGatesValid _ _ _ _ l _ hl (hr.below hb hh) (Nat.le_trans hh hbs)).mono ?_
        rintro e w2 ⟨rfl, hb2⟩
        rw [HW.out]
        have hb12 := hb.trans (hb2.mono hbs)
        have hown2 := own_below hown hb2
        have hbs2 := hb12.size
        have hlj := selI_len (onTrust t) l j
        have hy := Lib.hid (selI_yes (onTrust t) l j hlt)
        have hn := Lib.hid (selI_no (onTrust t) l j hlt)
        obtain ⟨bb, off, rfl, hlo, hhi, c0, c1, c2⟩ := (hr.below hb12 hh).at3 j hlt
        obtain ⟨x, hx⟩ : ∃ x, x = l[j] := ⟨_, rfl⟩
        rw [← hx] at c0 c1 c2 hy hn
        clear hx hown hb hb2 hbs
        generalize selI (onTrust t) l j = L at *
        by_cases h1 : x.2.1 = t
        · have hst := Lib.hid (hy.out (decide_eq_true h1))
          have d1 : (x.2.1 == t) = true := by simp [h1]
          clear h1
          go_wp2_with (at_builtin; go_must (refine wpList_append1 rfl _ _ 32 rfl w.heap.size 3 i0 _ Try.underlying32 hi0 hz0 hz1 hz2 rfl (.slice (some ⟨g, 0, none⟩) L.length cap) L rfl (hown2.alloc _) w2.heap.size _ (nb1 _ _) rfl (by omega) (ls1 hbs2 _) ?_); intro g2 cap2 w3 hown3 hg3 _ _)
          have hb3 := below_grown (below_alloc hb12 _) (ls1 hbs2 _) (hown2.alloc _) (Nat.le_refl _) hg3
          go_roundw
          case rel => exact ⟨j + 1, by omega, by go_num, ⟨g2, cap2, by rw [hst.out]; simp, by rw [hst.out]; simpa using hown3⟩, hb3⟩
          case measure => simp [intOf]; omega
        · have hst := Lib.hid (hn.out (decide_eq_false h1))
          have d1 : (x.2.1 == t) = false := by simp [h1]
          clear h1
          go_wp2_with fail
          go_roundw
          case rel => exact ⟨j + 1, by omega, by go_num, ⟨g, cap, by rw [hst.out], by rw [hst.out]; exact hown2⟩, hb12⟩
          case measure => simp [intOf]; omega
      · obtain rfl : j = l.length := by omega
        have hrow : passRel w.heap.size 3 (selI (onTrust t) l l.length) (.slice (some ⟨g, 0, none⟩) (selI (onTrust t) l l.length).length cap) wr := ⟨g, cap, rfl, hown⟩
        generalize selI (onTrust t) l l.length = L at *
        go_wp2_with fail
        go_ret
        exact retI_of hrow hres.out.symm hb

theorem infoFn : (Try.prog.info? 55).map (fun i => i.zero) = some (some .nilFunc) := by kernel_rfl
theorem zeroFn (w : World) : (zeroValue 55).run Try.prog w = .ok .nilFunc w := by kernel_rfl
theorem tD_at (f : Nat → Nat) (t : Int) (j : Nat) (hj : j < 4) (ht : t = j) : (tD f 4).atKey (.int .i64 t) (.held .nilFunc) = .held (tfn (f j)) ∧ Maps.has (tD f 4) (.int .i64 t) = true := by
  subst ht
  rw [tD_four]
  have : j = 0 ∨ j = 1 ∨ j = 2 ∨ j = 3 := by omega
  rcases this with rfl | rfl | rfl | rfl <;> exact ⟨by rfl, by rfl⟩
theorem tD_no (f : Nat → Nat) (t : Int) (h : ¬ (0 ≤ t ∧ t ≤ 3)) : Maps.has (tD f 4) (.int .i64 t) = false := by
  rw [tD_four, Maps.has_eq]
  simp only [List.any_cons, List.any_nil, Bool.or_false, Bool.or_eq_false_iff]
  refine ⟨Maps.sameKey_ne ?_, Maps.sameKey_ne ?_, Maps.sameKey_ne ?_, Maps.sameKey_ne ?_⟩ <;> (intro e; injection e with _ e; omega)
theorem own_alloc2 {w : World} {base size n : Nat} {e : TypeId} {v : Value} {xs : List Value} (h : w.ownsRow base e size v n xs) (o : Obj) : (w.alloc o).ownsRow base e size v n xs := h.alloc o
theorem RV_inv {v : Value} {d : Value} {ps : List MemPlace} (h : RV v = some (.held d, ps)) : v = d := by
  simp only [RV, Option.some.injEq, Prod.mk.injEq, DataW.held.injEq] at h; exact h.1

set_option maxHeartbeats 4000000 in
theorem iTrust_any (A : Option Addr) (c lo hi : Nat) (l : List T3) (t : Int) (w : World) (hl : l.length ≤ 1048576) (hr : Rd w lo hi A (flat3 l)) (hh : hi ≤ w.heap.size) (ht1 : -1000 ≤ t) (ht2 : t ≤ 1000) :
    Calls Try.prog 13 #[.slice A l.length c, .int .i64 t] w (RetI 3 (trustL l t) w) := by
  obtain ⟨i0, hi0, hz0, hz1, hz2⟩ := info_parts infoInt
  have hkey : keyOf Try.prog 3 (.int .i64 t) = some (.int .i64 t) := Go.Maps.keyOf_int_mk Try.underlying3 (by simp [Lit.wf, IntKind.min, IntKind.max, IntKind.signed, IntKind.bits]; omega)
  have hb1 : Below w.heap.size w (w.alloc (.cells #[] 3)) := below_alloc (Below.refl _ _) _
  go_enter Try.func13, Try.ntmps13
  go_wp2_with fail
  refine (trustTests_any _).mono ?_
  rintro e w2 ⟨rfl, ⟨f, hm, hf⟩, hb2⟩
  have hb12 := hb1.trans (hb2.mono hb1.size)
  have hown2 := own_below (own_lit0 w _ 3 1 (Nat.le_refl _)) hb2
  have hbs2 := hb12.size
  have HF := Lib.hid hf
  have hm : w2.ownsMap Try.prog 3 RV (w.heap.size + 1) 4 (tD f 4) := by simpa using hm
  clear hb1 hb2 hf
  by_cases hr4 : 0 ≤ t ∧ t ≤ 3
  case neg =>
    have hres := Lib.hid (trustL_none (l := l) hr4)
    have hno := tD_no f t hr4
    clear hr4
    go_wp2_with (at_lookup; go_must (refine wpList_lookup_own_ok _ rfl _ _ 57 rfl 3 55 int_key Try.underlying57 RV (zeroFn _) (.held .nilFunc) [] rfl _ 4 (tD f 4) rfl hm _ _ rfl hkey ?_); intro v ps hv; rw [hno])
    go_ret
    exact retI_of (M := []) ⟨_, _, rfl, hown2⟩ hres.out.symm hb12
  obtain ⟨j, hj⟩ := Int.eq_ofNat_of_zero_le hr4.1
  have hj4 : j < 4 := by omega
  obtain ⟨k1, k2⟩ := tD_at f t j hj4 hj
  obtain ⟨f1, f2, f3⟩ := HF.out j hj4
  rw [← hj] at f3
  have K1 := Lib.hid k1
  have HJ := Lib.hid hj
  generalize f j = a at *
  clear hj k1
  go_wp2_with (at_lookup; go_must (refine wpList_lookup_own_ok _ rfl _ _ 57 rfl 3 55 int_key Try.underlying57 RV (zeroFn _) (.held .nilFunc) [] rfl _ 4 (tD f 4) rfl hm _ _ rfl hkey ?_); intro v ps hv; rw [k2]; rw [K1.out] at hv; obtain rfl := RV_inv hv; unfold tfn)
  refine (iGatesValid A c lo hi l _ hl (hr.below hb12 hh) (Nat.le_trans hh hbs2)).mono ?_
  rintro e w3 ⟨rfl, hb3⟩
  have hb13 := hb12.trans (hb3.mono hbs2)
  have hown3 := own_below hown2 hb3
  have hcl := (hb3.cell (p := ⟨a, 0, none⟩) f2).trans f3
  have hbs3 := hb3.size
  cases hv : gatesB l
  · have hres := Lib.hid (show trustL l t = [] by simp [trustL, hv])
    clear hv
    go_wp2_with fail
    go_ret
    exact retI_of (M := []) ⟨_, _, rfl, hown3⟩ hres.out.symm hb13
  have hres := Lib.hid (show trustL l t = selI (onTrust t) l l.length by simp [trustL, hv])
  have hl10 : l.length ≤ 10 := gatesB_le10 hv
  clear hv
  go_wp2_with fail
  have hga : w.heap.size ≠ a := by simp at f1; omega
  have ha3 : a < w3.heap.size := by omega
  clear HF hm hb12 hown2 hbs2 f1 f2 f3 hb3
  go_loopw [5, 27] (fun v i wr => ∃ (j g cap : Nat), j ≤ l.length ∧ i = .int .i64 j ∧ v = .slice (some ⟨g, 0, none⟩) (selI (onTrust t) l j).length cap ∧ wr.ownsRow w.heap.size 3 1 (.slice (some ⟨g, 0, none⟩) (selI (onTrust t) l j).length cap) (selI (onTrust t) l j).length (ints (selI (onTrust t) l j)) ∧ g ≠ a ∧ a < wr.heap.size ∧ wr.cell? ⟨a, 0, none⟩ = some (.int .i64 t) ∧ Below w.heap.size w wr) (fun _ i _ => l.length - (intOf i).toNat)
  case atStart => exact ⟨0, _, _, Nat.zero_le _, rfl, rfl, hown3, hga, ha3, hcl, hb13⟩
  case round =>
    obtain ⟨j, g, cap, hj, rfl, rfl, hown, hgne, hal, hcw, hb⟩ := hrel
    have hbs := hb.size
    clear hown3 hcl hb13
    by_cases hlt : j < l.length
    · have hlj := selI_len (onTrust t) l j
      have hy := Lib.hid (selI_yes (onTrust t) l j hlt)
      have hn := Lib.hid (selI_no (onTrust t) l j hlt)
      obtain ⟨bb, off, rfl, hlo, hhi, c0, c1, c2⟩ := (hr.below hb hh).at3 j hlt
      obtain ⟨x, hx⟩ : ∃ x, x = l[j] := ⟨_, rfl⟩
      rw [← hx] at c0 c1 c2 hy hn
      clear hx
      generalize selI (onTrust t) l j = L at *
      have hcA : (wr.alloc (.cells #[.int .i64 x.1, .int .i64 x.2.1, .int .i64 x.2.2] 37)).cell? ⟨a, 0, none⟩ = some (.int .i64 t) := (cell_alloc1 _ hal).trans hcw
      have hbA := below_alloc hb (.cells #[.int .i64 x.1, .int .i64 x.2.1, .int .i64 x.2.2] 37)
      have howA := own_alloc2 hown (.cells #[.int .i64 x.1, .int .i64 x.2.1, .int .i64 x.2.2] 37)
      go_wp2_with fail
      refine (clo_any x a t _ (by simp; omega) hcA).mono ?_
      rintro e w4 ⟨rfl, hb4⟩
      have hb14 := hbA.trans (hb4.mono hbA.size)
      have hown4 := own_below howA hb4
      have hs4 := hb4.size
      have ha4 : a < w4.heap.size := by simp at hs4; omega
      have hc4 := (hb4.cell (p := ⟨a, 0, none⟩) (by show a < _; simp; omega)).trans hcA
      have hbs4 := hb14.size
      clear hb4 hcA hbA howA hown hcw c0 c1 c2
      by_cases h1 : x.2.1 = t
      · have hst := Lib.hid (hy.out (decide_eq_true h1))
        have d1 : (x.2.1 == t) = true := by simp [h1]
        clear h1
        go_wp2_with (at_builtin; go_must (refine wpList_append1 rfl _ _ 32 rfl w.heap.size 3 i0 _ Try.underlying32 hi0 hz0 hz1 hz2 rfl (.slice (some ⟨g, 0, none⟩) L.length cap) L rfl (hown4.alloc _) w4.heap.size _ (nb1 _ _) rfl (by omega) (ls1 hbs4 _) ?_); intro g2 cap2 w5 hown5 hg5 hor5 _)
        have hb5 := below_grown (below_alloc hb14 _) (ls1 hbs4 _) (hown4.alloc _) (Nat.le_refl _) hg5
        have hg2 : g2 ≠ a := by
          rcases hor5 with h | h
          · simp only [Value.ownBlock, Option.some.injEq] at h; omega
          · simp at h; omega
        have hc5 := (cell_ne (o := 0) hg5 (by simp; omega) (fun e => hgne e.symm)).trans ((cell_alloc1 (p := ⟨a, 0, none⟩) _ ha4).trans hc4)
        have hs5 := hg5.size
        go_roundw
        case rel => exact ⟨j + 1, g2, cap2, by omega, by go_num, by rw [hst.out]; simp, by rw [hst.out]; simpa using hown5, hg2, by simp at hs5; omega, hc5, hb5⟩
        case measure => simp [intOf]; omega
      · have hst := Lib.hid (hn.out (decide_eq_false h1))
        have d1 : (x.2.1 == t) = false := by simp [h1]
        clear h1
        go_wp2_with fail
        go_roundw
        case rel => exact ⟨j + 1, g, cap, by omega, by go_num, by rw [hst.out], by rw [hst.out]; exact hown4, hgne, ha4, hc4, hb14⟩
        case measure => simp [intOf]; omega
    · obtain rfl : j = l.length := by omega
      have hrow : passRel w.heap.size 3 (selI (onTrust t) l l.length) (.slice (some ⟨g, 0, none⟩) (selI (onTrust t) l l.length).length cap) wr := ⟨g, cap, rfl, hown⟩
      generalize selI (onTrust t) l l.length = L at *
      go_wp2_with fail
      go_ret
      exact retI_of hrow hres.out.symm hb

end Go.Proofs.Ytgalkbnlpadpfaa

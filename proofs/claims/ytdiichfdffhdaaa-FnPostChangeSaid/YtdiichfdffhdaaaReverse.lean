/-
  Contract of slices.Reverse at rides; append of triples that may be none.
-/
import Derived.Test.YtdiichfdffhdaaaApp
import Derived.Test.YtdiichfdffhdaaaApart
namespace Go.Proofs.Ytdiichfdffhdaaa
open Go.RowKit

section
variable {P : Program} {w : World} {ops : Array Oper} {rest : List Oper} {o : Oper} {a : Act} {Q : Exit → Act → World → Prop}
/-- append(xs, ys...), both of triples. -/
theorem wpList_appendA3 (hgd : o.guard = none) (s x : Operand) (t : TypeId) (ho : o.op = .call { callee := .builtin .append, args := #[s, x], argTypes := #[t, t] })
    (base : Nat) (e : TypeId) (i : TypeInfo) (z : Value) (ht : P.underlying t = some (.slice e)) (hi : P.info? e = some i) (hz : i.zero = some z) (hsize : i.size = 3) (hby : i.bytes = 24) (hzs : z.cells.size = 3)
    (v : Value) (l : List T3) (hs : a.eval s = v) (hown : w.ownsRow base e 3 v l.length (flat3 l)) (A : Option Addr) (m : List T3) (c lo hi' : Nat) (hr : Rd w lo hi' A (flat3 m))
    (hx : a.eval x = .slice A m.length c) (hl : l.length ≤ 2097152) (hml : m.length ≤ 2097152) (hbase : base ≤ w.heap.size)
    (h : ∀ A' c' w', w'.ownsRow base e 3 (.slice A' (l ++ m).length c') (l ++ m).length (flat3 (l ++ m)) → w.grownBy w' v.ownBlock → ((Value.slice A' (l ++ m).length c').ownBlock = v.ownBlock ∨ (Value.slice A' (l ++ m).length c').ownBlock = some w.heap.size) → wpList P ops Q rest (a.put o.dst (.slice A' (l ++ m).length c')) w') : wpList P ops Q (o :: rest) a w := by
  refine wpList_plain hgd fun _ hK => wp_appendRd s x t ho base e i z 3 24 ht hi hz hsize hby hzs (by omega) v l.length (flat3 l) hs hown lo hi' A m.length c (flat3 m) hx hr (by rw [flat3_length]) (flat3_one m) (by unfold maxLen; omega) (by omega) hbase ?_
  intro A' c' w' h2 h3 h4
  have e1 : l.length + m.length = (l ++ m).length := by simp
  rw [e1] at h2 h4 ⊢
  rw [← flat3_append] at h2
  exact hK _ _ (h A' c' w' h2 h3 h4)
end
def swapN (L : List T3) : Nat → List T3
  | 0 => L
  | k + 1 => ((swapN L k).set k ((swapN L k).getD (L.length - 1 - k) (0, 0, 0))).set (L.length - 1 - k) ((swapN L k).getD k (0, 0, 0))
theorem swapN_len (L : List T3) (k : Nat) : (swapN L k).length = L.length := by
  induction k with
  | zero => rfl
  | succ k ih => simp only [swapN, List.length_set, ih]
theorem swapN_get (L : List T3) (k : Nat) (h : 2 * k ≤ L.length) (p : Nat) (hp : p < L.length) : (swapN L k)[p]? = if p < k ∨ L.length - 1 - p < k then L[L.length - 1 - p]? else L[p]? := by
  induction k generalizing p with
  | zero => simp [swapN]
  | succ k ih =>
    have h1 := ih (by omega)
    have hl := swapN_len L k
    simp only [swapN]
    by_cases e1 : p = L.length - 1 - k
    · subst e1
      rw [List.getElem?_set_self (by rw [List.length_set, hl]; omega), if_pos (.inr (by omega)), List.getD_eq_getElem?_getD, h1 k (by omega), if_neg (by omega), show L.length - 1 - (L.length - 1 - k) = k by omega, List.getElem?_eq_getElem (by omega)]
      rfl
    · rw [List.getElem?_set_ne (Ne.symm e1)]
      by_cases e2 : p = k
      · subst e2
        rw [List.getElem?_set_self (by rw [hl]; omega), if_pos (.inl (by omega)), List.getD_eq_getElem?_getD, h1 (L.length - 1 - p) (by omega), if_neg (by omega), List.getElem?_eq_getElem (show L.length - 1 - p < L.length by omega)]
        rfl
      · rw [List.getElem?_set_ne (Ne.symm e2), h1 p hp]
        by_cases e3 : p < k ∨ L.length - 1 - p < k
        · rw [if_pos e3, if_pos (by omega)]
        · rw [if_neg e3, if_neg (by omega)]
theorem swapN_end (L : List T3) (k : Nat) (h : 2 * k ≤ L.length) (h2 : L.length ≤ 2 * k + 1) : swapN L k = L.reverse := by
  apply List.ext_getElem?
  intro p
  by_cases hp : p < L.length
  · rw [swapN_get L k h p hp, List.getElem?_reverse hp]
    by_cases e : p < k ∨ L.length - 1 - p < k
    · rw [if_pos e]
    · rw [if_neg e]; congr 1; omega
  · rw [List.getElem?_eq_none (by rw [swapN_len]; omega), List.getElem?_eq_none (by rw [List.length_reverse]; omega)]

theorem gr_refl' (w : World) (row : Option Nat) : w.grownBy w row := ⟨rfl, rfl, rfl, Nat.le_refl _, fun _ _ _ => rfl⟩
theorem gr_st {a w : World} {g : Nat} (h : a.grownBy w (some g)) (o : Nat) (u : Value) : a.grownBy (w.setCell ⟨g, o, none⟩ u) (some g) := h.trans ⟨rfl, rfl, rfl, by simp, fun j _ hj => Below.heap_setCell _ _ _ _ (fun e => hj (by rw [e]))⟩
theorem own_dr {w : World} {base size n : Nat} {e : TypeId} {v : Value} {xs : List Value} (h : w.ownsRow base e size v n xs) : w.drew.ownsRow base e size v n xs := h
theorem gr_dr {a w : World} {row : Option Nat} (h : a.grownBy w row) : a.grownBy w.drew row := ⟨h.os, h.tape, h.output, h.size, h.block⟩
set_option maxRecDepth 100000 in
set_option maxHeartbeats 4000000 in
theorem reverse_any (g cap base : Nat) (L : List T3) (w : World) (hL : L.length ≤ 1048576) (ho : w.ownsRow base 33 3 (.slice (some ⟨g, 0, none⟩) L.length cap) L.length (flat3 L)) :
    Calls Try.prog 58 #[.slice (some ⟨g, 0, none⟩) L.length cap] w fun e w' => (∃ v, e = .returned v) ∧ w'.ownsRow base 33 3 (.slice (some ⟨g, 0, none⟩) L.length cap) L.length (flat3 L.reverse) ∧ w.grownBy w' (some g) := by
  have HO := Lib.hid (show w.ownsRow base 33 3 (.slice (some ⟨g, 0, none⟩) L.length cap) L.length (flat3 (swapN L 0)) from ho)
  clear ho
  go_enter Try.func58, Try.ntmps58
  go_wp2_with fail
  go_loopw [2, 3] (fun i j wr => ∃ k : Nat, 2 * k ≤ L.length ∧ i = .int .i64 k ∧ j = .int .i64 ((L.length : Int) - 1 - k) ∧ Hid (wr.ownsRow base 33 3 (.slice (some ⟨g, 0, none⟩) L.length cap) L.length (flat3 (swapN L k))) ∧ w.grownBy wr (some g)) (fun i _ _ => L.length - (intOf i).toNat)
  case atStart => exact ⟨0, by omega, rfl, by simp, HO, gr_refl' _ _⟩
  case round =>
    obtain ⟨k, hk, rfl, rfl, HK, hg⟩ := hrel
    clear HO
    by_cases hlt : (k : Int) < (L.length : Int) - 1 - k
    · have hl := swapN_len L k
      have hown := HK.out
      have hk1 : k < (swapN L k).length := by omega
      have hj1 : L.length - 1 - k < (swapN L k).length := by omega
      obtain ⟨a0, a1, a2⟩ := own3_cells hown k hk1
      obtain ⟨b0, b1, b2⟩ := own3_cells hown (L.length - 1 - k) hj1
      obtain ⟨x, hx⟩ : ∃ x, x = (swapN L k)[k] := ⟨_, rfl⟩
      obtain ⟨y, hy⟩ : ∃ y, y = (swapN L k)[L.length - 1 - k] := ⟨_, rfl⟩
      rw [← hx] at a0 a1 a2
      rw [← hy] at b0 b1 b2
      obtain ⟨J, hJ⟩ : ∃ J : Nat, J = L.length - 1 - k := ⟨_, rfl⟩
      have hJe : (L.length : Int) - 1 - (k : Int) = (J : Int) := by omega
      rw [← hJ] at b0 b1 b2
      have hst := Lib.hid (own3_store (own3_store hown k y) J x)
      have hnx := Lib.hid (show ((swapN L k).set k y).set J x = swapN L (k + 1) by
        simp only [swapN]
        rw [List.getD_eq_getElem?_getD, List.getElem?_eq_getElem hj1, List.getD_eq_getElem?_getD, List.getElem?_eq_getElem hk1, ← hx, ← hy, ← hJ]; rfl)
      have hgl := own_lt hown
      have fz := fun o => hown.frozenAt o
      have hkJ : k < J := by omega
      have hJL : J < L.length := by omega
      have hJ2 : (k : Int) < (J : Int) := by omega
      have hkL : (k : Int) < (L.length : Int) := by omega
      have hJL2 : (J : Int) < (L.length : Int) := by omega
      have hk2 : 2 * (k + 1) ≤ L.length := by omega
      rw [hJe]
      have HJE := Lib.hid hJe
      clear hx hy hJ hJe hown hl hk1 hj1 hlt
      go_wp2_with fail
      go_region
      obtain ⟨V, hV⟩ : ∃ V, V = ((((((wr.setCell ⟨g, k * 3, none⟩ (.int .i64 y.1)).setCell ⟨g, k * 3 + 1, none⟩ (.int .i64 y.2.1)).setCell ⟨g, k * 3 + 2, none⟩ (.int .i64 y.2.2)).setCell ⟨g, J * 3, none⟩ (.int .i64 x.1)).setCell ⟨g, J * 3 + 1, none⟩ (.int .i64 x.2.1)).setCell ⟨g, J * 3 + 2, none⟩ (.int .i64 x.2.2)).drew := ⟨_, rfl⟩
      have hoV := Lib.hid (show V.ownsRow base 33 3 (.slice (some ⟨g, 0, none⟩) L.length cap) L.length (flat3 (swapN L (k + 1))) by rw [hV, ← hnx.out]; exact own_dr hst.out)
      have hgV := Lib.hid (show w.grownBy V (some g) by
        rw [hV]
        exact gr_dr (gr_st (gr_st (gr_st (gr_st (gr_st (gr_st hg _ _) _ _) _ _) _ _) _ _) _ _))
      rw [← hV]
      clear hV hst a0 a1 a2 b0 b1 b2 fz hgl
      go_wp2_with fail
      go_roundw
      case rel => exact ⟨k + 1, hk2, by go_num, by have := HJE.out; congr 1; push_cast; omega, hoV, hgV.out⟩
      case measure => simp [intOf]; omega
    · have hfin := Lib.hid (swapN_end L k hk (by omega))
      go_wp2_with fail
      go_end0
      exact ⟨⟨_, rfl⟩, by rw [← hfin.out]; exact HK.out, hg⟩

end Go.Proofs.Ytdiichfdffhdaaa

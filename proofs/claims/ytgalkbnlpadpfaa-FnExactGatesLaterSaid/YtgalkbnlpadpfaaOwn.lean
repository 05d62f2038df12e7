/-
  Laws of append for slices of structs of three integers and for slices of integers; empty and one-element literals.
-/
import Derived.Test.YtgalkbnlpadpfaaBase
import Derived.Deep.RegionHeld3
namespace Go.Proofs.Ytgalkbnlpadpfaa
open Go.RowKit

theorem own_lit0 (w : World) (B : Nat) (E : TypeId) (size : Nat) (hb : B ≤ w.heap.size) : (w.alloc (.cells #[] E)).ownsRow B E size (.slice (some ⟨w.heap.size, 0, none⟩) 0 0) 0 [] := by
  have := World.ownsRow_lit (base := B) (e := E) (size := size) w #[] 0 hb (by unfold maxLen; omega) (by simp)
  simpa using this
theorem own_lit1 (w : World) (B : Nat) (E : TypeId) (n : Int) (hb : B ≤ w.heap.size) : (w.alloc (.cells #[.int .i64 n] E)).ownsRow B E 1 (.slice (some ⟨w.heap.size, 0, none⟩) 1 1) 1 (ints [n]) := by
  have := World.ownsRow_lit (base := B) (e := E) (size := 1) w #[.int .i64 n] 1 hb (by unfold maxLen; omega) (by simp)
  simpa [ints] using this
theorem own_grown {w w' : World} {base : Nat} {e : TypeId} {size n m : Nat} {v u : Value} {xs : List Value} (h : w.ownsRow base e size v n xs) (hg : w.grownBy w' u.ownBlock) (hne : ∀ k, v.ownBlock = some k → u.ownBlock ≠ some k) : w'.ownsRow base e size v n xs :=
  h.kept hg (by cases hv : v.ownBlock with
    | none => exact .inl rfl
    | some k => exact .inr (fun e => hne k hv e.symm))
theorem below_grown {B : Nat} {a w w' : World} {base : Nat} {e : TypeId} {size n : Nat} {v : Value} {xs : List Value} (h : Below B a w) (hB : B ≤ w.heap.size) (hown : w.ownsRow base e size v n xs) (hb : B ≤ base) (hg : w.grownBy w' v.ownBlock) : Below B a w' :=
  h.grown hg hB (fun k hk => Nat.le_trans hb (hown.lt k hk).1)

theorem cell_two {B : Nat} {W a b : World} {p : Addr} {v : Value} (h1 : Below B W a) (h2 : Below B W b) (hp : p.block < B) (hc : a.cell? p = some v) : b.cell? p = some v := by
  rw [h2.cell hp, ← h1.cell hp]; exact hc
theorem nb1 (w : World) (o : Obj) : (w.alloc o).heap[w.heap.size]? = some o := heap_alloc_new w o
theorem nb2 (w : World) (p o : Obj) : ((w.alloc p).alloc o).heap[w.heap.size + 1]? = some o := by simpa using heap_alloc_new (w.alloc p) o
theorem nb3 (w : World) (p q o : Obj) : (((w.alloc p).alloc q).alloc o).heap[w.heap.size + 1 + 1]? = some o := by simpa using heap_alloc_new ((w.alloc p).alloc q) o
theorem ls1 {B : Nat} {w : World} (h : B ≤ w.heap.size) (o : Obj) : B ≤ (w.alloc o).heap.size := by simp; omega
theorem ls2 {B : Nat} {w : World} (h : B ≤ w.heap.size) (p o : Obj) : B ≤ ((w.alloc p).alloc o).heap.size := ls1 (ls1 h _) _
theorem ls3 {B : Nat} {w : World} (h : B ≤ w.heap.size) (p q o : Obj) : B ≤ (((w.alloc p).alloc q).alloc o).heap.size := ls1 (ls2 h _ _) _

section
variable {P : Program} {w : World} {ops : Array Oper} {rest : List Oper} {o : Oper} {a : Act} {Q : Exit → Act → World → Prop}
theorem wpList_append3 (hgd : o.guard = none) (s x : Operand) (t : TypeId) (ho : o.op = .call { callee := .builtin .append, args := #[s, x], argTypes := #[t, t] })
    (base : Nat) (e : TypeId) (i : TypeInfo) (z : Value) (ht : P.underlying t = some (.slice e)) (hi : P.info? e = some i) (hz : i.zero = some z) (hsize : i.size = 3) (hby : i.bytes = 24) (hzs : z.cells.size = 3)
    (v : Value) (l : List T3) (hs : a.eval s = v) (hown : w.ownsRow base e 3 v l.length (flat3 l)) (B : Nat) (x0 x1 x2 : Int) (hB : w.heap[B]? = some (.cells #[.int .i64 x0, .int .i64 x1, .int .i64 x2] e (0, 0)))
    (hx : a.eval x = .slice (some ⟨B, 0, none⟩) 1 1) (hl : l.length ≤ 8388608) (hbase : base ≤ w.heap.size)
    (h : ∀ g cap w', w'.ownsRow base e 3 (.slice (some ⟨g, 0, none⟩) (l.length + 1) cap) (l.length + 1) (flat3 (l ++ [(x0, x1, x2)])) → w.grownBy w' v.ownBlock → (v.ownBlock = some g ∨ g = w.heap.size) → g < w'.heap.size → wpList P ops Q rest (a.put o.dst (.slice (some ⟨g, 0, none⟩) (l.length + 1) cap)) w') : wpList P ops Q (o :: rest) a w := by
  refine wpList_append_lies (w := w) hgd s x t ho base e i z 3 24 ht hi hz hsize hby hzs (by omega) v l.length (flat3 l) hs hown ⟨B, 0, none⟩ 1 1 [.int .i64 x0, .int .i64 x1, .int .i64 x2] hx rfl (World.news_of_block hB) (by simp [Value.oneCell']) (by omega) (by unfold maxLen; omega) (by omega) hbase _ rfl ?_
  intro g cap w' h2 h3 h4 h5
  refine h g cap w' ?_ h3 h4 h5
  rw [flat3_append]
  exact h2
theorem wpList_append1 (hgd : o.guard = none) (s x : Operand) (t : TypeId) (ho : o.op = .call { callee := .builtin .append, args := #[s, x], argTypes := #[t, t] })
    (base : Nat) (e : TypeId) (i : TypeInfo) (z : Value) (ht : P.underlying t = some (.slice e)) (hi : P.info? e = some i) (hz : i.zero = some z) (hsize : i.size = 1) (hby : i.bytes = 8) (hzs : z.cells.size = 1)
    (v : Value) (l : List Int) (hs : a.eval s = v) (hown : w.ownsRow base e 1 v l.length (ints l)) (B : Nat) (x0 : Int) (hB : w.heap[B]? = some (.cells #[.int .i64 x0] e (0, 0)))
    (hx : a.eval x = .slice (some ⟨B, 0, none⟩) 1 1) (hl : l.length ≤ 8388608) (hbase : base ≤ w.heap.size)
    (h : ∀ g cap w', w'.ownsRow base e 1 (.slice (some ⟨g, 0, none⟩) (l.length + 1) cap) (l.length + 1) (ints (l ++ [x0])) → w.grownBy w' v.ownBlock → (v.ownBlock = some g ∨ g = w.heap.size) → g < w'.heap.size → wpList P ops Q rest (a.put o.dst (.slice (some ⟨g, 0, none⟩) (l.length + 1) cap)) w') : wpList P ops Q (o :: rest) a w := by
  refine wpList_append_lies (w := w) hgd s x t ho base e i z 1 8 ht hi hz hsize hby hzs (by omega) v l.length (ints l) hs hown ⟨B, 0, none⟩ 1 1 [.int .i64 x0] hx rfl (World.news_of_block hB) (by simp [Value.oneCell']) (by omega) (by unfold maxLen; omega) (by omega) hbase _ rfl ?_
  intro g cap w' h2 h3 h4 h5
  refine h g cap w' ?_ h3 h4 h5
  rw [ints_append]
  exact h2
end
section
variable {P : Program} {w : World} {ops : Array Oper} {o : Oper} {a : Act} {K : Act → World → Prop} {Q : Exit → Act → World → Prop} {F : Prop}
theorem step_append3 (hgd : o.guard = none) (s x : Operand) (t : TypeId) (ho : o.op = .call { callee := .builtin .append, args := #[s, x], argTypes := #[t, t] })
    (base : Nat) (e : TypeId) (i : TypeInfo) (z : Value) (ht : P.underlying t = some (.slice e)) (hi : P.info? e = some i) (hz : i.zero = some z) (hsize : i.size = 3) (hby : i.bytes = 24) (hzs : z.cells.size = 3)
    (v : Value) (l : List T3) (hs : a.eval s = v) (hown : w.ownsRow base e 3 v l.length (flat3 l)) (B : Nat) (x0 x1 x2 : Int) (hB : w.heap[B]? = some (.cells #[.int .i64 x0, .int .i64 x1, .int .i64 x2] e (0, 0)))
    (hx : a.eval x = .slice (some ⟨B, 0, none⟩) 1 1) (hl : l.length ≤ 8388608) (hbase : base ≤ w.heap.size)
    (h : ∀ g cap w', w'.ownsRow base e 3 (.slice (some ⟨g, 0, none⟩) (l.length + 1) cap) (l.length + 1) (flat3 (l ++ [(x0, x1, x2)])) → w.grownBy w' v.ownBlock → (v.ownBlock = some g ∨ g = w.heap.size) → g < w'.heap.size → K (a.put o.dst (.slice (some ⟨g, 0, none⟩) (l.length + 1) cap)) w') :
    if Region.wanted o (yielded ops a.tmps) = true then Oper.wp P o a w K Q else F := by
  refine step_append_lies (w := w) hgd s x t ho base e i z 3 24 ht hi hz hsize hby hzs (by omega) v l.length (flat3 l) hs hown ⟨B, 0, none⟩ 1 1 [.int .i64 x0, .int .i64 x1, .int .i64 x2] hx rfl (World.news_of_block hB) (by simp [Value.oneCell']) (by omega) (by unfold maxLen; omega) (by omega) hbase _ rfl ?_
  intro g cap w' h2 h3 h4 h5
  refine h g cap w' ?_ h3 h4 h5
  rw [flat3_append]
  exact h2
theorem step_append1 (hgd : o.guard = none) (s x : Operand) (t : TypeId) (ho : o.op = .call { callee := .builtin .append, args := #[s, x], argTypes := #[t, t] })
    (base : Nat) (e : TypeId) (i : TypeInfo) (z : Value) (ht : P.underlying t = some (.slice e)) (hi : P.info? e = some i) (hz : i.zero = some z) (hsize : i.size = 1) (hby : i.bytes = 8) (hzs : z.cells.size = 1)
    (v : Value) (l : List Int) (hs : a.eval s = v) (hown : w.ownsRow base e 1 v l.length (ints l)) (B : Nat) (x0 : Int) (hB : w.heap[B]? = some (.cells #[.int .i64 x0] e (0, 0)))
    (hx : a.eval x = .slice (some ⟨B, 0, none⟩) 1 1) (hl : l.length ≤ 8388608) (hbase : base ≤ w.heap.size)
    (h : ∀ g cap w', w'.ownsRow base e 1 (.slice (some ⟨g, 0, none⟩) (l.length + 1) cap) (l.length + 1) (ints (l ++ [x0])) → w.grownBy w' v.ownBlock → (v.ownBlock = some g ∨ g = w.heap.size) → g < w'.heap.size → K (a.put o.dst (.slice (some ⟨g, 0, none⟩) (l.length + 1) cap)) w') :
    if Region.wanted o (yielded ops a.tmps) = true then Oper.wp P o a w K Q else F := by
  refine step_append_lies (w := w) hgd s x t ho base e i z 1 8 ht hi hz hsize hby hzs (by omega) v l.length (ints l) hs hown ⟨B, 0, none⟩ 1 1 [.int .i64 x0] hx rfl (World.news_of_block hB) (by simp [Value.oneCell']) (by omega) (by unfold maxLen; omega) (by omega) hbase _ rfl ?_
  intro g cap w' h2 h3 h4 h5
  refine h g cap w' ?_ h3 h4 h5
  rw [ints_append]
  exact h2
end

end Go.Proofs.Ytgalkbnlpadpfaa

/-
  Laws of append for slices of structs of three integers and for slices of integers; empty and one-element literals.
-/
import Derived.Test.YtdiichfdffhdaaaBase
import Derived.Deep.RegionHeld3
namespace Go.Proofs.Ytdiichfdffhdaaa
open Go.RowKit

theorem own_lit0 (w : World) (B : Nat) (E : TypeId) (size : Nat) (hb : B ≤ w.heap.size) : (w.alloc (.cells #[] E)).ownsRow B E size (.slice (some ⟨w.heap.size, 0, none⟩) 0 0) 0 [] := by
  have := World.ownsRow_lit (base := B) (e := E) (size := size) w #[] 0 hb (by unfold maxLen; omega) (by simp)
  simpa using this
theorem own_lit1 (w : World) (B : Nat) (E : TypeId) (n : Int) (hb : B ≤ w.heap.size) : (w.alloc (.cells #[.int .i64 n] E)).ownsRow B E 1 (.slice (some ⟨w.heap.size, 0, none⟩) 1 1) 1 (ints [n]) := by
  have := World.ownsRow_lit (base := B) (e := E) (size := 1) w #[.int .i64 n] 1 hb (by unfold maxLen; omega) (by simp)
  simpa [ints] using this
theorem own_grown {w w' : World} {base : Nat} {e : TypeId} {size n : Nat} {v u : Value} {xs : List Value} (h : w.ownsRow base e size v n xs) (hg : w.grownBy w' u.ownBlock) (hne : ∀ k, v.ownBlock = some k → u.ownBlock ≠ some k) : w'.ownsRow base e size v n xs :=
  h.kept hg (by cases hv : v.ownBlock with
    | none => exact .inl rfl
    | some k => exact .inr (fun e => hne k hv e.symm))
theorem below_grown {B : Nat} {a w w' : World} {base : Nat} {e : TypeId} {size n : Nat} {v : Value} {xs : List Value} (h : Below B a w) (hB : B ≤ w.heap.size) (hown : w.ownsRow base e size v n xs) (hb : B ≤ base) (hg : w.grownBy w' v.ownBlock) : Below B a w' :=
  h.grown hg hB (fun k hk => Nat.le_trans hb (hown.lt k hk).1)

theorem cell_two {B : Nat} {W a b : World} {p : Addr} {v : Value} (h1 : Below B W a) (h2 : Below B W b) (hp : p.block < B) (hc : a.cell? p = some v) : b.cell? p = some v := by
  rw [h2.cell hp, ← h1.cell hp]; exact hc
theorem own_cap {w : World} {base : Nat} {e : TypeId} {size n c : Nat} {A : Option Addr} {xs : List Value} (h : w.ownsRow base e size (.slice A n c) n xs) : n ≤ c := by
  rcases h.2 with ⟨h1, h2⟩ | ⟨g, cap, cur, h1, _, _, h2, _⟩
  · omega
  · injection h1 with _ _ h3; omega
/-- A slice of integers in new memory, and a bool. -/
def RetLB (E : TypeId) (l : List Int) (b : Bool) (w : World) (e : Ending) (w' : World) : Prop :=
  ∃ A c, e = .returned (.tuple #[.slice A l.length c, .bool b]) ∧ w'.ownsRow w.heap.size E 1 (.slice A l.length c) l.length (ints l) ∧ Below w.heap.size w w'
theorem retLB_no {E : TypeId} {l : List Int} {b : Bool} {w w1 : World} {n : Nat} (h : b = false) (hl : l = []) (hb : Below w.heap.size w w1) (hn : w1.heap.size = n) :
    RetLB E l b w (.returned (.tuple #[.slice (some ⟨n, 0, none⟩) 0 0, .bool false])) (w1.alloc (.cells #[] E)) := by
  subst hn h hl
  exact ⟨_, _, rfl, own_lit0 w1 _ E 1 hb.size, below_alloc hb _⟩
/-- Two slices of integers in new memory. -/
def RetLL (E : TypeId) (l m : List Int) (w : World) (e : Ending) (w' : World) : Prop :=
  ∃ A c B d, e = .returned (.tuple #[.slice A l.length c, .slice B m.length d]) ∧ w'.ownsRow w.heap.size E 1 (.slice A l.length c) l.length (ints l) ∧ w'.ownsRow w.heap.size E 1 (.slice B m.length d) m.length (ints m) ∧ Below w.heap.size w w'
def RetLLB (E : TypeId) (l m : List Int) (b : Bool) (w : World) (e : Ending) (w' : World) : Prop :=
  ∃ A c B d, e = .returned (.tuple #[.slice A l.length c, .slice B m.length d, .bool b]) ∧ w'.ownsRow w.heap.size E 1 (.slice A l.length c) l.length (ints l) ∧ w'.ownsRow w.heap.size E 1 (.slice B m.length d) m.length (ints m) ∧ Below w.heap.size w w'
theorem own_ne {w w' : World} {base g g' n m c c' size : Nat} {e : TypeId} {xs : List Value} (h : w.ownsRow base e size (.slice (some ⟨g, 0, none⟩) n c) n xs) (hg : w.grownBy w' (Value.slice (some ⟨g', 0, none⟩) m c').ownBlock) (hne : g ≠ g') : w'.ownsRow base e size (.slice (some ⟨g, 0, none⟩) n c) n xs :=
  h.kept hg (.inr (fun e => hne (by simpa [Value.ownBlock] using e)))
theorem cell_ne {w w' : World} {b o g' m c' : Nat} (hg : w.grownBy w' (Value.slice (some ⟨g', 0, none⟩) m c').ownBlock) (hb : b < w.heap.size) (hne : b ≠ g') : w'.cell? ⟨b, o, none⟩ = w.cell? ⟨b, o, none⟩ := by
  have := hg.block b hb (fun e => hne (by simpa [Value.ownBlock] using e))
  simp only [World.cell?, this]
theorem frozen_ne {w w' : World} {b o g' m c' : Nat} (hg : w.grownBy w' (Value.slice (some ⟨g', 0, none⟩) m c').ownBlock) (hb : b < w.heap.size) (hne : b ≠ g') : w'.frozen? ⟨b, o, none⟩ = w.frozen? ⟨b, o, none⟩ := by
  have := hg.block b hb (fun e => hne (by simpa [Value.ownBlock] using e))
  simp only [World.frozen?, this]
theorem own_setCell {w : World} {base b o g n c size : Nat} {e : TypeId} {xs : List Value} {u : Value} (h : w.ownsRow base e size (.slice (some ⟨g, 0, none⟩) n c) n xs) (hne : g ≠ b) : (w.setCell ⟨b, o, none⟩ u).ownsRow base e size (.slice (some ⟨g, 0, none⟩) n c) n xs :=
  h.kept (row := some b) ⟨rfl, rfl, rfl, by simp [World.setCell], fun k _ hk => Below.heap_setCell _ _ _ _ (fun e => hk (by rw [e]))⟩ (.inr (fun e => hne (by simpa [Value.ownBlock] using e)))
theorem own_drewN {w : World} {base size n : Nat} {e : TypeId} {v : Value} {xs : List Value} (h : w.ownsRow base e size v n xs) (q : Nat) : (w.drewN q).ownsRow base e size v n xs := h
theorem cell_up {B : Nat} {W a : World} {p : Addr} {v : Value} (h : Below B W a) (hp : p.block < B) (hc : W.cell? p = some v) : a.cell? p = some v := (h.cell hp).trans hc
theorem ne_of_or {ga gl g2 N n c : Nat} (h : (Value.slice (some ⟨ga, 0, none⟩) n c).ownBlock = some g2 ∨ g2 = N) (hne : ga ≠ gl) (hlt : gl < N) : g2 ≠ gl := by
  rcases h with h | h
  · simp only [Value.ownBlock, Option.some.injEq] at h; omega
  · omega
theorem cell_alloc1 {w : World} {p : Addr} (o1 : Obj) (h : p.block < w.heap.size) : (w.alloc o1).cell? p = w.cell? p :=
  ((Below.refl w.heap.size w).alloc (Nat.le_refl _) o1).cell h
theorem cell_alloc2 {w : World} {p : Addr} (o1 o2 : Obj) (h : p.block < w.heap.size) : ((w.alloc o1).alloc o2).cell? p = w.cell? p :=
  (((Below.refl w.heap.size w).alloc (Nat.le_refl _) o1).alloc (by simp) o2).cell h
theorem frozen_alloc1 {w : World} {p : Addr} (o1 : Obj) (h : p.block < w.heap.size) : (w.alloc o1).frozen? p = w.frozen? p :=
  ((Below.refl w.heap.size w).alloc (Nat.le_refl _) o1).frozen h
theorem own_mono {w : World} {base base' size n : Nat} {e : TypeId} {v : Value} {xs : List Value} (h : w.ownsRow base e size v n xs) (hb : base' ≤ base) : w.ownsRow base' e size v n xs := by
  refine ⟨h.1, ?_⟩
  rcases h.2 with h2 | ⟨g, cap, cur, h1, h2, h3⟩
  · exact .inl h2
  · exact .inr ⟨g, cap, cur, h1, by omega, h3⟩
theorem Rd.grown {w w' : World} {lo hi g m c : Nat} {A : Option Addr} {xs : List Value} (h : Rd w lo hi A xs) (hg : w.grownBy w' (Value.slice (some ⟨g, 0, none⟩) m c).ownBlock) (hne : g < lo ∨ hi ≤ g) (hh : hi ≤ w.heap.size) : Rd w' lo hi A xs :=
  h.keep fun p h1 h2 => World.cell?_of_block (hg.block p.block (by omega) (fun e => by simp only [Value.ownBlock, Option.some.injEq] at e; omega))
theorem Rd.setCell {w : World} {lo hi S o : Nat} {u : Value} {A : Option Addr} {xs : List Value} (h : Rd w lo hi A xs) (hne : hi ≤ S) : Rd (w.setCell ⟨S, o, none⟩ u) lo hi A xs :=
  h.keep fun p _ h2 => World.cell?_setCell_other _ _ _ _ (fun e => by rw [← e] at h2; simp only at h2; omega)
theorem Rd.drewN {w : World} {lo hi : Nat} {A : Option Addr} {xs : List Value} (h : Rd w lo hi A xs) (q : Nat) : Rd (w.drewN q) lo hi A xs := h
theorem Rd.drew {w : World} {lo hi : Nat} {A : Option Addr} {xs : List Value} (h : Rd w lo hi A xs) : Rd w.drew lo hi A xs := h
theorem Rd.alloc {w : World} {lo hi : Nat} {A : Option Addr} {xs : List Value} (h : Rd w lo hi A xs) (hh : hi ≤ w.heap.size) (o : Obj) : Rd (w.alloc o) lo hi A xs := h.keep fun p _ h2 => cell_alloc1 o (by omega)
theorem cell_set_ne {w : World} {S o b o' : Nat} {u : Value} (h : b ≠ S ∨ o' ≠ o) : (w.setCell ⟨S, o, none⟩ u).cell? ⟨b, o', none⟩ = w.cell? ⟨b, o', none⟩ :=
  World.cell?_setCell_other _ _ _ _ (fun e => by injection e with e1 e2; rcases h with h | h <;> omega)
theorem cell_set_same {w : World} {S o : Nat} {u v : Value} (h : w.cell? ⟨S, o, none⟩ = some v) : (w.setCell ⟨S, o, none⟩ u).cell? ⟨S, o, none⟩ = some u := World.cell?_setCell_same _ _ _ h
/-- A box of three integers, free to be written. -/
structure Box3 (w : World) (S : Nat) (x : T3) : Prop where
  lt : S < w.heap.size
  c0 : w.cell? ⟨S, 0, none⟩ = some (.int .i64 x.1)
  c1 : w.cell? ⟨S, 1, none⟩ = some (.int .i64 x.2.1)
  c2 : w.cell? ⟨S, 2, none⟩ = some (.int .i64 x.2.2)
  f0 : w.frozen? ⟨S, 0, none⟩ = false
  f1 : w.frozen? ⟨S, 1, none⟩ = false
  f2 : w.frozen? ⟨S, 2, none⟩ = false
theorem Box3.new (w : World) (x : T3) (E : TypeId) : Box3 (w.alloc (.cells #[.int .i64 x.1, .int .i64 x.2.1, .int .i64 x.2.2] E)) w.heap.size x :=
  ⟨by simp, by simp [go_sem], by simp [go_sem], by simp [go_sem], by simp [go_sem], by simp [go_sem], by simp [go_sem]⟩
theorem Box3.drew {w : World} {S : Nat} {x : T3} (h : Box3 w S x) : Box3 w.drew S x := ⟨h.lt, h.c0, h.c1, h.c2, h.f0, h.f1, h.f2⟩
theorem Box3.set0 {w : World} {S : Nat} {x : T3} (h : Box3 w S x) (n : Int) : Box3 (w.setCell ⟨S, 0, none⟩ (.int .i64 n)) S (n, x.2.1, x.2.2) :=
  ⟨by simpa using h.lt, cell_set_same h.c0, (cell_set_ne (.inr (by omega))).trans h.c1, (cell_set_ne (.inr (by omega))).trans h.c2, by rw [World.frozen?_setCell]; exact h.f0, by rw [World.frozen?_setCell]; exact h.f1, by rw [World.frozen?_setCell]; exact h.f2⟩
theorem Box3.set1 {w : World} {S : Nat} {x : T3} (h : Box3 w S x) (n : Int) : Box3 (w.setCell ⟨S, 1, none⟩ (.int .i64 n)) S (x.1, n, x.2.2) :=
  ⟨by simpa using h.lt, (cell_set_ne (.inr (by omega))).trans h.c0, cell_set_same h.c1, (cell_set_ne (.inr (by omega))).trans h.c2, by rw [World.frozen?_setCell]; exact h.f0, by rw [World.frozen?_setCell]; exact h.f1, by rw [World.frozen?_setCell]; exact h.f2⟩
theorem Box3.set2 {w : World} {S : Nat} {x : T3} (h : Box3 w S x) (n : Int) : Box3 (w.setCell ⟨S, 2, none⟩ (.int .i64 n)) S (x.1, x.2.1, n) :=
  ⟨by simpa using h.lt, (cell_set_ne (.inr (by omega))).trans h.c0, (cell_set_ne (.inr (by omega))).trans h.c1, cell_set_same h.c2, by rw [World.frozen?_setCell]; exact h.f0, by rw [World.frozen?_setCell]; exact h.f1, by rw [World.frozen?_setCell]; exact h.f2⟩
theorem nb1 (w : World) (o : Obj) : (w.alloc o).heap[w.heap.size]? = some o := heap_alloc_new w o
theorem nb2 (w : World) (p o : Obj) : ((w.alloc p).alloc o).heap[w.heap.size + 1]? = some o := by simpa using heap_alloc_new (w.alloc p) o
theorem nb3 (w : World) (p q o : Obj) : (((w.alloc p).alloc q).alloc o).heap[w.heap.size + 1 + 1]? = some o := by simpa using heap_alloc_new ((w.alloc p).alloc q) o
theorem ls1 {B : Nat} {w : World} (h : B ≤ w.heap.size) (o : Obj) : B ≤ (w.alloc o).heap.size := by simp; omega
theorem ls2 {B : Nat} {w : World} (h : B ≤ w.heap.size) (p o : Obj) : B ≤ ((w.alloc p).alloc o).heap.size := ls1 (ls1 h _) _
theorem ls3 {B : Nat} {w : World} (h : B ≤ w.heap.size) (p q o : Obj) : B ≤ (((w.alloc p).alloc q).alloc o).heap.size := ls1 (ls2 h _ _) _

section
variable {P : Program} {w : World} {ops : Array Oper} {rest : List Oper} {o : Oper} {a : Act} {Q : Exit → Act → World → Prop}
theorem wpList_append3 (hgd : o.guard = none) (s x : Operand) (t : TypeId) (ho : o.op = .call { callee := .builtin .append, args := #[s, x], argTypes := #[t, t] })
    (base : Nat) (e : TypeId) (i : TypeInfo) (z : Value) (ht : P.underlying t = some (.slice e)) (hi : P.info? e = some i) (hz : i.zero = some z) (hsize : i.size = 3) (hby : i.bytes = 24) (hzs : z.cells.size = 3)
    (v : Value) (l : List T3) (hs : a.eval s = v) (hown : w.ownsRow base e 3 v l.length (flat3 l)) (B : Nat) (x0 x1 x2 : Int) (hB : w.heap[B]? = some (.cells #[.int .i64 x0, .int .i64 x1, .int .i64 x2] e (0, 0)))
    (hx : a.eval x = .slice (some ⟨B, 0, none⟩) 1 1) (hl : l.length ≤ 8388608) (hbase : base ≤ w.heap.size)
    (h : ∀ g cap w', w'.ownsRow base e 3 (.slice (some ⟨g, 0, none⟩) (l.length + 1) cap) (l.length + 1) (flat3 (l ++ [(x0, x1, x2)])) → w.grownBy w' v.ownBlock → (v.ownBlock = some g ∨ g = w.heap.size) → g < w'.heap.size → wpList P ops Q rest (a.put o.dst (.slice (some ⟨g, 0, none⟩) (l.length + 1) cap)) w') : wpList P ops Q (o :: rest) a w := by
  refine wpList_append_lies (w := w) hgd s x t ho base e i z 3 24 ht hi hz hsize hby hzs (by omega) v l.length (flat3 l) hs hown ⟨B, 0, none⟩ 1 1 [.int .i64 x0, .int .i64 x1, .int .i64 x2] hx rfl (World.news_of_block hB) (by simp [Value.oneCell']) (by omega) (by unfold maxLen; omega) (by omega) hbase _ rfl ?_
  intro g cap w' h2 h3 h4 h5
  refine h g cap w' ?_ h3 h4 h5
  rw [flat3_append]
  exact h2
theorem wpList_append1 (hgd : o.guard = none) (s x : Operand) (t : TypeId) (ho : o.op = .call { callee := .builtin .append, args := #[s, x], argTypes := #[t, t] })
    (base : Nat) (e : TypeId) (i : TypeInfo) (z : Value) (ht : P.underlying t = some (.slice e)) (hi : P.info? e = some i) (hz : i.zero = some z) (hsize : i.size = 1) (hby : i.bytes = 8) (hzs : z.cells.size = 1)
    (v : Value) (l : List Int) (hs : a.eval s = v) (hown : w.ownsRow base e 1 v l.length (ints l)) (B : Nat) (x0 : Int) (hB : w.heap[B]? = some (.cells #[.int .i64 x0] e (0, 0)))
    (hx : a.eval x = .slice (some ⟨B, 0, none⟩) 1 1) (hl : l.length ≤ 8388608) (hbase : base ≤ w.heap.size)
    (h : ∀ g cap w', w'.ownsRow base e 1 (.slice (some ⟨g, 0, none⟩) (l.length + 1) cap) (l.length + 1) (ints (l ++ [x0])) → w.grownBy w' v.ownBlock → (v.ownBlock = some g ∨ g = w.heap.size) → g < w'.heap.size → wpList P ops Q rest (a.put o.dst (.slice (some ⟨g, 0, none⟩) (l.length + 1) cap)) w') : wpList P ops Q (o :: rest) a w := by
  refine wpList_append_lies (w := w) hgd s x t ho base e i z 1 8 ht hi hz hsize hby hzs (by omega) v l.length (ints l) hs hown ⟨B, 0, none⟩ 1 1 [.int .i64 x0] hx rfl (World.news_of_block hB) (by simp [Value.oneCell']) (by omega) (by unfold maxLen; omega) (by omega) hbase _ rfl ?_
  intro g cap w' h2 h3 h4 h5
  refine h g cap w' ?_ h3 h4 h5
  rw [ints_append]
  exact h2
end
section
variable {P : Program} {w : World} {ops : Array Oper} {rest : List Oper} {o : Oper} {a : Act} {Q : Exit → Act → World → Prop}
/-- append(xs, ys...): ys not empty, wherever it lies. -/
theorem wpList_appendR1 (hgd : o.guard = none) (s x : Operand) (t : TypeId) (ho : o.op = .call { callee := .builtin .append, args := #[s, x], argTypes := #[t, t] })
    (base : Nat) (e : TypeId) (i : TypeInfo) (z : Value) (ht : P.underlying t = some (.slice e)) (hi : P.info? e = some i) (hz : i.zero = some z) (hsize : i.size = 1) (hby : i.bytes = 8) (hzs : z.cells.size = 1)
    (v : Value) (l : List Int) (hs : a.eval s = v) (hown : w.ownsRow base e 1 v l.length (ints l)) (A : Option Addr) (m : List Int) (c lo hi' : Nat) (hr : Rd w lo hi' A (ints m))
    (hx : a.eval x = .slice A m.length c) (hm : 0 < m.length) (hl : l.length ≤ 8388608) (hml : m.length ≤ 8388608) (hbase : base ≤ w.heap.size)
    (h : ∀ g cap w', w'.ownsRow base e 1 (.slice (some ⟨g, 0, none⟩) (l.length + m.length) cap) (l.length + m.length) (ints (l ++ m)) → w.grownBy w' v.ownBlock → (v.ownBlock = some g ∨ g = w.heap.size) → g < w'.heap.size → wpList P ops Q rest (a.put o.dst (.slice (some ⟨g, 0, none⟩) (l.length + m.length) cap)) w') : wpList P ops Q (o :: rest) a w := by
  obtain ⟨b, off, rfl, _, _, _⟩ := hr.at1 0 hm
  refine wpList_append_lies (w := w) hgd s x t ho base e i z 1 8 ht hi hz hsize hby hzs (by omega) v l.length (ints l) hs hown ⟨b, off, none⟩ m.length c (ints m) hx (by rw [ints_length]; omega) ?_ (ints_one m) hm (by unfold maxLen; omega) (by omega) hbase _ rfl ?_
  · intro j u hu
    obtain ⟨b', off', e', _, _, hc⟩ := hr.ge j u hu
    injection e' with e'; injection e' with e1 e2; subst e1 e2
    rw [Addr.add_lit]; exact hc
  · intro g cap w' h2 h3 h4 h5
    refine h g cap w' ?_ h3 h4 h5
    rw [ints_append]
    exact h2
theorem wpList_appendR3 (hgd : o.guard = none) (s x : Operand) (t : TypeId) (ho : o.op = .call { callee := .builtin .append, args := #[s, x], argTypes := #[t, t] })
    (base : Nat) (e : TypeId) (i : TypeInfo) (z : Value) (ht : P.underlying t = some (.slice e)) (hi : P.info? e = some i) (hz : i.zero = some z) (hsize : i.size = 3) (hby : i.bytes = 24) (hzs : z.cells.size = 3)
    (v : Value) (l : List T3) (hs : a.eval s = v) (hown : w.ownsRow base e 3 v l.length (flat3 l)) (A : Option Addr) (m : List T3) (c lo hi' : Nat) (hr : Rd w lo hi' A (flat3 m))
    (hx : a.eval x = .slice A m.length c) (hm : 0 < m.length) (hl : l.length ≤ 8388608) (hml : m.length ≤ 8388608) (hbase : base ≤ w.heap.size)
    (h : ∀ g cap w', w'.ownsRow base e 3 (.slice (some ⟨g, 0, none⟩) (l.length + m.length) cap) (l.length + m.length) (flat3 (l ++ m)) → w.grownBy w' v.ownBlock → (v.ownBlock = some g ∨ g = w.heap.size) → g < w'.heap.size → wpList P ops Q rest (a.put o.dst (.slice (some ⟨g, 0, none⟩) (l.length + m.length) cap)) w') : wpList P ops Q (o :: rest) a w := by
  obtain ⟨b, off, rfl, _, _, _⟩ := hr.at3 0 hm
  refine wpList_append_lies (w := w) hgd s x t ho base e i z 3 24 ht hi hz hsize hby hzs (by omega) v l.length (flat3 l) hs hown ⟨b, off, none⟩ m.length c (flat3 m) hx (by rw [flat3_length]) ?_ (flat3_one m) hm (by unfold maxLen; omega) (by omega) hbase _ rfl ?_
  · intro j u hu
    obtain ⟨b', off', e', _, _, hc⟩ := hr.ge j u hu
    injection e' with e'; injection e' with e1 e2; subst e1 e2
    rw [Addr.add_lit]; exact hc
  · intro g cap w' h2 h3 h4 h5
    refine h g cap w' ?_ h3 h4 h5
    rw [flat3_append]
    exact h2
end
section
variable {P : Program} {w : World} {ops : Array Oper} {o : Oper} {a : Act} {K : Act → World → Prop} {Q : Exit → Act → World → Prop} {F : Prop}
theorem step_append3 (hgd : o.guard = none) (s x : Operand) (t : TypeId) (ho : o.op = .call { callee := .builtin .append, args := #[s, x], argTypes := #[t, t] })
    (base : Nat) (e : TypeId) (i : TypeInfo) (z : Value) (ht : P.underlying t = some (.slice e)) (hi : P.info? e = some i) (hz : i.zero = some z) (hsize : i.size = 3) (hby : i.bytes = 24) (hzs : z.cells.size = 3)
    (v : Value) (l : List T3) (hs : a.eval s = v) (hown : w.ownsRow base e 3 v l.length (flat3 l)) (B : Nat) (x0 x1 x2 : Int) (hB : w.heap[B]? = some (.cells #[.int .i64 x0, .int .i64 x1, .int .i64 x2] e (0, 0)))
    (hx : a.eval x = .slice (some ⟨B, 0, none⟩) 1 1) (hl : l.length ≤ 8388608) (hbase : base ≤ w.heap.size)
    (h : ∀ g cap w', w'.ownsRow base e 3 (.slice (some ⟨g, 0, none⟩) (l.length + 1) cap) (l.length + 1) (flat3 (l ++ [(x0, x1, x2)])) → w.grownBy w' v.ownBlock → (v.ownBlock = some g ∨ g = w.heap.size) → g < w'.heap.size → K (a.put o.dst (.slice (some ⟨g, 0, none⟩) (l.length + 1) cap)) w') :
    if Region.wanted o (yielded ops a.tmps) = true then Oper.wp P o a w K Q else F := by
  refine step_append_lies (w := w) hgd s x t ho base e i z 3 24 ht hi hz hsize hby hzs (by omega) v l.length (flat3 l) hs hown ⟨B, 0, none⟩ 1 1 [.int .i64 x0, .int .i64 x1, .int .i64 x2] hx rfl (World.news_of_block hB) (by simp [Value.oneCell']) (by omega) (by unfold maxLen; omega) (by omega) hbase _ rfl ?_
  intro g cap w' h2 h3 h4 h5
  refine h g cap w' ?_ h3 h4 h5
  rw [flat3_append]
  exact h2
theorem step_append1 (hgd : o.guard = none) (s x : Operand) (t : TypeId) (ho : o.op = .call { callee := .builtin .append, args := #[s, x], argTypes := #[t, t] })
    (base : Nat) (e : TypeId) (i : TypeInfo) (z : Value) (ht : P.underlying t = some (.slice e)) (hi : P.info? e = some i) (hz : i.zero = some z) (hsize : i.size = 1) (hby : i.bytes = 8) (hzs : z.cells.size = 1)
    (v : Value) (l : List Int) (hs : a.eval s = v) (hown : w.ownsRow base e 1 v l.length (ints l)) (B : Nat) (x0 : Int) (hB : w.heap[B]? = some (.cells #[.int .i64 x0] e (0, 0)))
    (hx : a.eval x = .slice (some ⟨B, 0, none⟩) 1 1) (hl : l.length ≤ 8388608) (hbase : base ≤ w.heap.size)
    (h : ∀ g cap w', w'.ownsRow base e 1 (.slice (some ⟨g, 0, none⟩) (l.length + 1) cap) (l.length + 1) (ints (l ++ [x0])) → w.grownBy w' v.ownBlock → (v.ownBlock = some g ∨ g = w.heap.size) → g < w'.heap.size → K (a.put o.dst (.slice (some ⟨g, 0, none⟩) (l.length + 1) cap)) w') :
    if Region.wanted o (yielded ops a.tmps) = true then Oper.wp P o a w K Q else F := by
  refine step_append_lies (w := w) hgd s x t ho base e i z 1 8 ht hi hz hsize hby hzs (by omega) v l.length (ints l) hs hown ⟨B, 0, none⟩ 1 1 [.int .i64 x0] hx rfl (World.news_of_block hB) (by simp [Value.oneCell']) (by omega) (by unfold maxLen; omega) (by omega) hbase _ rfl ?_
  intro g cap w' h2 h3 h4 h5
  refine h g cap w' ?_ h3 h4 h5
  rw [ints_append]
  exact h2
end

end Go.Proofs.Ytdiichfdffhdaaa

/-
  A net with one coach more, made by append: its headers are copied, the new timetable is a literal.
-/
import Derived.Test.YtdiichfdffhdaaaNetDraw
import Derived.Test.YtdiichfdffhdaaaApp
namespace Go.Proofs.Ytdiichfdffhdaaa
open Go.RowKit

theorem list_of {n : Nat} {P : Nat → Value → Prop} (h : ∀ k, k < n → ∃ v, P k v) : ∃ l : List Value, l.length = n ∧ ∀ k (hk : k < l.length), P k l[k] := by
  induction n with
  | zero => exact ⟨[], rfl, fun k hk => absurd hk (by simp)⟩
  | succ n ih =>
    obtain ⟨l, h1, h2⟩ := ih fun k hk => h k (by omega)
    obtain ⟨v, hv⟩ := h n (by omega)
    refine ⟨l ++ [v], by simp [h1], fun k hk => ?_⟩
    rw [List.getElem_append]
    split
    · next h' => exact h2 k h'
    · next h' =>
      have e : k = n := by simp at hk; omega
      subst e
      simpa using hv
/-- The headers of a net that is read. -/
theorem hdr_of {w : World} {lo hi : Nat} {A : Option Addr} {net : Net} (h : RdN w lo hi A net) : ∃ hs : List Value, HdrRd w lo hi hs net ∧ Rd w lo hi A hs ∧ ∀ u ∈ hs, u.oneCell' = true := by
  obtain ⟨hs, h1, h2⟩ := list_of (n := net.length) (P := fun k v => ∃ (hk : k < net.length) (b off : Nat) (B : Option Addr) (c : Nat), A = some ⟨b, off, none⟩ ∧ lo ≤ b ∧ b < hi ∧ w.cell? ⟨b, off + k, none⟩ = some v ∧ v = .slice B net[k].length c ∧ net[k].length ≤ c ∧ Rd w lo hi B (flat3 net[k])) (fun k hk => by
    obtain ⟨b, off, B, c, e1, e2, e3, e4, e5, e6⟩ := h k hk
    exact ⟨_, hk, b, off, B, c, e1, e2, e3, e4, rfl, e5, e6⟩)
  refine ⟨hs, ⟨h1, fun j hj => ?_⟩, fun j hj => ?_, fun u hu => ?_⟩
  · obtain ⟨_, b, off, B, c, e1, e2, e3, e4, e5, e6, e7⟩ := h2 j (by omega)
    exact ⟨B, c, by rw [List.getElem?_eq_getElem (by omega), e5], e6, e7⟩
  · obtain ⟨_, b, off, B, c, e1, e2, e3, e4, _⟩ := h2 j hj
    exact ⟨b, off, e1, e2, e3, e4⟩
  · obtain ⟨j, hj, rfl⟩ := List.getElem_of_mem hu
    obtain ⟨_, b, off, B, c, _, _, _, _, e5, _⟩ := h2 j hj
    rw [e5]; simp [Value.oneCell']
theorem HdrRd.keep {w w' : World} {lo hi hi' : Nat} {hs : List Value} {G : Net} (h : HdrRd w lo hi hs G) (hk : ∀ p : Addr, lo ≤ p.block → p.block < hi → w'.cell? p = w.cell? p) (hh : hi ≤ hi') : HdrRd w' lo hi' hs G := by
  refine ⟨h.1, fun j hj => ?_⟩
  obtain ⟨B, c, e1, e2, e3⟩ := h.2 j hj
  exact ⟨B, c, e1, e2, (e3.keep hk).more (Nat.le_refl _) hh⟩
theorem HdrRd.below {w w' : World} {lo hi hi' : Nat} {hs : List Value} {G : Net} (h : HdrRd w lo hi hs G) (hb : Below w.heap.size w w') (h1 : hi ≤ w.heap.size) (hh : hi ≤ hi') : HdrRd w' lo hi' hs G :=
  h.keep (fun _ _ hp => hb.cell (by omega)) hh
theorem netSum_snoc (net : Net) (l : List T3) : netSum (net ++ [l]) = netSum net + l.length := by
  induction net with
  | nil => simp [netSum]
  | cons a r ih => simp only [List.cons_append, netSum, ih]; omega
theorem netSize_snoc (net : Net) (l : List T3) : netSize (net ++ [l]) = netSize net + 1 + l.length := by
  unfold netSize
  rw [netSum_snoc, List.length_append]
  simp only [List.length_cons, List.length_nil]
  omega
section
variable {P : Program} {w : World} {ops : Array Oper} {rest : List Oper} {o : Oper} {a : Act} {Q : Exit → Act → World → Prop}
/-- append(rows, more...): headers. -/
theorem wpList_appendH (hgd : o.guard = none) (s x : Operand) (t : TypeId) (ho : o.op = .call { callee := .builtin .append, args := #[s, x], argTypes := #[t, t] })
    (base : Nat) (e : TypeId) (i : TypeInfo) (z : Value) (ht : P.underlying t = some (.slice e)) (hi : P.info? e = some i) (hz : i.zero = some z) (hsize : i.size = 1) (hby : i.bytes = 24) (hzs : z.cells.size = 1)
    (v : Value) (n : Nat) (xs : List Value) (hs : a.eval s = v) (hown : w.ownsRow base e 1 v n xs) (A : Option Addr) (m c lo hi' : Nat) (news : List Value) (hr : Rd w lo hi' A news) (hln : news.length = m) (h1 : ∀ u ∈ news, u.oneCell' = true)
    (hx : a.eval x = .slice A m c) (hl : n + m ≤ 1000) (hbase : base ≤ w.heap.size)
    (h : ∀ A' c' w', w'.ownsRow base e 1 (.slice A' (n + m) c') (n + m) (xs ++ news) → w.grownBy w' v.ownBlock → wpList P ops Q rest (a.put o.dst (.slice A' (n + m) c')) w') : wpList P ops Q (o :: rest) a w := by
  refine wpList_plain hgd fun _ hK => wp_appendRd s x t ho base e i z 1 24 ht hi hz hsize hby hzs (by omega) v n xs hs hown lo hi' A m c news hx hr (by omega) h1 (by unfold maxLen; omega) (by omega) hbase ?_
  intro A' c' w' h2 h3 h4
  exact hK _ _ (h A' c' w' h2 h3)
end
/-- A timetable of two stops, as a literal. -/
theorem Rd_two (w : World) (x y : T3) (E : TypeId) : Rd (w.alloc (.cells #[.int .i64 x.1, .int .i64 x.2.1, .int .i64 x.2.2, .int .i64 y.1, .int .i64 y.2.1, .int .i64 y.2.2] E)) w.heap.size (w.heap.size + 1) (some ⟨w.heap.size, 0, none⟩) (flat3 [x, y]) := by
  intro j hj
  have h6 : j = 0 ∨ j = 1 ∨ j = 2 ∨ j = 3 ∨ j = 4 ∨ j = 5 := by
    have : (flat3 [x, y]).length = 6 := rfl
    omega
  rcases h6 with rfl | rfl | rfl | rfl | rfl | rfl <;> exact ⟨w.heap.size, 0, rfl, Nat.le_refl _, by omega, by simp [go_sem, flat3]⟩
theorem Rd_lit2 (w : World) (o : Obj) (v : Value) (E : TypeId) : Rd ((w.alloc o).alloc (.cells #[v] E)) (w.heap.size + 1) (w.heap.size + 2) (some ⟨w.heap.size + 1, 0, none⟩) [v] := by
  intro k hk
  have : k = 0 := by simpa using hk
  subst this
  exact ⟨w.heap.size + 1, 0, rfl, Nat.le_refl _, Nat.lt_succ_self _, by simp [go_sem]⟩
/-- What two appends have made: the net with one coach more. -/
theorem more_rd {w0 wA wB : World} {hs : List Value} {net : Net} {P2 P3 : Option Addr} {d2 d3 : Nat} {E EH : TypeId} {x y : T3} (HH : HdrRd w0 0 w0.heap.size hs net) (hbA : Below w0.heap.size w0 wA) (hownA : wA.ownsRow w0.heap.size EH 1 (.slice P2 net.length d2) net.length hs)
    (hgB : ((wA.alloc (.cells #[.int .i64 x.1, .int .i64 x.2.1, .int .i64 x.2.2, .int .i64 y.1, .int .i64 y.2.1, .int .i64 y.2.2] E)).alloc (.cells #[.slice (some ⟨wA.heap.size, 0, none⟩) 2 2] EH)).grownBy wB (Value.slice P2 net.length d2).ownBlock)
    (hownB : wB.ownsRow w0.heap.size EH 1 (.slice P3 (net.length + 1) d3) (net.length + 1) (hs ++ [.slice (some ⟨wA.heap.size, 0, none⟩) 2 2])) : Below w0.heap.size w0 wB ∧ RdN wB 0 wB.heap.size P3 (net ++ [[x, y]]) := by
  have hb2 : Below w0.heap.size w0 ((wA.alloc (.cells #[.int .i64 x.1, .int .i64 x.2.1, .int .i64 x.2.2, .int .i64 y.1, .int .i64 y.2.1, .int .i64 y.2.2] E)).alloc (.cells #[.slice (some ⟨wA.heap.size, 0, none⟩) 2 2] EH)) := below_alloc (below_alloc hbA _) _
  have hbB : Below w0.heap.size w0 wB := below_grown hb2 hb2.size ((hownA.alloc _).alloc _) (Nat.le_refl _) hgB
  refine ⟨hbB, ?_⟩
  have h1 := (HH.below hbB (Nat.le_refl _) hbB.size)
  have h2 : Rd wB 0 wB.heap.size (some ⟨wA.heap.size, 0, none⟩) (flat3 [x, y]) := by
    have h := (Rd_two wA x y E).below (below_alloc (Below.refl _ _) (.cells #[.slice (some ⟨wA.heap.size, 0, none⟩) 2 2] EH)) (by simp)
    have h := h.keep (w' := wB) fun p q1 q2 => World.cell?_of_block (hgB.block p.block (by simp; omega) (fun e => by have := (hownA.lt p.block e.symm).2; omega))
    exact h.more (Nat.zero_le _) (by have := hgB.size; simp at this; omega)
  have h3 := h1.snoc (c := 2) (l := [x, y]) (by simp) h2
  have hl : (net ++ [[x, y]]).length = net.length + 1 := by simp
  rw [← hl] at hownB
  exact h3.rdN hownB (Below.refl _ _) (Nat.le_refl _) (Nat.zero_le _)

end Go.Proofs.Ytdiichfdffhdaaa

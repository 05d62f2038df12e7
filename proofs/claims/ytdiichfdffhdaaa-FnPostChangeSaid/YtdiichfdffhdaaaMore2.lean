/-
  The same in a region that draws its order: whichever of the appends and literals comes first.
-/
import Derived.Test.YtdiichfdffhdaaaMore
import Derived.Deep.RegionLaw
import Derived.Deep.DeepCutAuto
namespace Go.Proofs.Ytdiichfdffhdaaa
open Go.RowKit

section
variable {P : Program} {ops : Array Oper} {o : Oper} {a : Act} {w : World} {K : Act → World → Prop} {Q : Exit → Act → World → Prop} {E : Prop}
theorem step_appendH (hg : o.guard = none) (s x : Operand) (t : TypeId) (hop : o.op = .call { callee := .builtin .append, args := #[s, x], argTypes := #[t, t] })
    (base : Nat) (e : TypeId) (i : TypeInfo) (z : Value) (ht : P.underlying t = some (.slice e)) (hi : P.info? e = some i) (hz : i.zero = some z) (hsize : i.size = 1) (hby : i.bytes = 24) (hzs : z.cells.size = 1)
    (v : Value) (n : Nat) (xs : List Value) (hs : a.eval s = v) (hown : w.ownsRow base e 1 v n xs) (A : Option Addr) (m c lo hi' : Nat) (news : List Value) (hx : a.eval x = .slice A m c) (hr : Rd w lo hi' A news) (hln : news.length = m) (h1 : ∀ u ∈ news, u.oneCell' = true)
    (hl : n + m ≤ 1000) (hbase : base ≤ w.heap.size)
    (hK : ∀ A' c' w', w'.ownsRow base e 1 (.slice A' (n + m) c') (n + m) (xs ++ news) → w.grownBy w' v.ownBlock → ((Value.slice A' (n + m) c').ownBlock = v.ownBlock ∨ (Value.slice A' (n + m) c').ownBlock = some w.heap.size) → K (a.put o.dst (.slice A' (n + m) c')) w') :
    if Region.wanted o (yielded ops a.tmps) = true then Oper.wp P o a w K Q else E := by
  have hw : Region.wanted o (yielded ops a.tmps) = true := by simp [Region.wanted, hg]
  rw [if_pos hw]
  exact wp_appendRd s x t hop base e i z 1 24 ht hi hz hsize hby hzs (by omega) v n xs hs hown lo hi' A m c news hx hr (by omega) h1 (by unfold maxLen; omega) (by omega) hbase hK
end
theorem own_litE1 (w : World) (ob : Obj) (base e size : Nat) (h : base ≤ w.heap.size) : ((w.alloc ob).alloc (.cells #[] e)).ownsRow base e size (.slice (some ⟨w.heap.size + 1, 0, none⟩) 0 0) 0 [] := by
  have := own_lit0 (w.alloc ob) base e size (by simp; omega)
  simpa using this
theorem own_litE2 (w : World) (oa ob : Obj) (base e size : Nat) (h : base ≤ w.heap.size) : (((w.alloc oa).alloc ob).alloc (.cells #[] e)).ownsRow base e size (.slice (some ⟨w.heap.size + 2, 0, none⟩) 0 0) 0 [] := by
  have := own_lit0 ((w.alloc oa).alloc ob) base e size (by simp; omega)
  simpa using this
theorem Rd_two1 (w : World) (ob : Obj) (x y : T3) (E : TypeId) : Rd ((w.alloc ob).alloc (.cells #[.int .i64 x.1, .int .i64 x.2.1, .int .i64 x.2.2, .int .i64 y.1, .int .i64 y.2.1, .int .i64 y.2.2] E)) (w.heap.size + 1) (w.heap.size + 2) (some ⟨w.heap.size + 1, 0, none⟩) (flat3 [x, y]) := by
  have := Rd_two (w.alloc ob) x y E
  simpa using this
theorem Rd_lit3 (w : World) (oa ob : Obj) (v : Value) (E : TypeId) : Rd (((w.alloc oa).alloc ob).alloc (.cells #[v] E)) (w.heap.size + 2) (w.heap.size + 3) (some ⟨w.heap.size + 2, 0, none⟩) [v] := by
  have := Rd_lit2 (w.alloc oa) ob v E
  simpa using this
theorem Rd.alloc1 {w : World} {lo hi : Nat} {A : Option Addr} {xs : List Value} (h : Rd w lo hi A xs) (hh : hi ≤ w.heap.size) (ob : Obj) : Rd (w.alloc ob) lo hi A xs := h.below (below_alloc (Below.refl _ _) ob) hh
theorem Rd.grownNe {w w' : World} {lo hi b : Nat} {A : Option Addr} {xs : List Value} (h : Rd w lo hi A xs) (hg : w.grownBy w' (Value.slice (some ⟨b, 0, none⟩) 0 0).ownBlock) (hh : hi ≤ w.heap.size) (hne : b < lo ∨ hi ≤ b) : Rd w' lo hi A xs :=
  h.keep fun p h1 h2 => World.cell?_of_block (hg.block p.block (by omega) (fun e => by simp only [Value.ownBlock, Option.some.injEq] at e; omega))
theorem more_rd2 {w0 W2 wZ : World} {hs : List Value} {net : Net} {PA PZ : Option Addr} {cA cZ r : Nat} {EH : TypeId} {x y : T3} (HH : HdrRd w0 0 w0.heap.size hs net) (hb2 : Below w0.heap.size w0 W2) (hown : W2.ownsRow w0.heap.size EH 1 (.slice PA net.length cA) net.length hs)
    (hR : Rd W2 r (r + 1) (some ⟨r, 0, none⟩) (flat3 [x, y])) (hr : r < W2.heap.size) (hne : ∀ b, (Value.slice PA net.length cA).ownBlock = some b → b ≠ r) (hgZ : W2.grownBy wZ (Value.slice PA net.length cA).ownBlock)
    (hownZ : wZ.ownsRow w0.heap.size EH 1 (.slice PZ (net.length + 1) cZ) (net.length + 1) (hs ++ [.slice (some ⟨r, 0, none⟩) 2 2])) : Below w0.heap.size w0 wZ ∧ RdN wZ 0 wZ.heap.size PZ (net ++ [[x, y]]) := by
  have hbZ : Below w0.heap.size w0 wZ := below_grown hb2 hb2.size hown (Nat.le_refl _) hgZ
  refine ⟨hbZ, ?_⟩
  have h1 := (HH.below hbZ (Nat.le_refl _) hbZ.size)
  have h2 : Rd wZ 0 wZ.heap.size (some ⟨r, 0, none⟩) (flat3 [x, y]) := by
    have h := hR.keep (w' := wZ) fun p q1 q2 => World.cell?_of_block (hgZ.block p.block (by omega) (fun e => by have := hne p.block e.symm; omega))
    exact h.more (Nat.zero_le _) (by have := hgZ.size; omega)
  have h3 := h1.snoc (c := 2) (l := [x, y]) (by simp) h2
  have hl : (net ++ [[x, y]]).length = net.length + 1 := by simp
  rw [← hl] at hownZ
  exact h3.rdN hownZ (Below.refl _ _) (Nat.le_refl _) (Nat.zero_le _)
/-- What the first append leaves, wherever the literal lies. -/
theorem first_ne {w : World} {PA : Option Addr} {m cA bE r : Nat} (h : (Value.slice PA m cA).ownBlock = (Value.slice (some ⟨bE, 0, none⟩) 0 0).ownBlock ∨ (Value.slice PA m cA).ownBlock = some w.heap.size) (h1 : bE ≠ r) (h2 : r < w.heap.size) : ∀ b, (Value.slice PA m cA).ownBlock = some b → b ≠ r := by
  intro b hb e
  subst e
  rcases h with h | h
  · rw [hb] at h; simp only [Value.ownBlock, Option.some.injEq] at h; omega
  · rw [hb] at h; simp only [Option.some.injEq] at h; omega

end Go.Proofs.Ytdiichfdffhdaaa

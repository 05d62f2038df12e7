/-
  Opening a law's arguments: slices of structs of integers, slices of integers; shutting the law's row.
-/
import Derived.Test.YtdiichfdffhdaaaBase
import Derived.ProofKit
import Derived.OpenShut
import Derived.ChangeOld
namespace Go.Proofs.Ytdiichfdffhdaaa
open Go.ChangeShapes Go.WideShapes Go.ChangeAt Go.RowKit Go.Deep

def in64 (n : Int) : Prop := -9223372036854775808 ≤ n ∧ n ≤ 9223372036854775807
theorem in64_of_wf {n : Int} (h : (Lit.int .i64 n).wf = true) : in64 n := by
  have := bounds_i64 h
  unfold in64; omega

theorem Rd.of3 {w : World} {b off : Nat} {l : List T3} (hb : b < w.heap.size) (h : ∀ k (hk : k < l.length), w.cell? ⟨b, off + k * 3, none⟩ = some (.int .i64 l[k].1) ∧ w.cell? ⟨b, off + k * 3 + 1, none⟩ = some (.int .i64 l[k].2.1) ∧ w.cell? ⟨b, off + k * 3 + 2, none⟩ = some (.int .i64 l[k].2.2)) :
    Rd w 0 w.heap.size (some ⟨b, off, none⟩) (flat3 l) := fun j hj => by
  refine ⟨b, off, rfl, Nat.zero_le _, hb, ?_⟩
  have hj' := hj
  rw [flat3_length] at hj'
  have hk : j / 3 < l.length := by omega
  obtain ⟨g0, g1, g2⟩ := flat3_get l (j / 3) hk
  obtain ⟨c0, c1, c2⟩ := h (j / 3) hk
  have hm : j % 3 = 0 ∨ j % 3 = 1 ∨ j % 3 = 2 := by omega
  have hx : (flat3 l)[j]? = some (flat3 l)[j] := List.getElem?_eq_getElem hj
  rw [← hx]
  rcases hm with hm | hm | hm
  · have e : j = j / 3 * 3 := by omega
    rw [e, g0, c0]
  · have e : j = j / 3 * 3 + 1 := by omega
    rw [e, g1, ← Nat.add_assoc, c1]
  · have e : j = j / 3 * 3 + 2 := by omega
    rw [e, g2, ← Nat.add_assoc, c2]

section
variable {H : Type} {enc : TypeId × Value → H} {P : Program} {w : World} {base : Nat} {spare : Nat → Bool} {held : Bool}
theorem open_s3 {t e : TypeId} {f0 f1 f2 : Field} {fuel : Nat} {A : Option Addr} {len cap : Nat} {x : DataW H × List MemPlace} (ht : P.underlying t = some (.slice e)) (he : P.underlying e = some (.struct #[f0, f1, f2]))
    (hone : oneCellFields P #[f0, f1, f2] = true) (hC : P.cellsOf e = 3) (i0 : P.underlying f0.type = some (.int .i64)) (i1 : P.underlying f1.type = some (.int .i64)) (i2 : P.underlying f2.type = some (.int .i64))
    (h : DataW.trod enc P w base spare held fuel t [.slice A len cap] = some x) :
    ∃ l : List T3, len = l.length ∧ len ≤ maxLen ∧ Rd w 0 w.heap.size A (flat3 l) ∧ ∀ g ∈ l, in64 g.1 ∧ in64 g.2.1 ∧ in64 g.2.2 := by
  rcases open_slice ht h with ⟨h0, _⟩ | ⟨a, len', cap', m, n, D, Pl, hcs, hb, hl, hm, hmm, hx, hi⟩
  · simp only [List.cons.injEq, Value.slice.injEq, and_true] at h0
    obtain ⟨rfl, rfl, rfl⟩ := h0
    exact ⟨[], rfl, by simp, Rd.nil, by simp⟩
  · simp only [List.cons.injEq, Value.slice.injEq, and_true] at hcs
    obtain ⟨rfl, rfl, rfl⟩ := hcs
    have hle : len ≤ m := by rw [hmm]; split <;> omega
    have key : ∀ i, ∃ g : T3, i < len → (w.cell? (a.add (i * 3)) = some (.int .i64 g.1) ∧ w.cell? ((a.add (i * 3)).add 1) = some (.int .i64 g.2.1) ∧ w.cell? ((a.add (i * 3)).add 2) = some (.int .i64 g.2.2)) ∧ in64 g.1 ∧ in64 g.2.1 ∧ in64 g.2.2 := by
      intro i
      by_cases hil : i < len
      · obtain ⟨cs', hc, ht'⟩ := hi i (by omega)
        rw [hC] at hc
        obtain ⟨ys, n', _, hy, hlen, hyl, hf⟩ := DataW.trod_struct he ht'
        obtain ⟨_, hcl, hat⟩ := World.cells?_some hc
        obtain ⟨o0, k0⟩ := hone_of hone 0 f0 rfl
        obtain ⟨o1, k1⟩ := hone_of hone 1 f1 rfl
        obtain ⟨o2, k2⟩ := hone_of hone 2 f2 rfl
        have h0 := hf 0 f0 rfl
        have h1 := hf 1 f1 rfl
        have h2 := hf 2 f2 rfl
        match cs', hcl with
        | [c0, c1, c2], _ =>
          match ys, hyl with
          | [y0, y1, y2], _ =>
            simp only [o0, k0, List.drop_zero, List.take_succ_cons, List.take_zero, List.getElem?_cons_zero] at h0
            simp only [o1, k1, List.drop_succ_cons, List.drop_zero, List.take_succ_cons, List.take_zero, List.getElem?_cons_succ, List.getElem?_cons_zero] at h1
            simp only [o2, k2, List.drop_succ_cons, List.drop_zero, List.take_succ_cons, List.take_zero, List.getElem?_cons_succ, List.getElem?_cons_zero] at h2
            obtain ⟨n0, e0, _, w0⟩ := DataW.trod_int i0 h0
            obtain ⟨n1, e1, _, w1⟩ := DataW.trod_int i1 h1
            obtain ⟨n2, e2, _, w2⟩ := DataW.trod_int i2 h2
            simp only [List.cons.injEq, and_true] at e0 e1 e2
            subst e0 e1 e2
            have a0 := hat 0 (by omega)
            have a1 := hat 1 (by omega)
            have a2 := hat 2 (by omega)
            refine ⟨(n0, n1, n2), fun _ => ⟨⟨?_, ?_, ?_⟩, in64_of_wf w0, in64_of_wf w1, in64_of_wf w2⟩⟩
            · have : (a.add (i * 3)).add 0 = a.add (i * 3) := by simp [Addr.add]
              rw [this] at a0; simpa using a0
            · simpa using a1
            · simpa using a2
      · exact ⟨(0, 0, 0), fun hh => absurd hh hil⟩
    obtain ⟨f, hf⟩ := Classical.skolem.1 key
    refine ⟨(List.range len).map f, by simp, by omega, ?_, ?_⟩
    · rcases Nat.eq_zero_or_pos len with h0 | h0
      · rw [h0]; exact Rd.nil
      · obtain ⟨b, off, spot⟩ := a
        have hs : spot = none := by
          have := (hf 0 h0).1.1
          simpa [Addr.add] using World.cell?_spot this
        subst hs
        have hblt : b < w.heap.size := by
          have := World.block_lt_of_cell? w _ (hf 0 h0).1.1
          simpa [Addr.add] using this
        refine Rd.of3 hblt fun k hk => ?_
        simp only [List.length_map, List.length_range] at hk
        obtain ⟨c0, c1, c2⟩ := (hf k hk).1
        simp only [Addr.add_lit] at c0 c1 c2
        simpa using And.intro c0 (And.intro c1 c2)
    · intro g hg
      simp only [List.mem_map, List.mem_range] at hg
      obtain ⟨i, hi, rfl⟩ := hg
      exact (hf i hi).2

theorem open_i1 {t e : TypeId} {fuel : Nat} {A : Option Addr} {len cap : Nat} {x : DataW H × List MemPlace} (ht : P.underlying t = some (.slice e)) (he : P.underlying e = some (.int .i64)) (hC : P.cellsOf e = 1)
    (h : DataW.trod enc P w base spare held fuel t [.slice A len cap] = some x) :
    ∃ l : List Int, len = l.length ∧ len ≤ maxLen ∧ Rd w 0 w.heap.size A (ints l) ∧ ∀ g ∈ l, in64 g := by
  rcases open_slice1 ht hC h with ⟨h0, _⟩ | ⟨a, len', cap', m, n, V, D, Pl, hcs, hb, hl, hm, hmm, hx, hi⟩
  · simp only [List.cons.injEq, Value.slice.injEq, and_true] at h0
    obtain ⟨rfl, rfl, rfl⟩ := h0
    exact ⟨[], rfl, by simp, Rd.nil, by simp⟩
  · simp only [List.cons.injEq, Value.slice.injEq, and_true] at hcs
    obtain ⟨rfl, rfl, rfl⟩ := hcs
    have hle : len ≤ m := by rw [hmm]; split <;> omega
    have key : ∀ i, ∃ g : Int, i < len → w.cell? (a.add i) = some (.int .i64 g) ∧ in64 g := by
      intro i
      by_cases hil : i < len
      · obtain ⟨hc, ht'⟩ := hi i (by omega)
        obtain ⟨n0, e0, _, w0⟩ := DataW.trod_int he ht'
        simp only [List.cons.injEq, and_true] at e0
        exact ⟨n0, fun _ => ⟨by rw [hc, e0], in64_of_wf w0⟩⟩
      · exact ⟨0, fun hh => absurd hh hil⟩
    obtain ⟨f, hf⟩ := Classical.skolem.1 key
    refine ⟨(List.range len).map f, by simp, by omega, ?_, ?_⟩
    · rcases Nat.eq_zero_or_pos len with h0 | h0
      · rw [h0]; exact Rd.nil
      · obtain ⟨b, off, spot⟩ := a
        have hs : spot = none := by
          have := (hf 0 h0).1
          simpa [Addr.add] using World.cell?_spot this
        subst hs
        have hblt : b < w.heap.size := by
          have := World.block_lt_of_cell? w _ (hf 0 h0).1
          simpa [Addr.add] using this
        intro k hk
        simp only [ints, List.length_map, List.length_range] at hk
        refine ⟨b, off, rfl, Nat.zero_le _, hblt, ?_⟩
        have := (hf k hk).1
        simp only [Addr.add_lit] at this
        simpa [ints] using this
    · intro g hg
      simp only [List.mem_map, List.mem_range] at hg
      obtain ⟨i, hi, rfl⟩ := hg
      exact (hf i hi).2
end

theorem prog_own : ownKnob Try.prog.godebug = none := by kernel_rfl
theorem prog_laidOut : laidOutB Try.prog = true := by kernel_rfl

end Go.Proofs.Ytdiichfdffhdaaa

/-
  Opening a law's code (bytes); how what is drawn lies in memory.
-/
import Derived.Test.YtdiichfdffhdaaaPick
import Derived.Test.YtdiichfdffhdaaaOpen
namespace Go.Proofs.Ytdiichfdffhdaaa
open Go.ChangeShapes Go.WideShapes Go.ChangeAt Go.RowKit Go.Deep

section
variable {H : Type} {enc : TypeId × Value → H} {P : Program} {w : World} {base : Nat} {spare : Nat → Bool} {held : Bool}
theorem open_b1 {t e : TypeId} {fuel : Nat} {A : Option Addr} {len cap : Nat} {x : DataW H × List MemPlace} (ht : P.underlying t = some (.slice e)) (he : P.underlying e = some (.int .u8)) (hC : P.cellsOf e = 1)
    (h : DataW.trod enc P w base spare held fuel t [.slice A len cap] = some x) :
    ∃ bs : Nat → Int, len ≤ maxLen ∧ Byt w w.heap.size A len bs ∧ len ≤ cap := by
  rcases open_slice1 ht hC h with ⟨h0, _⟩ | ⟨a, len', cap', m, n, V, D, Pl, hcs, hb, hl, hm, hmm, hx, hi⟩
  · simp only [List.cons.injEq, Value.slice.injEq, and_true] at h0
    obtain ⟨rfl, rfl, rfl⟩ := h0
    exact ⟨fun _ => 0, by simp, fun j hj => absurd hj (by omega), Nat.le_refl _⟩
  · simp only [List.cons.injEq, Value.slice.injEq, and_true] at hcs
    obtain ⟨rfl, rfl, rfl⟩ := hcs
    have hle : len ≤ m := by rw [hmm]; split <;> omega
    have key : ∀ i, ∃ g : Int, i < len → w.cell? (a.add i) = some (.int .u8 g) ∧ 0 ≤ g ∧ g ≤ 255 := by
      intro i
      by_cases hil : i < len
      · obtain ⟨hc, ht'⟩ := hi i (by omega)
        obtain ⟨n0, e0, _, w0⟩ := DataW.trod_int he ht'
        simp only [List.cons.injEq, and_true] at e0
        exact ⟨n0, fun _ => ⟨by rw [hc, e0], bounds_u8 w0⟩⟩
      · exact ⟨0, fun hh => absurd hh hil⟩
    obtain ⟨f, hf⟩ := Classical.skolem.1 key
    refine ⟨f, by omega, ?_, hl⟩
    intro j hj
    have h0 : 0 < len := by omega
    obtain ⟨b, off, spot⟩ := a
    have hs : spot = none := by
      have := (hf 0 h0).1
      simpa [Addr.add] using World.cell?_spot this
    subst hs
    have hblt : b < w.heap.size := by
      have := World.block_lt_of_cell? w _ (hf 0 h0).1
      simpa [Addr.add] using this
    obtain ⟨hc, h1, h2⟩ := hf j hj
    simp only [Addr.add_lit] at hc
    exact ⟨b, off, rfl, hblt, hc, h1, h2⟩
end

theorem below_draw {w w1 w2 : World} {R : Nat} (h : Below w.heap.size w w1) (hg : w1.grownBy w2 (some R)) (hR : w.heap.size ≤ R) : Below w.heap.size w w2 :=
  h.grown hg h.size (fun k hk => by injection hk with hk; omega)
theorem own_draw {w w' : World} {base size n R : Nat} {e : TypeId} {v : Value} {xs : List Value} (h : w.ownsRow base e size v n xs) (hg : w.grownBy w' (some R)) (hR : R < base) : w'.ownsRow base e size v n xs :=
  h.kept hg (by
    cases hv : v.ownBlock with
    | none => exact .inl rfl
    | some k => refine .inr (fun e => ?_); have := (h.lt k hv).1; injection e with e; omega)

end Go.Proofs.Ytdiichfdffhdaaa

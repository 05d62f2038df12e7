/-
  Contracts of the law's helpers that mark a net and look at the marks.
-/
import Derived.Test.YtdiichfdffhdaaaNetFns
namespace Go.Proofs.Ytdiichfdffhdaaa
open Go.RowKit

/-- All blocks that lay outside of a range are as they were. -/
structure GrownIn (w w' : World) (lo hi : Nat) : Prop where
  os : w'.os = w.os
  tape : w'.tape = w.tape
  output : w'.output = w.output
  size : w.heap.size ≤ w'.heap.size
  block : ∀ k, k < w.heap.size → (k < lo ∨ hi ≤ k) → w'.heap[k]? = w.heap[k]?
section
variable {w w' w'' : World} {lo hi : Nat}
theorem GrownIn.refl (w : World) (lo hi : Nat) : GrownIn w w lo hi := ⟨rfl, rfl, rfl, Nat.le_refl _, fun _ _ _ => rfl⟩
theorem GrownIn.row {row : Option Nat} (h : GrownIn w w' lo hi) (hg : w'.grownBy w'' row) (hr : ∀ b, row = some b → lo ≤ b ∧ b < hi) : GrownIn w w'' lo hi :=
  ⟨hg.os.trans h.os, hg.tape.trans h.tape, hg.output.trans h.output, Nat.le_trans h.size hg.size, fun k hk ho => by
    rw [hg.block k (Nat.lt_of_lt_of_le hk h.size) (fun e => by have := hr k e.symm; omega), h.block k hk ho]⟩
theorem below_in {B : Nat} {a : World} (h : Below B a w) (hB : B ≤ w.heap.size) (hb : B ≤ lo) (hg : GrownIn w w' lo hi) : Below B a w' :=
  ⟨hg.os.trans h.os, hg.tape.trans h.tape, hg.output.trans h.output, Nat.le_trans h.size hg.size, fun k hk => by
    rw [hg.block k (by omega) (.inl (by omega)), h.block k hk]⟩
theorem own_in {base size n : Nat} {e : TypeId} {v : Value} {xs : List Value} (h : w.ownsRow base e size v n xs) (hg : GrownIn w w' lo hi) (hv : ∀ k, v.ownBlock = some k → k < lo ∨ hi ≤ k) : w'.ownsRow base e size v n xs := by
  refine ⟨h.1, ?_⟩
  rcases h.2 with h1 | ⟨g, cap, cur, rfl, h2, h3, h4⟩
  · exact .inl h1
  · refine .inr ⟨g, cap, cur, rfl, h2, ?_, h4⟩
    have hlt : g < w.heap.size := by
      rcases Nat.lt_or_ge g w.heap.size with h' | h'
      · exact h'
      · rw [Array.getElem?_eq_none h'] at h3; cases h3
    rw [hg.block g hlt (hv g rfl)]; exact h3
end
/-- A net in memory of its own, in a range. -/
def OwnNB (w : World) (base top : Nat) (E EH : TypeId) (v : Value) (net : Net) : Prop :=
  ∃ hs, w.ownsRow base EH 1 v net.length hs ∧ OwnRows w base E hs net ∧ (blks (v :: hs)).Nodup ∧ ∀ b ∈ blks (v :: hs), b < top
section
variable {w w' : World} {base top : Nat} {E EH : TypeId} {v : Value} {net : Net}
theorem OwnN.bound (h : OwnN w base E EH v net) : OwnNB w base w.heap.size E EH v net := by
  obtain ⟨hs, h1, h2, h3⟩ := h
  refine ⟨hs, h1, h2, h3, fun b hb => ?_⟩
  obtain ⟨y, hy, hv⟩ := List.mem_filterMap.1 hb
  rcases List.mem_cons.1 hy with rfl | hy
  · exact (h1.lt b hv).2
  · exact h2.lt b (List.mem_filterMap.2 ⟨y, hy, hv⟩)
theorem OwnNB.own (h : OwnNB w base top E EH v net) : OwnN w base E EH v net := by
  obtain ⟨hs, h1, h2, h3, _⟩ := h; exact ⟨hs, h1, h2, h3⟩
theorem OwnNB.below (h : OwnNB w base top E EH v net) (hb : Below w.heap.size w w') : OwnNB w' base top E EH v net := by
  obtain ⟨hs, h1, h2, h3, h4⟩ := h
  exact ⟨hs, own_below h1 hb, h2.below hb, h3, h4⟩
theorem OwnNB.ge (hs : List Value) (h1 : w.ownsRow base EH 1 v net.length hs) (h2 : OwnRows w base E hs net) : ∀ b ∈ blks (v :: hs), base ≤ b := by
  intro b hb
  obtain ⟨y, hy, hv⟩ := List.mem_filterMap.1 hb
  rcases List.mem_cons.1 hy with rfl | hy
  · exact (h1.lt b hv).1
  · exact h2.ge b (List.mem_filterMap.2 ⟨y, hy, hv⟩)
theorem OwnNB.apart {lo hi : Nat} (h : OwnNB w base top E EH v net) (hg : GrownIn w w' lo hi) (hr : top ≤ lo ∨ hi ≤ base) : OwnNB w' base top E EH v net := by
  obtain ⟨hs, h1, h2, h3, h4⟩ := h
  have hge := OwnNB.ge hs h1 h2
  have key : ∀ b ∈ blks (v :: hs), b < lo ∨ hi ≤ b := fun b hb => by
    have := h4 b hb; have := hge b hb; omega
  refine ⟨hs, own_in h1 hg fun k hk => key k (by simp [blks, hk]), h2.keep fun x hx n xs hox => own_in hox hg fun k hk => key k (List.mem_filterMap.2 ⟨x, by simp [hx], hk⟩), h3, h4⟩
theorem OwnNB.apartRow {row : Option Nat} (h : OwnNB w base top E EH v net) (hg : w.grownBy w' row) (hr : ∀ b, row = some b → b < base ∨ top ≤ b) : OwnNB w' base top E EH v net := by
  obtain ⟨hs, h1, h2, h3, h4⟩ := h
  have hge := OwnNB.ge hs h1 h2
  have key : ∀ y, y ∈ (v :: hs) → ∀ b, y.ownBlock = some b → row ≠ some b := fun y hy b hb e => by
    have hm : b ∈ blks (v :: hs) := List.mem_filterMap.2 ⟨y, hy, hb⟩
    have := h4 b hm; have := hge b hm; have := hr b e; omega
  refine ⟨hs, own_grown' h1 hg (key v (by simp)), h2.keep fun x hx n xs hox => own_grown' hox hg (key x (by simp [hx])), h3, h4⟩
where own_grown' {w w' : World} {base size n : Nat} {e : TypeId} {v : Value} {xs : List Value} {row : Option Nat} (h : w.ownsRow base e size v n xs) (hg : w.grownBy w' row) (hne : ∀ k, v.ownBlock = some k → row ≠ some k) : w'.ownsRow base e size v n xs :=
  h.kept hg (by cases hv : v.ownBlock with
    | none => exact .inl rfl
    | some k => exact .inr (fun e => hne k hv e.symm))
end
theorem OwnRows.setRow {w w' : World} {base : Nat} {E : TypeId} {hs : List Value} {net : Net} {u : Value} {l' : List T3} (hr : OwnRows w base E hs net) (hn : (blks hs).Nodup) (j : Nat) (hj : hs[j]? = some u) (hg : w.grownBy w' u.ownBlock) (hl : ∀ l, net[j]? = some l → l'.length = l.length) (ho : w'.ownsRow base E 3 u l'.length (flat3 l')) : OwnRows w' base E hs (net.set j l') := by
  induction hs generalizing net j with
  | nil => simp at hj
  | cons x r ih => cases net with
    | nil => exact hr.elim
    | cons m ls =>
      have hxr : ∀ y ∈ r, ∀ b, x.ownBlock = some b → y.ownBlock ≠ some b := by
        intro y hy b hx hyb
        have : blks (x :: r) = b :: blks r := by simp [blks, hx]
        rw [this] at hn
        exact (List.nodup_cons.1 hn).1 (List.mem_filterMap.2 ⟨y, hy, hyb⟩)
      have hnr : (blks r).Nodup := by
        cases hx : x.ownBlock with
        | none => simpa [blks, hx] using hn
        | some b =>
          have : blks (x :: r) = b :: blks r := by simp [blks, hx]
          rw [this] at hn; exact (List.nodup_cons.1 hn).2
      cases j with
      | zero =>
        simp only [List.getElem?_cons_zero, Option.some.injEq] at hj
        subst hj
        have hl0 := hl m rfl
        obtain ⟨⟨B, c, hx⟩, _, h3⟩ := hr
        refine ⟨⟨B, c, by rw [hl0]; exact hx⟩, ho, h3.keep fun y hy n xs hoy => hoy.kept hg ?_⟩
        cases hv : y.ownBlock with
        | none => exact .inl rfl
        | some b => exact .inr (fun e => hxr y hy b e.symm hv)
      | succ j =>
        simp only [List.getElem?_cons_succ] at hj
        refine ⟨hr.1, hr.2.1.kept hg ?_, ih hr.2.2 hnr j hj (fun l h => hl l (by simpa using h))⟩
        cases hv : x.ownBlock with
        | none => exact .inl rfl
        | some b => exact .inr (fun e => hxr u (List.mem_of_getElem? hj) b hv e.symm)

/-- What marking a net lays. -/
def marksN (k : Int) : Net → Net
  | [] => []
  | l :: r => marks k l.length :: marksN (k + 3 * l.length) r
theorem marksN_length (k : Int) (net : Net) : (marksN k net).length = net.length := by
  induction net generalizing k with
  | nil => rfl
  | cons l r ih => simp [marksN, ih]
theorem marksN_get (k : Int) (net : Net) (j : Nat) (h : j < net.length) : (marksN k net)[j]? = some (marks (k + 3 * (netSum (net.take j) : Int)) net[j].length) := by
  induction net generalizing k j with
  | nil => simp at h
  | cons l r ih =>
    cases j with
    | zero => simp [marksN, netSum]
    | succ j =>
      have hj : j < r.length := by simpa using h
      simp only [marksN, List.getElem?_cons_succ, ih _ j hj, List.take_succ_cons, netSum, List.getElem_cons_succ]
      congr 2
      push_cast
      omega
theorem marksN_step (k : Int) (net : Net) (j : Nat) (h : j < net.length) (M : Net) (hM : M = marksN k net) : (M.take j ++ net.drop j).set j (marks (k + 3 * (netSum (net.take j) : Int)) net[j].length) = M.take (j + 1) ++ net.drop (j + 1) := by
  have hl : M.length = net.length := by rw [hM, marksN_length]
  have hg : M[j]'(by omega) = marks (k + 3 * (netSum (net.take j) : Int)) net[j].length := by
    have := marksN_get k net j h
    rw [← hM, List.getElem?_eq_getElem (by omega)] at this
    injection this
  rw [List.set_append_right _ _ (by rw [List.length_take]; omega), List.length_take, show j - min j M.length = 0 by omega, List.drop_eq_getElem_cons h, List.set_cons_zero, List.take_succ_eq_append_getElem (by omega), hg, List.append_assoc]
  rfl
theorem OwnNB.rdMarks {w : World} {base top : Nat} {E EH : TypeId} {A : Option Addr} {c : Nat} {net : Net} {k : Int} (h : OwnNB w base top E EH (.slice A net.length c) (marksN k net)) : RdN w base w.heap.size A (marksN k net) := by
  have h' : OwnN w base E EH (.slice A (marksN k net).length c) (marksN k net) := by rw [marksN_length]; exact h.own
  exact h'.rd
def MarkN (base top : Nat) (E EH : TypeId) (net : Net) (v : Value) (k : Int) (w : World) (e : Ending) (w' : World) : Prop :=
  e = .returned (.int .i64 (k + 3 * (netSum net : Int))) ∧ OwnNB w' base top E EH v (marksN k net) ∧ GrownIn w w' base top
def markNRel (base top : Nat) (E EH : TypeId) (net : Net) (k : Int) (hs : List Value) (v : Value) (j : Nat) (w wr : World) : Prop :=
  wr.ownsRow base EH 1 v net.length hs ∧ OwnRows wr base E hs ((marksN k net).take j ++ net.drop j) ∧ GrownIn w wr base top


end Go.Proofs.Ytdiichfdffhdaaa

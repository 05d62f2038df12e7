/-
  Words for memory: slices of slices of triples (nets), read and owned; how a law's argument of this kind is opened.
-/
import Derived.Test.YtdiichfdffhdaaaTri
import Derived.Test.YtdiichfdffhdaaaOpen
import Derived.Test.YtdiichfdffhdaaaApart
namespace Go.Proofs.Ytdiichfdffhdaaa
open Go.ChangeShapes Go.WideShapes Go.ChangeAt Go.RowKit Go.Deep

abbrev Net := List (List T3)
/-- A slice of slices of triples reads as a net; all of it lies from lo on and below hi. -/
def RdN (w : World) (lo hi : Nat) (A : Option Addr) (net : Net) : Prop :=
  ∀ k (hk : k < net.length), ∃ b off B c, A = some ⟨b, off, none⟩ ∧ lo ≤ b ∧ b < hi ∧ w.cell? ⟨b, off + k, none⟩ = some (.slice B net[k].length c) ∧ net[k].length ≤ c ∧ Rd w lo hi B (flat3 net[k])
section
variable {w w' : World} {lo hi lo' hi' : Nat} {A : Option Addr} {net : Net}
theorem RdN.nil : RdN w lo hi A [] := fun k h => absurd h (by simp)
theorem RdN.keep (h : RdN w lo hi A net) (hk : ∀ p : Addr, lo ≤ p.block → p.block < hi → w'.cell? p = w.cell? p) : RdN w' lo hi A net := fun k hkl => by
  obtain ⟨b, off, B, c, e, h1, h2, h3, h4, h5⟩ := h k hkl
  exact ⟨b, off, B, c, e, h1, h2, (hk ⟨b, off + k, none⟩ h1 h2).trans h3, h4, h5.keep hk⟩
theorem RdN.more (h : RdN w lo hi A net) (h1 : lo' ≤ lo) (h2 : hi ≤ hi') : RdN w lo' hi' A net := fun k hkl => by
  obtain ⟨b, off, B, c, e, g1, g2, h3, h4, h5⟩ := h k hkl
  exact ⟨b, off, B, c, e, by omega, by omega, h3, h4, h5.more h1 h2⟩
theorem RdN.below {B : Nat} (h : RdN w lo hi A net) (hb : Below B w w') (hB : hi ≤ B) : RdN w' lo hi A net := h.keep fun _ _ hp => hb.cell (by omega)
theorem RdN.drewN (h : RdN w lo hi A net) (q : Nat) : RdN (w.drewN q) lo hi A net := h
theorem RdN.drew (h : RdN w lo hi A net) : RdN w.drew lo hi A net := h
theorem RdN.alloc (h : RdN w lo hi A net) (hh : hi ≤ w.heap.size) (o : Obj) : RdN (w.alloc o) lo hi A net := h.below (below_alloc (Below.refl _ _) o) hh
end

def netSum : Net → Nat
  | [] => 0
  | l :: r => l.length + netSum r
def netSize (net : Net) : Nat := net.length + netSum net
theorem netSum_append (a b : Net) : netSum (a ++ b) = netSum a + netSum b := by
  induction a with
  | nil => simp [netSum]
  | cons l r ih => simp only [List.cons_append, netSum, ih]; omega
theorem netSum_take_le (net : Net) (k : Nat) : netSum (net.take k) ≤ netSum net := by
  have h := netSum_append (net.take k) (net.drop k)
  rw [List.take_append_drop] at h; omega
theorem netSum_take_succ (net : Net) (k : Nat) (h : k < net.length) : netSum (net.take (k + 1)) = netSum (net.take k) + net[k].length := by
  rw [List.take_succ_eq_append_getElem h, netSum_append]; simp [netSum]
theorem netSum_get (net : Net) (k : Nat) (h : k < net.length) : net[k].length ≤ netSum net := by
  have h1 := netSum_take_succ net k h
  have h2 := netSum_take_le net (k + 1)
  omega

section
variable {H : Type} {enc : TypeId × Value → H} {P : Program} {w : World} {base : Nat} {spare : Nat → Bool} {held : Bool}
theorem open_ss3 {t s e : TypeId} {f0 f1 f2 : Field} {fuel : Nat} {A : Option Addr} {len cap : Nat} {x : DataW H × List MemPlace} (ht : P.underlying t = some (.slice s)) (hs : P.underlying s = some (.slice e)) (he : P.underlying e = some (.struct #[f0, f1, f2]))
    (hC1 : P.cellsOf s = 1) (hone : oneCellFields P #[f0, f1, f2] = true) (hC : P.cellsOf e = 3) (i0 : P.underlying f0.type = some (.int .i64)) (i1 : P.underlying f1.type = some (.int .i64)) (i2 : P.underlying f2.type = some (.int .i64))
    (h : DataW.trod enc P w base spare held fuel t [.slice A len cap] = some x) :
    ∃ net : Net, len = net.length ∧ len ≤ maxLen ∧ RdN w 0 w.heap.size A net ∧ ∀ l ∈ net, l.length ≤ maxLen ∧ ∀ g ∈ l, in64 g.1 ∧ in64 g.2.1 ∧ in64 g.2.2 := by
  rcases open_slice1 ht hC1 h with ⟨h0, _⟩ | ⟨a, len', cap', m, n, V, D, Pl, hcs, hb, hl, hm, hmm, hx, hi⟩
  · simp only [List.cons.injEq, Value.slice.injEq, and_true] at h0
    obtain ⟨rfl, rfl, rfl⟩ := h0
    exact ⟨[], rfl, by simp, RdN.nil, by simp⟩
  · simp only [List.cons.injEq, Value.slice.injEq, and_true] at hcs
    obtain ⟨rfl, rfl, rfl⟩ := hcs
    have hle : len ≤ m := by rw [hmm]; split <;> omega
    have key : ∀ i, ∃ l : List T3, i < len → (∃ B c, w.cell? (a.add i) = some (.slice B l.length c) ∧ l.length ≤ c ∧ Rd w 0 w.heap.size B (flat3 l)) ∧ l.length ≤ maxLen ∧ ∀ g ∈ l, in64 g.1 ∧ in64 g.2.1 ∧ in64 g.2.2 := by
      intro i
      by_cases hil : i < len
      · obtain ⟨hc, ht'⟩ := hi i (by omega)
        have hv : ∃ B ln c, V i = .slice B ln c ∧ ln ≤ c := by
          rcases open_slice hs ht' with ⟨h0, _⟩ | ⟨a2, len2, cap2, _, _, _, _, hcs, _, hl2, _⟩
          · simp only [List.cons.injEq, and_true] at h0; exact ⟨_, _, _, h0, Nat.le_refl _⟩
          · simp only [List.cons.injEq, and_true] at hcs; exact ⟨_, _, _, hcs, hl2⟩
        obtain ⟨B, ln, c, hv, hlc⟩ := hv
        rw [hv] at hc ht'
        obtain ⟨l, rfl, h1, h2, h3⟩ := open_s3 hs he hone hC i0 i1 i2 ht'
        exact ⟨l, fun _ => ⟨⟨B, c, hc, hlc, h2⟩, h1, h3⟩⟩
      · exact ⟨[], fun hh => absurd hh hil⟩
    obtain ⟨f, hf⟩ := Classical.skolem.1 key
    refine ⟨(List.range len).map f, by simp, by omega, ?_, ?_⟩
    · rcases Nat.eq_zero_or_pos len with h0 | h0
      · rw [h0]; exact RdN.nil
      · obtain ⟨b, off, spot⟩ := a
        obtain ⟨⟨B0, c0, hc0, _⟩, _⟩ := hf 0 h0
        have hsp : spot = none := by simpa [Addr.add] using World.cell?_spot hc0
        subst hsp
        have hblt : b < w.heap.size := by
          have := World.block_lt_of_cell? w _ hc0
          simpa [Addr.add] using this
        intro k hk
        simp only [List.length_map, List.length_range] at hk
        obtain ⟨⟨B, c, hc, hlc, hr⟩, _⟩ := hf k hk
        refine ⟨b, off, B, c, rfl, Nat.zero_le _, hblt, ?_, by simpa using hlc, by simpa using hr⟩
        simp only [Addr.add_lit] at hc
        simpa using hc
    · intro l hl'
      simp only [List.mem_map, List.mem_range] at hl'
      obtain ⟨i, hi', rfl⟩ := hl'
      exact (hf i hi').2
end

/-- Rows, each with its own memory. -/
def OwnRows (w : World) (base : Nat) (E : TypeId) : List Value → Net → Prop
  | [], [] => True
  | h :: hs, l :: ls => (∃ B c, h = .slice B l.length c) ∧ w.ownsRow base E 3 h l.length (flat3 l) ∧ OwnRows w base E hs ls
  | _, _ => False
def blks (hs : List Value) : List Nat := hs.filterMap Value.ownBlock
/-- A net in memory of its own: the headers' row and each row lie apart. -/
def OwnN (w : World) (base : Nat) (E EH : TypeId) (v : Value) (net : Net) : Prop :=
  ∃ hs, w.ownsRow base EH 1 v net.length hs ∧ OwnRows w base E hs net ∧ (blks (v :: hs)).Nodup
section
variable {w w' : World} {base : Nat} {E EH : TypeId} {hs : List Value} {net : Net} {v : Value}
theorem OwnRows.len (h : OwnRows w base E hs net) : hs.length = net.length := by
  induction hs generalizing net with
  | nil => cases net with
    | nil => rfl
    | cons _ _ => exact h.elim
  | cons x r ih => cases net with
    | nil => exact h.elim
    | cons l ls => simp [ih h.2.2]
theorem OwnRows.snoc {h : Value} {l : List T3} (hr : OwnRows w base E hs net) (h1 : ∃ B c, h = .slice B l.length c) (h2 : w.ownsRow base E 3 h l.length (flat3 l)) : OwnRows w base E (hs ++ [h]) (net ++ [l]) := by
  induction hs generalizing net with
  | nil => cases net with
    | nil => exact ⟨h1, h2, trivial⟩
    | cons _ _ => exact hr.elim
  | cons x r ih => cases net with
    | nil => exact hr.elim
    | cons m ls => exact ⟨hr.1, hr.2.1, ih hr.2.2⟩
theorem OwnRows.get (hr : OwnRows w base E hs net) (k : Nat) (hk : k < net.length) : ∃ B c, hs[k]? = some (.slice B net[k].length c) ∧ w.ownsRow base E 3 (.slice B net[k].length c) net[k].length (flat3 net[k]) := by
  induction hs generalizing net k with
  | nil => cases net with
    | nil => simp at hk
    | cons _ _ => exact hr.elim
  | cons x r ih => cases net with
    | nil => exact hr.elim
    | cons m ls =>
      cases k with
      | zero => obtain ⟨⟨B, c, rfl⟩, h2, _⟩ := hr; exact ⟨B, c, rfl, h2⟩
      | succ k => simpa using ih hr.2.2 k (by simpa using hk)
theorem OwnRows.keep (hr : OwnRows w base E hs net) (h : ∀ x ∈ hs, ∀ n xs, w.ownsRow base E 3 x n xs → w'.ownsRow base E 3 x n xs) : OwnRows w' base E hs net := by
  induction hs generalizing net with
  | nil => cases net with
    | nil => trivial
    | cons _ _ => exact hr.elim
  | cons x r ih => cases net with
    | nil => exact hr.elim
    | cons m ls => exact ⟨hr.1, h x (by simp) _ _ hr.2.1, ih hr.2.2 (fun y hy => h y (by simp [hy]))⟩
theorem OwnRows.below (hr : OwnRows w base E hs net) (hb : Below w.heap.size w w') : OwnRows w' base E hs net := hr.keep fun _ _ _ _ h => own_below h hb
theorem OwnN.below (h : OwnN w base E EH v net) (hb : Below w.heap.size w w') : OwnN w' base E EH v net := by
  obtain ⟨hs, h1, h2, h3⟩ := h
  exact ⟨hs, own_below h1 hb, h2.below hb, h3⟩
theorem OwnN.rd {A : Option Addr} {c : Nat} (h : OwnN w base E EH (.slice A net.length c) net) : RdN w base w.heap.size A net := by
  obtain ⟨hs, h1, h2, _⟩ := h
  intro k hk
  obtain ⟨B, cc, e, h3⟩ := h2.get k hk
  obtain ⟨b, off, e1, g1, g2, g3⟩ := (Rd.of_own h1).ge k _ e
  exact ⟨b, off, B, cc, e1, g1, g2, g3, own_cap h3, Rd.of_own h3⟩
end

theorem gr_setAny (w : World) (H k : Nat) (u : Value) : w.grownBy (w.setCell ⟨H, k, none⟩ u) (some H) :=
  ⟨rfl, rfl, rfl, by simp, fun j _ hj => Below.heap_setCell _ _ _ _ (fun e => hj (by rw [e]))⟩
theorem OwnRows.setHead {w : World} {base H k : Nat} {E : TypeId} {hs : List Value} {net : Net} {u : Value} (hr : OwnRows w base E hs net) (hn : H ∉ blks hs) : OwnRows (w.setCell ⟨H, k, none⟩ u) base E hs net :=
  hr.keep fun x hx n xs h => h.kept (gr_setAny _ _ _ _) (by
    cases hv : x.ownBlock with
    | none => exact .inl rfl
    | some g => refine .inr (fun e => hn ?_); injection e with e; subst e; exact List.mem_filterMap.2 ⟨x, hx, hv⟩)
theorem OwnRows.lt {w : World} {base : Nat} {E : TypeId} {hs : List Value} {net : Net} (hr : OwnRows w base E hs net) : ∀ b ∈ blks hs, b < w.heap.size := by
  induction hs generalizing net with
  | nil => intro b hb; simp [blks] at hb
  | cons x r ih => cases net with
    | nil => exact hr.elim
    | cons m ls =>
      intro b hb
      obtain ⟨y, hy, hv⟩ := List.mem_filterMap.1 hb
      rcases List.mem_cons.1 hy with rfl | hy
      · exact (hr.2.1.lt b hv).2
      · exact ih hr.2.2 b (List.mem_filterMap.2 ⟨y, hy, hv⟩)
theorem OwnRows.ge {w : World} {base : Nat} {E : TypeId} {hs : List Value} {net : Net} (hr : OwnRows w base E hs net) : ∀ b ∈ blks hs, base ≤ b := by
  induction hs generalizing net with
  | nil => intro b hb; simp [blks] at hb
  | cons x r ih => cases net with
    | nil => exact hr.elim
    | cons m ls =>
      intro b hb
      obtain ⟨y, hy, hv⟩ := List.mem_filterMap.1 hb
      rcases List.mem_cons.1 hy with rfl | hy
      · exact (hr.2.1.lt b hv).1
      · exact ih hr.2.2 b (List.mem_filterMap.2 ⟨y, hy, hv⟩)
theorem blks_append (a b : List Value) : blks (a ++ b) = blks a ++ blks b := by simp [blks, List.filterMap_append]
theorem nodup_snoc {w2 : World} {hs : List Value} {n size m : Nat} {e : TypeId} {v : Value} {xs : List Value} (h : (blks hs).Nodup) (hlt : ∀ b ∈ blks hs, b < n) (ho : w2.ownsRow n e size v m xs) : (blks hs ++ blks [v]).Nodup := by
  rw [List.nodup_append]
  refine ⟨h, ?_, ?_⟩
  · cases hv : v.ownBlock <;> simp [blks, hv]
  · intro a ha b hb e
    subst e
    have h1 := hlt a ha
    obtain ⟨y, hy, hv⟩ := List.mem_filterMap.1 hb
    rw [List.mem_singleton] at hy
    subst hy
    have := (ho.lt a hv).1
    omega
theorem fill_next (hs : List Value) (v : Value) (n k : Nat) (h : hs.length = k) (hk : k < n) : (hs ++ List.replicate (n - k) (Value.slice none 0 0)).set k v = (hs ++ [v]) ++ List.replicate (n - (k + 1)) (Value.slice none 0 0) := by
  have e1 : n - k = (n - (k + 1)) + 1 := by omega
  rw [e1, List.replicate_succ, List.set_append_right _ _ (by omega), h, Nat.sub_self, List.set_cons_zero, List.append_assoc]
  rfl
theorem made_nil (n : Nat) : (madeCells (Value.slice none 0 0).cells (n * 1)).toList = List.replicate n (.slice none 0 0) := by
  rw [Nat.mul_one]
  show (madeCells #[Value.slice none 0 0] n).toList = _
  rw [toList_madeCells_one]

end Go.Proofs.Ytdiichfdffhdaaa

/-
  Words for slices of structs of two integers (parts of a road); the law's own helpers on them: copy, compare, mark, count; how such an argument is opened.
-/
import Derived.Test.YtmeaegopenbelaaBase
import Derived.Test.YtmeaegopenbelaaOpen
import Derived.Deep.RegionHeld3
namespace Go.Proofs.Ytmeaegopenbelaa
open Go.ChangeShapes Go.WideShapes Go.ChangeAt Go.RowKit Go.Deep

abbrev T2 := Int × Int
def flat2 : List T2 → List Value
  | [] => []
  | g :: r => .int .i64 g.1 :: .int .i64 g.2 :: flat2 r
theorem flat2_length (l : List T2) : (flat2 l).length = l.length * 2 := by
  induction l with
  | nil => rfl
  | cons g r ih => simp only [flat2, List.length_cons, ih]; omega
theorem flat2_append (a b : List T2) : flat2 (a ++ b) = flat2 a ++ flat2 b := by
  induction a with
  | nil => rfl
  | cons g r ih => simp only [List.cons_append, flat2, ih]
theorem flat2_get (l : List T2) (k : Nat) (h : k < l.length) :
    (flat2 l)[k * 2]? = some (.int .i64 l[k].1) ∧ (flat2 l)[k * 2 + 1]? = some (.int .i64 l[k].2) := by
  induction l generalizing k with
  | nil => simp at h
  | cons g r ih =>
    cases k with
    | zero => simp [flat2]
    | succ k =>
      have := ih k (by simpa using h)
      have e : (k + 1) * 2 = k * 2 + 2 := by omega
      simpa [flat2, e] using this
theorem flat2_one (l : List T2) : ∀ u ∈ flat2 l, u.oneCell' = true := by
  induction l with
  | nil => simp [flat2]
  | cons g r ih => intro u hu; simp only [flat2, List.mem_cons] at hu; rcases hu with rfl | rfl | hu <;> first | rfl | exact ih u hu
theorem Rd.at2 {w : World} {lo hi : Nat} {A : Option Addr} {l : List T2} (h : Rd w lo hi A (flat2 l)) (k : Nat) (hk : k < l.length) : ∃ b off, A = some ⟨b, off, none⟩ ∧ lo ≤ b ∧ b < hi ∧
    w.cell? ⟨b, off + k * 2, none⟩ = some (.int .i64 l[k].1) ∧ w.cell? ⟨b, off + k * 2 + 1, none⟩ = some (.int .i64 l[k].2) := by
  obtain ⟨g0, g1⟩ := flat2_get l k hk
  obtain ⟨b, off, e, h1, h2, c0⟩ := h.ge _ _ g0
  obtain ⟨b1, off1, e1, _, _, c1⟩ := h.ge _ _ g1
  rw [e] at e1
  injection e1 with e1; injection e1 with e1 e1'; subst e1 e1'
  exact ⟨b, off, e, h1, h2, c0, c1⟩
theorem flat2_set (L : List T2) (k : Nat) (x : T2) : (((flat2 L).set (k * 2) (.int .i64 x.1)).set (k * 2 + 1) (.int .i64 x.2)) = flat2 (L.set k x) := by
  induction L generalizing k with
  | nil => simp [flat2]
  | cons g r ih =>
    cases k with
    | zero => simp [flat2]
    | succ k =>
      have e : (k + 1) * 2 = k * 2 + 2 := by omega
      simp only [e, List.set_cons_succ, flat2, ← ih]
section
variable {w : World} {B g n cap : Nat} {E : TypeId} {L : List T2}
theorem own2_cells (h : w.ownsRow B E 2 (.slice (some ⟨g, 0, none⟩) n cap) n (flat2 L)) (k : Nat) (hk : k < L.length) :
    w.cell? ⟨g, k * 2, none⟩ = some (.int .i64 L[k].1) ∧ w.cell? ⟨g, k * 2 + 1, none⟩ = some (.int .i64 L[k].2) := by
  obtain ⟨b, off, e, _, _, c0, c1⟩ := (Rd.of_own h).at2 k hk
  injection e with e; injection e with e1 e2; subst e1 e2
  simpa using And.intro c0 c1
theorem own2_store (h : w.ownsRow B E 2 (.slice (some ⟨g, 0, none⟩) n cap) n (flat2 L)) (k : Nat) (x : T2) :
    ((w.setCell ⟨g, k * 2, none⟩ (.int .i64 x.1)).setCell ⟨g, k * 2 + 1, none⟩ (.int .i64 x.2)).ownsRow B E 2 (.slice (some ⟨g, 0, none⟩) n cap) n (flat2 (L.set k x)) := by
  have h1 := ((h.stored (k * 2) (.int .i64 x.1)).1.stored (k * 2 + 1) (.int .i64 x.2)).1
  rwa [flat2_set] at h1
end
theorem made2 (n : Nat) : (madeCells (Value.agg #[.int .i64 0, .int .i64 0]).cells (n * 2)).toList = flat2 (List.replicate n (0, 0)) := by
  apply List.ext_getElem?
  intro j
  by_cases hj : j < n * 2
  · have hk : j / 2 < (List.replicate n ((0, 0) : T2)).length := by rw [List.length_replicate]; omega
    obtain ⟨g0, g1⟩ := flat2_get (List.replicate n ((0, 0) : T2)) (j / 2) hk
    simp only [List.getElem_replicate] at g0 g1
    have e : j = j / 2 * 2 + j % 2 := by omega
    have hmade : (madeCells (Value.agg #[.int .i64 0, .int .i64 0]).cells (n * 2)).toList[j]? = some (.int .i64 0) := by
      have hm : j % 2 = 0 ∨ j % 2 = 1 := by omega
      rcases hm with hm | hm <;> simp [madeCells, Value.cells, hj, hm]
    rw [hmade]
    have hm : j % 2 = 0 ∨ j % 2 = 1 := by omega
    rcases hm with hm | hm <;> rw [hm] at e
    · rw [Nat.add_zero] at e; rw [e, g0]
    · rw [e, g1]
  · rw [List.getElem?_eq_none (by simp [madeCells]; omega), List.getElem?_eq_none (by rw [flat2_length, List.length_replicate]; omega)]
theorem Rd.of2 {w : World} {b off : Nat} {l : List T2} (hb : b < w.heap.size) (h : ∀ k (hk : k < l.length), w.cell? ⟨b, off + k * 2, none⟩ = some (.int .i64 l[k].1) ∧ w.cell? ⟨b, off + k * 2 + 1, none⟩ = some (.int .i64 l[k].2)) :
    Rd w 0 w.heap.size (some ⟨b, off, none⟩) (flat2 l) := fun j hj => by
  refine ⟨b, off, rfl, Nat.zero_le _, hb, ?_⟩
  have hj' := hj
  rw [flat2_length] at hj'
  have hk : j / 2 < l.length := by omega
  obtain ⟨g0, g1⟩ := flat2_get l (j / 2) hk
  obtain ⟨c0, c1⟩ := h (j / 2) hk
  have hm : j % 2 = 0 ∨ j % 2 = 1 := by omega
  have hx : (flat2 l)[j]? = some (flat2 l)[j] := List.getElem?_eq_getElem hj
  rw [← hx]
  rcases hm with hm | hm
  · have e : j = j / 2 * 2 := by omega
    rw [e, g0, c0]
  · have e : j = j / 2 * 2 + 1 := by omega
    rw [e, g1, ← Nat.add_assoc, c1]
section
variable {H : Type} {enc : TypeId × Value → H} {P : Program} {w : World} {base : Nat} {spare : Nat → Bool} {held : Bool}
theorem open_s2 {t e : TypeId} {f0 f1 : Field} {fuel : Nat} {A : Option Addr} {len cap : Nat} {x : DataW H × List MemPlace} (ht : P.underlying t = some (.slice e)) (he : P.underlying e = some (.struct #[f0, f1]))
    (hone : oneCellFields P #[f0, f1] = true) (hC : P.cellsOf e = 2) (i0 : P.underlying f0.type = some (.int .i64)) (i1 : P.underlying f1.type = some (.int .i64))
    (h : DataW.trod enc P w base spare held fuel t [.slice A len cap] = some x) :
    ∃ l : List T2, len = l.length ∧ len ≤ maxLen ∧ Rd w 0 w.heap.size A (flat2 l) ∧ ∀ g ∈ l, in64 g.1 ∧ in64 g.2 := by
  rcases open_slice ht h with ⟨h0, _⟩ | ⟨a, len', cap', m, n, D, Pl, hcs, hb, hl, hm, hmm, hx, hi⟩
  · simp only [List.cons.injEq, Value.slice.injEq, and_true] at h0
    obtain ⟨rfl, rfl, rfl⟩ := h0
    exact ⟨[], rfl, by simp, Rd.nil, by simp⟩
  · simp only [List.cons.injEq, Value.slice.injEq, and_true] at hcs
    obtain ⟨rfl, rfl, rfl⟩ := hcs
    have hle : len ≤ m := by rw [hmm]; split <;> omega
    have key : ∀ i, ∃ g : T2, i < len → (w.cell? (a.add (i * 2)) = some (.int .i64 g.1) ∧ w.cell? ((a.add (i * 2)).add 1) = some (.int .i64 g.2)) ∧ in64 g.1 ∧ in64 g.2 := by
      intro i
      by_cases hil : i < len
      · obtain ⟨cs', hc, ht'⟩ := hi i (by omega)
        rw [hC] at hc
        obtain ⟨ys, n', _, hy, hlen, hyl, hf⟩ := DataW.trod_struct he ht'
        obtain ⟨_, hcl, hat⟩ := World.cells?_some hc
        obtain ⟨o0, k0⟩ := hone_of hone 0 f0 rfl
        obtain ⟨o1, k1⟩ := hone_of hone 1 f1 rfl
        have h0 := hf 0 f0 rfl
        have h1 := hf 1 f1 rfl
        match cs', hcl with
        | [c0, c1], _ =>
          match ys, hyl with
          | [y0, y1], _ =>
            simp only [o0, k0, List.drop_zero, List.take_succ_cons, List.take_zero, List.getElem?_cons_zero] at h0
            simp only [o1, k1, List.drop_succ_cons, List.drop_zero, List.take_succ_cons, List.take_zero, List.getElem?_cons_succ, List.getElem?_cons_zero] at h1
            obtain ⟨n0, e0, _, w0⟩ := DataW.trod_int i0 h0
            obtain ⟨n1, e1, _, w1⟩ := DataW.trod_int i1 h1
            simp only [List.cons.injEq, and_true] at e0 e1
            subst e0 e1
            have a0 := hat 0 (by omega)
            have a1 := hat 1 (by omega)
            refine ⟨(n0, n1), fun _ => ⟨⟨?_, ?_⟩, in64_of_wf w0, in64_of_wf w1⟩⟩
            · have : (a.add (i * 2)).add 0 = a.add (i * 2) := by simp [Addr.add]
              rw [this] at a0; simpa using a0
            · simpa using a1
      · exact ⟨(0, 0), fun hh => absurd hh hil⟩
    obtain ⟨f, hf⟩ := Classical.skolem.1 key
    refine ⟨(List.range len).map f, by simp, by omega, ?_, ?_⟩
    · rcases Nat.eq_zero_or_pos len with h0 | h0
      · rw [h0]; exact Rd.nil
      · obtain ⟨b, off, spot⟩ := a
        have hs : spot = none := by
          have := (hf 0 h0).1.1
          simpa [Addr.add] using World.cell?_spot this
        subst hs
        have hblt : b < w.heap.size := by
          have := World.block_lt_of_cell? w _ (hf 0 h0).1.1
          simpa [Addr.add] using this
        refine Rd.of2 hblt fun k hk => ?_
        simp only [List.length_map, List.length_range] at hk
        obtain ⟨c0, c1⟩ := (hf k hk).1
        simp only [Addr.add_lit] at c0 c1
        simpa using And.intro c0 c1
    · intro g hg
      simp only [List.mem_map, List.mem_range] at hg
      obtain ⟨i, hi, rfl⟩ := hg
      exact (hf i hi).2
end

def RetP (E : TypeId) (l : List T2) (w : World) (e : Ending) (w' : World) : Prop :=
  ∃ A c, e = .returned (.slice A l.length c) ∧ w'.ownsRow w.heap.size E 2 (.slice A l.length c) l.length (flat2 l) ∧ Below w.heap.size w w'
def toPRel (w : World) (E : TypeId) (l : List T2) (k : Nat) (g : Nat) (wr : World) : Prop :=
  wr.ownsRow w.heap.size E 2 (.slice (some ⟨g, 0, none⟩) l.length l.length) l.length (flat2 (l.take k ++ List.replicate (l.length - k) (0, 0)))
/-- What marking lays: one number after the other. -/
def marks2 (k : Int) (n : Nat) : List T2 := (List.range n).map fun (i : Nat) => (k + 2 * i, k + 2 * i + 1)
theorem marks2_length (k : Int) (n : Nat) : (marks2 k n).length = n := by simp [marks2]
theorem marks2_succ (k : Int) (n : Nat) : marks2 k (n + 1) = marks2 k n ++ [(k + 2 * n, k + 2 * n + 1)] := by simp [marks2, List.range_succ]
theorem mark2_step (l : List T2) (k : Int) (i : Nat) (h : i < l.length) : (marks2 k i ++ l.drop i).set i (k + 2 * i, k + 2 * i + 1) = marks2 k (i + 1) ++ l.drop (i + 1) := by
  rw [List.set_append_right _ _ (by rw [marks2_length]; exact Nat.le_refl _), marks2_length, Nat.sub_self, List.drop_eq_getElem_cons h, List.set_cons_zero, marks2_succ, List.append_assoc]
  rfl
def mark2Rel (base : Nat) (E : TypeId) (l : List T2) (k : Int) (i g n c : Nat) (wr : World) : Prop :=
  wr.ownsRow base E 2 (.slice (some ⟨g, 0, none⟩) n c) n (flat2 (marks2 k i ++ l.drop i))
def MarkP (base : Nat) (E : TypeId) (n : Nat) (v : Value) (k : Int) (w : World) (e : Ending) (w' : World) : Prop :=
  e = .returned (.int .i64 (k + 2 * n)) ∧ w'.ownsRow base E 2 v n (flat2 (marks2 k n)) ∧ w.grownBy w' v.ownBlock
theorem grownBy_refl2 (w : World) (row : Option Nat) : w.grownBy w row := ⟨rfl, rfl, rfl, Nat.le_refl _, fun _ _ _ => rfl⟩
theorem grownBy_setCell2 {a w : World} {g : Nat} (h : a.grownBy w (some g)) (o : Nat) (u : Value) : a.grownBy (w.setCell ⟨g, o, none⟩ u) (some g) :=
  h.trans ⟨rfl, rfl, rfl, by simp [World.setCell], fun k _ hk => Below.heap_setCell _ _ _ _ (fun e => hk (by rw [e]))⟩
def same2 (x y : T2) : Bool := decide (x = y)
theorem szPartS_any (A : Option Addr) (n c : Nat) (left : Int) (w : World) (h : n ≤ maxLen) (h0 : 0 ≤ left) (h1 : left ≤ 1048576) :
    Calls Try.prog 18 #[.slice A n c, .int .i64 left] w fun e w' => e = .returned (.int .i64 (if left < n then -1 else left - n)) ∧ w = w' := by
  unfold maxLen at h
  by_cases hlt : left < n
  · rw [if_pos hlt]
    go_enter Try.func18, Try.ntmps18
    go_wp2
    go_ret
    exact ⟨rfl, rfl⟩
  · rw [if_neg hlt]
    have hlt' : (n : Int) ≤ left := by omega
    clear hlt
    go_enter Try.func18, Try.ntmps18
    go_wp2
    go_ret
    exact ⟨rfl, rfl⟩
theorem infoPart : (Try.prog.info? 63).map (fun i => (i.zero, i.size, i.bytes)) = some (some (.agg #[.int .i64 0, .int .i64 0]), 2, 16) := by kernel_rfl

set_option maxHeartbeats 400000 in
theorem toPart_any (x y : Int) (w : World) :
    Calls Try.prog 44 #[.agg #[.int .i64 x, .int .i64 y]] w fun e w' => e = .returned (.agg #[.int .i64 x, .int .i64 y]) ∧ Below w.heap.size w w' := by
  go_enter Try.func44, Try.ntmps44
  go_wp2
  refine bodyPost_ret (v := .agg #[.int .i64 x, .int .i64 y]) (by simp [results, Try.results44, go_sem]) rfl ⟨rfl, ?_⟩
  (repeat (first | exact Below.refl _ _ | assumption | apply below_alloc | apply below_drewN | apply Below.drew | refine Below.setCell ?_ (by simp; try omega) _))

set_option maxHeartbeats 1000000 in
theorem toPartS_any (A : Option Addr) (c lo hi : Nat) (l : List T2) (w : World) (hl : l.length ≤ 1048576) (hr : Rd w lo hi A (flat2 l)) (hh : hi ≤ w.heap.size) :
    Calls Try.prog 19 #[.slice A l.length c] w (RetP 63 l w) := by
  obtain ⟨i0, hi0, hz0, hz1, hz2⟩ := info_parts infoPart
  have hc1 : i0.bytes * l.length ≤ 281474976710656 := by rw [hz2]; omega
  have hc2 : l.length ≤ maxLen := by simp only [maxLen]; omega
  go_enter Try.func19, Try.ntmps19
  go_wp2_with (first | (at_make; go_must (refine wpList_make_full _ rfl _ _ 23 rfl w.heap.size 63 i0 _ 2 Try.underlying23 hi0 hz0 hz1 _ _ _ _ l.length rfl rfl rfl rfl hc1 hc2 (Nat.le_refl _) ?_); intro w1 hown hg))
  rw [made2] at hown
  have hb1 : Below w.heap.size w w1 := (Below.refl _ _).grown hg (Nat.le_refl _) (by simp)
  clear hg
  go_loopw [4] (fun i wr => ∃ k : Nat, k ≤ l.length ∧ i = .int .i64 k ∧ toPRel w 63 l k w.heap.size wr ∧ Below w.heap.size w wr) (fun i _ => l.length - (intOf i).toNat)
  case atStart => exact ⟨0, Nat.zero_le _, rfl, by simpa [toPRel] using hown, hb1⟩
  case round =>
    obtain ⟨k, hk, rfl, hrow, hb⟩ := hrel
    clear hown hb1
    by_cases hlt : k < l.length
    · obtain ⟨b, off, rfl, hlo, hhi, c0, c1⟩ := (hr.below hb hh).at2 k hlt
      obtain ⟨x, hx⟩ : ∃ x, x = l[k] := ⟨_, rfl⟩
      rw [← hx] at c0 c1
      have HX := Lib.hid hx
      clear hx
      go_wp2_with (fail)
      refine (toPart_any _ _ _).mono ?_
      rintro e w2 ⟨rfl, hb2⟩
      have hrow2 := own_below hrow hb2
      have hlen : (l.take k ++ List.replicate (l.length - k) ((0, 0) : T2)).length = l.length := by simp; omega
      obtain ⟨d0, d1⟩ := own2_cells hrow2 k (by rw [hlen]; exact hlt)
      have f0 := hrow2.frozenAt (k * 2)
      have f1 := hrow2.frozenAt (k * 2 + 1)
      have hst := own2_store hrow2 k x
      rw [HX.out, fill_step l (0, 0) k hlt, ← HX.out] at hst
      have hb3 : Below w.heap.size w w2 := hb.trans (hb2.mono hb.size)
      clear c0 c1
      go_wp2
      go_roundw
      case rel => exact ⟨k + 1, by omega, by go_num, hst, by (repeat (first | exact Below.refl _ _ | assumption | apply below_alloc | apply below_drewN | apply Below.drew | refine Below.setCell ?_ (by simp; try omega) _))⟩
      case measure => simp [intOf]; omega
    · have hkl : k = l.length := by omega
      subst hkl
      have hown : wr.ownsRow w.heap.size 63 2 (.slice (some ⟨w.heap.size, 0, none⟩) l.length l.length) l.length (flat2 l) := by simpa [toPRel] using hrow
      go_wp2
      go_ret
      exact ⟨_, _, rfl, hown, hb⟩
set_option maxHeartbeats 400000 in
theorem eqPart_any (x y : T2) (w : World) :
    Calls Try.prog 45 #[.agg #[.int .i64 x.1, .int .i64 x.2], .agg #[.int .i64 y.1, .int .i64 y.2]] w fun e w' => e = .returned (.bool (same2 x y)) ∧ Below w.heap.size w w' := by
  obtain ⟨x0, x1⟩ := x
  obtain ⟨y0, y1⟩ := y
  go_enter Try.func45, Try.ntmps45
  go_wp2
  all_goals
    go_ret
    refine ⟨ret_bool ?_, ?_⟩
    · simp_all [same2]
    · (repeat (first | exact Below.refl _ _ | assumption | apply below_alloc | apply below_drewN | apply Below.drew | refine Below.setCell ?_ (by simp; try omega) _))

set_option maxHeartbeats 1000000 in
theorem eqPartS_any (A B : Option Addr) (c d lo hi lo' hi' : Nat) (l m : List T2) (w : World) (hm : m.length ≤ 1048576) (hr : Rd w lo hi A (flat2 l)) (hh : hi ≤ w.heap.size) (hr' : Rd w lo' hi' B (flat2 m)) (hh' : hi' ≤ w.heap.size) :
    Calls Try.prog 21 #[.slice A l.length c, .slice B m.length d] w fun e w' => e = .returned (.bool (decide (l = m))) ∧ Below w.heap.size w w' := by
  by_cases hlen : l.length = m.length
  case neg =>
    have hres := Lib.hid (show decide (l = m) = false from decide_eq_false (fun h => hlen (by rw [h])))
    have hne : ((l.length : Int) != (m.length : Int)) = true := by simp; omega
    clear hlen
    go_enter Try.func21, Try.ntmps21
    go_wp2
    go_ret
    exact ⟨ret_bool hres.out.symm, by (repeat (first | exact Below.refl _ _ | assumption | apply below_alloc | apply below_drewN | apply Below.drew | refine Below.setCell ?_ (by simp; try omega) _))⟩
  case pos =>
    have hne : ((l.length : Int) != (m.length : Int)) = false := by simp; omega
    have hle : l.length ≤ m.length := by omega
    have HL := Lib.hid hlen
    clear hlen
    go_enter Try.func21, Try.ntmps21
    go_wp2
    go_loopw [5] (fun i wr => ∃ k : Nat, k ≤ l.length ∧ i = .int .i64 k ∧ Hid (l.take k = m.take k) ∧ Below w.heap.size w wr) (fun i _ => l.length - (intOf i).toNat)
    case atStart => exact ⟨0, Nat.zero_le _, rfl, by simp [Hid], Below.refl _ _⟩
    case round =>
      obtain ⟨k, hk, rfl, H, hb⟩ := hrel
      by_cases hlt : k < l.length
      · have hlt' : k < m.length := by omega
        obtain ⟨b, off, rfl, hlo, hhi, c0, c1⟩ := (hr.below hb hh).at2 k hlt
        obtain ⟨b', off', rfl, hlo', hhi', d0, d1⟩ := (hr'.below hb hh').at2 k hlt'
        obtain ⟨x, hx⟩ : ∃ x, x = l[k] := ⟨_, rfl⟩
        obtain ⟨y, hy⟩ : ∃ y, y = m[k] := ⟨_, rfl⟩
        rw [← hx] at c0 c1
        rw [← hy] at d0 d1
        have HX := Lib.hid hx
        have HY := Lib.hid hy
        clear hx hy
        have hbw : b < wr.heap.size := by have := hb.size; omega
        have hbw' : b' < wr.heap.size := by have := hb.size; omega
        by_cases hxy : x = y
        · have hd : same2 x y = true := decide_eq_true hxy
          have hres := Lib.hid (show l.take (k + 1) = m.take (k + 1) by
            rw [List.take_succ_eq_append_getElem hlt, List.take_succ_eq_append_getElem hlt', H.out, ← HX.out, ← HY.out, hxy])
          clear hxy
          go_wp2
          go_region_held3 (fun w' => w'.cell? ⟨b, off + k * 2, none⟩ = some (.int .i64 x.1) ∧ w'.cell? ⟨b, off + k * 2 + 1, none⟩ = some (.int .i64 x.2) ∧ w'.cell? ⟨b', off' + k * 2, none⟩ = some (.int .i64 y.1) ∧ w'.cell? ⟨b', off' + k * 2 + 1, none⟩ = some (.int .i64 y.2)) (go_keep)
            (first | (go_at_call 45; refine (eqPart_any x y _).mono ?_; rintro e w2 ⟨rfl, hb2'⟩; have hb2 := below_of_drew hb2'; have hcb : ∀ b o, b < wr.heap.size → w2.cell? ⟨b, o, none⟩ = wr.cell? ⟨b, o, none⟩ := cell_below hb2))
          have hb3 : Below w.heap.size w w2 := hb.trans (hb2.mono hb.size)
          clear hcb
          go_wp2
          go_roundw
          case rel => exact ⟨k + 1, by omega, by go_num, hres, hb3⟩
          case measure => simp [intOf]; omega
        · have hd : same2 x y = false := decide_eq_false hxy
          have hres := Lib.hid (show decide (l = m) = false from decide_eq_false (fun h => hxy (by rw [HX.out, HY.out]; simp [h])))
          clear hxy
          go_wp2
          go_region_held3 (fun w' => w'.cell? ⟨b, off + k * 2, none⟩ = some (.int .i64 x.1) ∧ w'.cell? ⟨b, off + k * 2 + 1, none⟩ = some (.int .i64 x.2) ∧ w'.cell? ⟨b', off' + k * 2, none⟩ = some (.int .i64 y.1) ∧ w'.cell? ⟨b', off' + k * 2 + 1, none⟩ = some (.int .i64 y.2)) (go_keep)
            (first | (go_at_call 45; refine (eqPart_any x y _).mono ?_; rintro e w2 ⟨rfl, hb2'⟩; have hb2 := below_of_drew hb2'; have hcb : ∀ b o, b < wr.heap.size → w2.cell? ⟨b, o, none⟩ = wr.cell? ⟨b, o, none⟩ := cell_below hb2))
          have hb3 : Below w.heap.size w w2 := hb.trans (hb2.mono hb.size)
          clear hcb
          go_wp2
          go_ret
          exact ⟨ret_bool hres.out.symm, hb3⟩
      · have hres := Lib.hid (show decide (l = m) = true from decide_eq_true (by
          have h := H.out
          have hl := HL.out
          have hkl : k = l.length := by omega
          subst hkl
          rw [hl, List.take_length] at h
          rw [← hl, List.take_length] at h
          exact h))
        go_wp2
        go_ret
        exact ⟨ret_bool hres.out.symm, hb⟩
set_option maxHeartbeats 1000000 in
theorem markPartS_any (A : Option Addr) (c base : Nat) (l : List T2) (k : Int) (w : World) (hl : l.length ≤ 8388608) (h0 : 0 ≤ k) (h1 : k ≤ 1000000000) (hown : w.ownsRow base 63 2 (.slice A l.length c) l.length (flat2 l)) :
    Calls Try.prog 22 #[.slice A l.length c, .int .i64 k] w (MarkP base 63 l.length (.slice A l.length c) k w) := by
  rcases Nat.eq_zero_or_pos l.length with hz | hz
  · have hz' := Lib.hid hz
    have hz2 : ¬ 0 < l.length := by omega
    have hz3 : decide (0 < l.length) = false := decide_eq_false hz2
    have hfin : MarkP base 63 l.length (.slice A l.length c) k w (.returned (.int .i64 k)) w := ⟨by rw [hz]; simp, by
      have e : l = [] := List.length_eq_zero_iff.1 hz
      subst e; simpa [marks2] using hown, grownBy_refl2 _ _⟩
    clear hz
    generalize hn : l.length = n at *
    go_enter Try.func22, Try.ntmps22
    go_wp2
    refine wp_loop_rounds 1 ?_
    rw [rounds_succ]
    go_wp2
    go_ret
    exact hfin
  · obtain ⟨g, cap, hv, hbg, hgl⟩ := hown.form hz
    injection hv with hA _ hc
    subst hA hc
    go_enter Try.func22, Try.ntmps22
    go_wp2
    go_loopw [1, 5] (fun q i wr => ∃ j : Nat, j ≤ l.length ∧ i = .int .i64 j ∧ q = .int .i64 (k + 2 * j) ∧ mark2Rel base 63 l k j g l.length c wr ∧ w.grownBy wr (some g)) (fun _ i _ => l.length - (intOf i).toNat)
    case atStart => exact ⟨0, Nat.zero_le _, rfl, by simp, by simpa [mark2Rel, marks2] using hown, grownBy_refl2 _ _⟩
    case round =>
      obtain ⟨j, hj, rfl, rfl, hrow, hg⟩ := hrel
      clear hown
      by_cases hlt : j < l.length
      · have hlen : (marks2 k j ++ l.drop j).length = l.length := by rw [List.length_append, marks2_length, List.length_drop]; omega
        obtain ⟨d0, d1⟩ := own2_cells hrow j (by rw [hlen]; exact hlt)
        have f0 := hrow.frozenAt (j * 2)
        have f1 := hrow.frozenAt (j * 2 + 1)
        have hst := own2_store hrow j (k + 2 * j, k + 2 * j + 1)
        rw [mark2_step l k j hlt] at hst
        have hgg := grownBy_setCell2 (grownBy_setCell2 hg (j * 2) (.int .i64 (k + 2 * j))) (j * 2 + 1) (.int .i64 (k + 2 * j + 1))
        generalize (marks2 k j ++ l.drop j)[j] = u at *
        clear hlen hrow hg
        go_wp2
        go_roundw
        case rel => exact ⟨j + 1, by omega, by go_num, by go_num, hst, hgg⟩
        case measure => simp [intOf]; omega
      · have hkl : j = l.length := by omega
        subst hkl
        have hown : wr.ownsRow base 63 2 (.slice (some ⟨g, 0, none⟩) l.length c) l.length (flat2 (marks2 k l.length)) := by simpa [mark2Rel] using hrow
        go_wp2
        go_ret
        exact ⟨rfl, hown, hg⟩

end Go.Proofs.Ytmeaegopenbelaa

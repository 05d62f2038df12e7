/-
  Contracts of the law's own helpers on slices of integers: copy, compare, mark, look at the marks, sum, look for a number.
-/
import Derived.Test.YtdiichfdffhdaaaBase
import Derived.Deep.RegionHeld3
namespace Go.Proofs.Ytdiichfdffhdaaa
open Go.RowKit

theorem infoInt : (Try.prog.info? 3).map (fun i => (i.zero, i.size, i.bytes)) = some (some (.int .i64 0), 1, 8) := by kernel_rfl
def RetI (E : TypeId) (l : List Int) (w : World) (e : Ending) (w' : World) : Prop :=
  ∃ A c, e = .returned (.slice A l.length c) ∧ w'.ownsRow w.heap.size E 1 (.slice A l.length c) l.length (ints l) ∧ Below w.heap.size w w'
def toIRel (w : World) (E : TypeId) (l : List Int) (k : Nat) (g : Nat) (wr : World) : Prop :=
  wr.ownsRow w.heap.size E 1 (.slice (some ⟨g, 0, none⟩) l.length l.length) l.length (ints (l.take k ++ List.replicate (l.length - k) 0))
theorem made1 (n : Nat) : (madeCells (Value.int .i64 0).cells (n * 1)).toList = ints (List.replicate n 0) := by
  rw [Nat.mul_one]
  show (madeCells #[Value.int .i64 0] n).toList = _
  rw [toList_madeCells_one]
  simp [ints]
theorem ints_set (L : List Int) (k : Nat) (x : Int) : (ints L).set k (.int .i64 x) = ints (L.set k x) := by simp [ints]
section
variable {w : World} {B g n cap : Nat} {E : TypeId} {L : List Int}
theorem own1_cell (h : w.ownsRow B E 1 (.slice (some ⟨g, 0, none⟩) n cap) n (ints L)) (k : Nat) (hk : k < L.length) : w.cell? ⟨g, k, none⟩ = some (.int .i64 L[k]) := by
  obtain ⟨b, off, e, _, _, c0⟩ := (Rd.of_own h).at1 k hk
  injection e with e; injection e with e1 e2; subst e1 e2
  simpa using c0
theorem own1_store (h : w.ownsRow B E 1 (.slice (some ⟨g, 0, none⟩) n cap) n (ints L)) (k : Nat) (x : Int) :
    (w.setCell ⟨g, k, none⟩ (.int .i64 x)).ownsRow B E 1 (.slice (some ⟨g, 0, none⟩) n cap) n (ints (L.set k x)) := by
  have h1 := (h.stored k (.int .i64 x)).1
  rwa [ints_set] at h1
end
/-- What marking lays. -/
def marks1 (k : Int) (n : Nat) : List Int := (List.range n).map fun (i : Nat) => k + i
theorem marks1_length (k : Int) (n : Nat) : (marks1 k n).length = n := by simp [marks1]
theorem marks1_get (k : Int) (n i : Nat) (h : i < (marks1 k n).length) : (marks1 k n)[i] = k + i := by simp [marks1]
theorem marks1_succ (k : Int) (n : Nat) : marks1 k (n + 1) = marks1 k n ++ [k + n] := by simp [marks1, List.range_succ]
theorem mark1_step (l : List Int) (k : Int) (i : Nat) (h : i < l.length) : (marks1 k i ++ l.drop i).set i (k + i) = marks1 k (i + 1) ++ l.drop (i + 1) := by
  rw [List.set_append_right _ _ (by rw [marks1_length]; exact Nat.le_refl _), marks1_length, Nat.sub_self, List.drop_eq_getElem_cons h, List.set_cons_zero, marks1_succ, List.append_assoc]
  rfl
def mark1Rel (base : Nat) (E : TypeId) (l : List Int) (k : Int) (i g n c : Nat) (wr : World) : Prop :=
  wr.ownsRow base E 1 (.slice (some ⟨g, 0, none⟩) n c) n (ints (marks1 k i ++ l.drop i))
def MarkI (base : Nat) (E : TypeId) (n : Nat) (v : Value) (k : Int) (w : World) (e : Ending) (w' : World) : Prop :=
  e = .returned (.int .i64 (k + n)) ∧ w'.ownsRow base E 1 v n (ints (marks1 k n)) ∧ w.grownBy w' v.ownBlock
theorem grownBy_refl1 (w : World) (row : Option Nat) : w.grownBy w row := ⟨rfl, rfl, rfl, Nat.le_refl _, fun _ _ _ => rfl⟩
theorem grownBy_setCell1 {a w : World} {g : Nat} (h : a.grownBy w (some g)) (o : Nat) (u : Value) : a.grownBy (w.setCell ⟨g, o, none⟩ u) (some g) :=
  h.trans ⟨rfl, rfl, rfl, by simp [World.setCell], fun k _ hk => Below.heap_setCell _ _ _ _ (fun e => hk (by rw [e]))⟩

set_option maxHeartbeats 1000000 in
theorem sameInts_any (A B : Option Addr) (c d lo hi lo' hi' : Nat) (l m : List Int) (w : World) (hm : m.length ≤ 1048576) (hr : Rd w lo hi A (ints l)) (hr' : Rd w lo' hi' B (ints m)) :
    Calls Try.prog 34 #[.slice A l.length c, .slice B m.length d] w fun e w' => e = .returned (.bool (decide (l = m))) ∧ Below w.heap.size w w' := by
  by_cases hlen : l.length = m.length
  case neg =>
    have hres := Lib.hid (show decide (l = m) = false from decide_eq_false (fun h => hlen (by rw [h])))
    have hne : ((l.length : Int) != (m.length : Int)) = true := by simp; omega
    clear hlen
    go_enter Try.func34, Try.ntmps34
    go_wp2
    go_ret
    exact ⟨ret_bool hres.out.symm, by (repeat (first | exact Below.refl _ _ | assumption | apply below_alloc | apply below_drewN | apply Below.drew | refine Below.setCell ?_ (by simp; try omega) _))⟩
  case pos =>
    have hne : ((l.length : Int) != (m.length : Int)) = false := by simp; omega
    have hle : l.length ≤ m.length := by omega
    have HL := Lib.hid hlen
    clear hlen
    go_enter Try.func34, Try.ntmps34
    go_wp2
    go_loopw [5] (fun i wr => ∃ (k q : Nat), k ≤ l.length ∧ i = .int .i64 k ∧ Hid (l.take k = m.take k) ∧ wr = w.drewN q) (fun i _ => l.length - (intOf i).toNat)
    case atStart => exact ⟨0, 0, Nat.zero_le _, rfl, by simp [Hid], rfl⟩
    case round =>
      obtain ⟨k, q, hk, rfl, H, rfl⟩ := hrel
      by_cases hlt : k < l.length
      · have hlt' : k < m.length := by omega
        obtain ⟨b, off, rfl, hlo, hhi, c0⟩ := hr.at1 k hlt
        obtain ⟨b', off', rfl, hlo', hhi', d0⟩ := hr'.at1 k hlt'
        obtain ⟨x, hx⟩ : ∃ x, x = l[k] := ⟨_, rfl⟩
        obtain ⟨y, hy⟩ : ∃ y, y = m[k] := ⟨_, rfl⟩
        rw [← hx] at c0
        rw [← hy] at d0
        have HX := Lib.hid hx
        have HY := Lib.hid hy
        clear hx hy
        have hk0 : (0 : Int) ≤ (k : Int) := by omega
        have hk1 : (k : Int) < (l.length : Int) := by omega
        have hk2 : (k : Int) < (m.length : Int) := by omega
        by_cases hxy : x = y
        · have hd : (x != y) = false := by simp [hxy]
          have hres := Lib.hid (show l.take (k + 1) = m.take (k + 1) by
            rw [List.take_succ_eq_append_getElem hlt, List.take_succ_eq_append_getElem hlt', H.out, ← HX.out, ← HY.out, hxy])
          clear hxy
          go_wp2
          go_quiet (fail)
          go_wp2
          go_roundw
          case rel => exact ⟨k + 1, _, by omega, by go_num, hres, rfl⟩
          case measure => simp [intOf]; omega
        · have hd : (x != y) = true := by simp [hxy]
          have hres := Lib.hid (show decide (l = m) = false from decide_eq_false (fun h => hxy (by rw [HX.out, HY.out]; simp [h])))
          clear hxy
          go_wp2
          go_quiet (fail)
          go_wp2
          go_ret
          exact ⟨ret_bool hres.out.symm, by (repeat (first | exact Below.refl _ _ | assumption | apply below_alloc | apply below_drewN | apply Below.drew | refine Below.setCell ?_ (by simp; try omega) _))⟩
      · have hres := Lib.hid (show decide (l = m) = true from decide_eq_true (by
          have h := H.out
          have hl := HL.out
          have hkl : k = l.length := by omega
          subst hkl
          rw [hl, List.take_length] at h
          rw [← hl, List.take_length] at h
          exact h))
        go_wp2
        go_ret
        exact ⟨ret_bool hres.out.symm, by (repeat (first | exact Below.refl _ _ | assumption | apply below_alloc | apply below_drewN | apply Below.drew | refine Below.setCell ?_ (by simp; try omega) _))⟩

end Go.Proofs.Ytdiichfdffhdaaa

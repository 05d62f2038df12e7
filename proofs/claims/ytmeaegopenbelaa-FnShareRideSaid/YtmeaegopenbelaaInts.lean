/-
  Contracts of the law's own helpers on slices of integers: copy, compare, mark, look at the marks, sum, look for a number.
-/
import Derived.Test.YtmeaegopenbelaaBase
import Derived.Deep.RegionHeld3
namespace Go.Proofs.Ytmeaegopenbelaa
open Go.RowKit

theorem infoInt : (Try.prog.info? 3).map (fun i => (i.zero, i.size, i.bytes)) = some (some (.int .i64 0), 1, 8) := by kernel_rfl
def RetI (E : TypeId) (l : List Int) (w : World) (e : Ending) (w' : World) : Prop :=
  ∃ A c, e = .returned (.slice A l.length c) ∧ w'.ownsRow w.heap.size E 1 (.slice A l.length c) l.length (ints l) ∧ Below w.heap.size w w'
def toIRel (w : World) (E : TypeId) (l : List Int) (k : Nat) (g : Nat) (wr : World) : Prop :=
  wr.ownsRow w.heap.size E 1 (.slice (some ⟨g, 0, none⟩) l.length l.length) l.length (ints (l.take k ++ List.replicate (l.length - k) 0))
theorem made1 (n : Nat) : (madeCells (Value.int .i64 0).cells (n * 1)).toList = ints (List.replicate n 0) := by
  rw [Nat.mul_one]
  show (madeCells #[Value.int .i64 0] n).toList = _
  rw [toList_madeCells_one]
  simp [ints]
theorem ints_set (L : List Int) (k : Nat) (x : Int) : (ints L).set k (.int .i64 x) = ints (L.set k x) := by simp [ints]
section
variable {w : World} {B g n cap : Nat} {E : TypeId} {L : List Int}
theorem own1_cell (h : w.ownsRow B E 1 (.slice (some ⟨g, 0, none⟩) n cap) n (ints L)) (k : Nat) (hk : k < L.length) : w.cell? ⟨g, k, none⟩ = some (.int .i64 L[k]) := by
  obtain ⟨b, off, e, _, _, c0⟩ := (Rd.of_own h).at1 k hk
  injection e with e; injection e with e1 e2; subst e1 e2
  simpa using c0
theorem own1_store (h : w.ownsRow B E 1 (.slice (some ⟨g, 0, none⟩) n cap) n (ints L)) (k : Nat) (x : Int) :
    (w.setCell ⟨g, k, none⟩ (.int .i64 x)).ownsRow B E 1 (.slice (some ⟨g, 0, none⟩) n cap) n (ints (L.set k x)) := by
  have h1 := (h.stored k (.int .i64 x)).1
  rwa [ints_set] at h1
end
/-- What marking lays. -/
def marks1 (k : Int) (n : Nat) : List Int := (List.range n).map fun (i : Nat) => k + i
theorem marks1_length (k : Int) (n : Nat) : (marks1 k n).length = n := by simp [marks1]
theorem marks1_get (k : Int) (n i : Nat) (h : i < (marks1 k n).length) : (marks1 k n)[i] = k + i := by simp [marks1]
theorem marks1_succ (k : Int) (n : Nat) : marks1 k (n + 1) = marks1 k n ++ [k + n] := by simp [marks1, List.range_succ]
theorem mark1_step (l : List Int) (k : Int) (i : Nat) (h : i < l.length) : (marks1 k i ++ l.drop i).set i (k + i) = marks1 k (i + 1) ++ l.drop (i + 1) := by
  rw [List.set_append_right _ _ (by rw [marks1_length]; exact Nat.le_refl _), marks1_length, Nat.sub_self, List.drop_eq_getElem_cons h, List.set_cons_zero, marks1_succ, List.append_assoc]
  rfl
def mark1Rel (base : Nat) (E : TypeId) (l : List Int) (k : Int) (i g n c : Nat) (wr : World) : Prop :=
  wr.ownsRow base E 1 (.slice (some ⟨g, 0, none⟩) n c) n (ints (marks1 k i ++ l.drop i))
def MarkI (base : Nat) (E : TypeId) (n : Nat) (v : Value) (k : Int) (w : World) (e : Ending) (w' : World) : Prop :=
  e = .returned (.int .i64 (k + n)) ∧ w'.ownsRow base E 1 v n (ints (marks1 k n)) ∧ w.grownBy w' v.ownBlock
theorem grownBy_refl1 (w : World) (row : Option Nat) : w.grownBy w row := ⟨rfl, rfl, rfl, Nat.le_refl _, fun _ _ _ => rfl⟩
theorem grownBy_setCell1 {a w : World} {g : Nat} (h : a.grownBy w (some g)) (o : Nat) (u : Value) : a.grownBy (w.setCell ⟨g, o, none⟩ u) (some g) :=
  h.trans ⟨rfl, rfl, rfl, by simp [World.setCell], fun k _ hk => Below.heap_setCell _ _ _ _ (fun e => hk (by rw [e]))⟩

set_option maxHeartbeats 1000000 in
theorem toIntS_any (A : Option Addr) (c lo hi : Nat) (l : List Int) (w : World) (hl : l.length ≤ 1048576) (hr : Rd w lo hi A (ints l)) (hh : hi ≤ w.heap.size) :
    Calls Try.prog 32 #[.slice A l.length c] w (RetI 3 l w) := by
  obtain ⟨i0, hi0, hz0, hz1, hz2⟩ := info_parts infoInt
  have hc1 : i0.bytes * l.length ≤ 281474976710656 := by rw [hz2]; omega
  have hc2 : l.length ≤ maxLen := by simp only [maxLen]; omega
  go_enter Try.func32, Try.ntmps32
  go_wp2_with (first | (at_make; go_must (refine wpList_make_full _ rfl _ _ 26 rfl w.heap.size 3 i0 _ 1 Try.underlying26 hi0 hz0 hz1 _ _ _ _ l.length rfl rfl rfl rfl hc1 hc2 (Nat.le_refl _) ?_); intro w1 hown hg))
  rw [made1] at hown
  have hb1 : Below w.heap.size w w1 := (Below.refl _ _).grown hg (Nat.le_refl _) (by simp)
  clear hg
  go_loopw [4] (fun i wr => ∃ k : Nat, k ≤ l.length ∧ i = .int .i64 k ∧ toIRel w 3 l k w.heap.size wr ∧ Below w.heap.size w wr) (fun i _ => l.length - (intOf i).toNat)
  case atStart => exact ⟨0, Nat.zero_le _, rfl, by simpa [toIRel] using hown, hb1⟩
  case round =>
    obtain ⟨k, hk, rfl, hrow, hb⟩ := hrel
    clear hown hb1
    by_cases hlt : k < l.length
    · obtain ⟨b, off, rfl, hlo, hhi, c0⟩ := (hr.below hb hh).at1 k hlt
      have hlen : (l.take k ++ List.replicate (l.length - k) (0 : Int)).length = l.length := by simp; omega
      have d0 := own1_cell hrow k (by rw [hlen]; exact hlt)
      have f0 := hrow.frozenAt k
      have hst := own1_store hrow k l[k]
      rw [fill_step l 0 k hlt] at hst
      generalize (l.take k ++ List.replicate (l.length - k) (0 : Int))[k] = u at *
      generalize l[k] = x at *
      have hrow' := Lib.hid hrow
      clear hlen hrow
      have hk0 : (0 : Int) ≤ (k : Int) := by omega
      have hk1 : (k : Int) < (l.length : Int) := by omega
      go_wp2
      try go_region
      try go_wp2
      go_roundw
      case rel => exact ⟨k + 1, by omega, by go_num, by first | exact hst | exact hst.drew, by (repeat (first | exact Below.refl _ _ | assumption | apply below_alloc | apply below_drewN | apply Below.drew | refine Below.setCell ?_ (by simp; try omega) _))⟩
      case measure => simp [intOf]; omega
    · have hkl : k = l.length := by omega
      subst hkl
      have hown : wr.ownsRow w.heap.size 3 1 (.slice (some ⟨w.heap.size, 0, none⟩) l.length l.length) l.length (ints l) := by simpa [toIRel] using hrow
      go_wp2
      go_ret
      exact ⟨_, _, rfl, hown, hb⟩
set_option maxHeartbeats 1000000 in
theorem eqIntS_any (A B : Option Addr) (c d lo hi lo' hi' : Nat) (l m : List Int) (w : World) (hm : m.length ≤ 1048576) (hr : Rd w lo hi A (ints l)) (hr' : Rd w lo' hi' B (ints m)) :
    Calls Try.prog 20 #[.slice A l.length c, .slice B m.length d] w fun e w' => e = .returned (.bool (decide (l = m))) ∧ Below w.heap.size w w' := by
  by_cases hlen : l.length = m.length
  case neg =>
    have hres := Lib.hid (show decide (l = m) = false from decide_eq_false (fun h => hlen (by rw [h])))
    have hne : ((l.length : Int) != (m.length : Int)) = true := by simp; omega
    clear hlen
    go_enter Try.func20, Try.ntmps20
    go_wp2
    go_ret
    exact ⟨ret_bool hres.out.symm, by (repeat (first | exact Below.refl _ _ | assumption | apply below_alloc | apply below_drewN | apply Below.drew | refine Below.setCell ?_ (by simp; try omega) _))⟩
  case pos =>
    have hne : ((l.length : Int) != (m.length : Int)) = false := by simp; omega
    have hle : l.length ≤ m.length := by omega
    have HL := Lib.hid hlen
    clear hlen
    go_enter Try.func20, Try.ntmps20
    go_wp2
    go_loopw [5] (fun i wr => ∃ (k q : Nat), k ≤ l.length ∧ i = .int .i64 k ∧ Hid (l.take k = m.take k) ∧ wr = w.drewN q) (fun i _ => l.length - (intOf i).toNat)
    case atStart => exact ⟨0, 0, Nat.zero_le _, rfl, by simp [Hid], rfl⟩
    case round =>
      obtain ⟨k, q, hk, rfl, H, rfl⟩ := hrel
      by_cases hlt : k < l.length
      · have hlt' : k < m.length := by omega
        obtain ⟨b, off, rfl, hlo, hhi, c0⟩ := hr.at1 k hlt
        obtain ⟨b', off', rfl, hlo', hhi', d0⟩ := hr'.at1 k hlt'
        obtain ⟨x, hx⟩ : ∃ x, x = l[k] := ⟨_, rfl⟩
        obtain ⟨y, hy⟩ : ∃ y, y = m[k] := ⟨_, rfl⟩
        rw [← hx] at c0
        rw [← hy] at d0
        have HX := Lib.hid hx
        have HY := Lib.hid hy
        clear hx hy
        have hk0 : (0 : Int) ≤ (k : Int) := by omega
        have hk1 : (k : Int) < (l.length : Int) := by omega
        have hk2 : (k : Int) < (m.length : Int) := by omega
        by_cases hxy : x = y
        · have hd : (x != y) = false := by simp [hxy]
          have hres := Lib.hid (show l.take (k + 1) = m.take (k + 1) by
            rw [List.take_succ_eq_append_getElem hlt, List.take_succ_eq_append_getElem hlt', H.out, ← HX.out, ← HY.out, hxy])
          clear hxy
          go_wp2
          go_quiet (fail)
          go_wp2
          go_roundw
          case rel => exact ⟨k + 1, _, by omega, by go_num, hres, rfl⟩
          case measure => simp [intOf]; omega
        · have hd : (x != y) = true := by simp [hxy]
          have hres := Lib.hid (show decide (l = m) = false from decide_eq_false (fun h => hxy (by rw [HX.out, HY.out]; simp [h])))
          clear hxy
          go_wp2
          go_quiet (fail)
          go_wp2
          go_ret
          exact ⟨ret_bool hres.out.symm, by (repeat (first | exact Below.refl _ _ | assumption | apply below_alloc | apply below_drewN | apply Below.drew | refine Below.setCell ?_ (by simp; try omega) _))⟩
      · have hres := Lib.hid (show decide (l = m) = true from decide_eq_true (by
          have h := H.out
          have hl := HL.out
          have hkl : k = l.length := by omega
          subst hkl
          rw [hl, List.take_length] at h
          rw [← hl, List.take_length] at h
          exact h))
        go_wp2
        go_ret
        exact ⟨ret_bool hres.out.symm, by (repeat (first | exact Below.refl _ _ | assumption | apply below_alloc | apply below_drewN | apply Below.drew | refine Below.setCell ?_ (by simp; try omega) _))⟩
set_option maxHeartbeats 1000000 in
theorem sameInts_any (A B : Option Addr) (c d lo hi lo' hi' : Nat) (l m : List Int) (w : World) (hm : m.length ≤ 1048576) (hr : Rd w lo hi A (ints l)) (hr' : Rd w lo' hi' B (ints m)) :
    Calls Try.prog 13 #[.slice A l.length c, .slice B m.length d] w fun e w' => e = .returned (.bool (decide (l = m))) ∧ Below w.heap.size w w' := by
  by_cases hlen : l.length = m.length
  case neg =>
    have hres := Lib.hid (show decide (l = m) = false from decide_eq_false (fun h => hlen (by rw [h])))
    have hne : ((l.length : Int) != (m.length : Int)) = true := by simp; omega
    clear hlen
    go_enter Try.func13, Try.ntmps13
    go_wp2
    go_ret
    exact ⟨ret_bool hres.out.symm, by (repeat (first | exact Below.refl _ _ | assumption | apply below_alloc | apply below_drewN | apply Below.drew | refine Below.setCell ?_ (by simp; try omega) _))⟩
  case pos =>
    have hne : ((l.length : Int) != (m.length : Int)) = false := by simp; omega
    have hle : l.length ≤ m.length := by omega
    have HL := Lib.hid hlen
    clear hlen
    go_enter Try.func13, Try.ntmps13
    go_wp2
    go_loopw [5] (fun i wr => ∃ (k q : Nat), k ≤ l.length ∧ i = .int .i64 k ∧ Hid (l.take k = m.take k) ∧ wr = w.drewN q) (fun i _ => l.length - (intOf i).toNat)
    case atStart => exact ⟨0, 0, Nat.zero_le _, rfl, by simp [Hid], rfl⟩
    case round =>
      obtain ⟨k, q, hk, rfl, H, rfl⟩ := hrel
      by_cases hlt : k < l.length
      · have hlt' : k < m.length := by omega
        obtain ⟨b, off, rfl, hlo, hhi, c0⟩ := hr.at1 k hlt
        obtain ⟨b', off', rfl, hlo', hhi', d0⟩ := hr'.at1 k hlt'
        obtain ⟨x, hx⟩ : ∃ x, x = l[k] := ⟨_, rfl⟩
        obtain ⟨y, hy⟩ : ∃ y, y = m[k] := ⟨_, rfl⟩
        rw [← hx] at c0
        rw [← hy] at d0
        have HX := Lib.hid hx
        have HY := Lib.hid hy
        clear hx hy
        have hk0 : (0 : Int) ≤ (k : Int) := by omega
        have hk1 : (k : Int) < (l.length : Int) := by omega
        have hk2 : (k : Int) < (m.length : Int) := by omega
        by_cases hxy : x = y
        · have hd : (x != y) = false := by simp [hxy]
          have hres := Lib.hid (show l.take (k + 1) = m.take (k + 1) by
            rw [List.take_succ_eq_append_getElem hlt, List.take_succ_eq_append_getElem hlt', H.out, ← HX.out, ← HY.out, hxy])
          clear hxy
          go_wp2
          go_quiet (fail)
          go_wp2
          go_roundw
          case rel => exact ⟨k + 1, _, by omega, by go_num, hres, rfl⟩
          case measure => simp [intOf]; omega
        · have hd : (x != y) = true := by simp [hxy]
          have hres := Lib.hid (show decide (l = m) = false from decide_eq_false (fun h => hxy (by rw [HX.out, HY.out]; simp [h])))
          clear hxy
          go_wp2
          go_quiet (fail)
          go_wp2
          go_ret
          exact ⟨ret_bool hres.out.symm, by (repeat (first | exact Below.refl _ _ | assumption | apply below_alloc | apply below_drewN | apply Below.drew | refine Below.setCell ?_ (by simp; try omega) _))⟩
      · have hres := Lib.hid (show decide (l = m) = true from decide_eq_true (by
          have h := H.out
          have hl := HL.out
          have hkl : k = l.length := by omega
          subst hkl
          rw [hl, List.take_length] at h
          rw [← hl, List.take_length] at h
          exact h))
        go_wp2
        go_ret
        exact ⟨ret_bool hres.out.symm, by (repeat (first | exact Below.refl _ _ | assumption | apply below_alloc | apply below_drewN | apply Below.drew | refine Below.setCell ?_ (by simp; try omega) _))⟩
set_option maxHeartbeats 1000000 in
theorem markIntS_any (A : Option Addr) (c base : Nat) (l : List Int) (k : Int) (w : World) (hl : l.length ≤ 8388608) (h0 : 0 ≤ k) (h1 : k ≤ 1000000000) (hown : w.ownsRow base 3 1 (.slice A l.length c) l.length (ints l)) :
    Calls Try.prog 23 #[.slice A l.length c, .int .i64 k] w (MarkI base 3 l.length (.slice A l.length c) k w) := by
  rcases Nat.eq_zero_or_pos l.length with hz | hz
  · have hz' := Lib.hid hz
    have hz2 : ¬ 0 < l.length := by omega
    have hz3 : decide (0 < l.length) = false := decide_eq_false hz2
    have hfin : MarkI base 3 l.length (.slice A l.length c) k w (.returned (.int .i64 k)) w := ⟨by rw [hz]; simp, by
      have e : l = [] := List.length_eq_zero_iff.1 hz
      subst e; simpa [marks1] using hown, grownBy_refl1 _ _⟩
    clear hz
    generalize hn : l.length = n at *
    go_enter Try.func23, Try.ntmps23
    go_wp2
    refine wp_loop_rounds 1 ?_
    rw [rounds_succ]
    go_wp2
    go_ret
    exact hfin
  · obtain ⟨g, cap, hv, hbg, hgl⟩ := hown.form hz
    injection hv with hA _ hc
    subst hA hc
    go_enter Try.func23, Try.ntmps23
    go_wp2
    go_loopw [1, 5] (fun q i wr => ∃ j : Nat, j ≤ l.length ∧ i = .int .i64 j ∧ q = .int .i64 (k + j) ∧ mark1Rel base 3 l k j g l.length c wr ∧ w.grownBy wr (some g)) (fun _ i _ => l.length - (intOf i).toNat)
    case atStart => exact ⟨0, Nat.zero_le _, rfl, by simp, by simpa [mark1Rel, marks1] using hown, grownBy_refl1 _ _⟩
    case round =>
      obtain ⟨j, hj, rfl, rfl, hrow, hg⟩ := hrel
      clear hown
      by_cases hlt : j < l.length
      · have hlen : (marks1 k j ++ l.drop j).length = l.length := by rw [List.length_append, marks1_length, List.length_drop]; omega
        have d0 := own1_cell hrow j (by rw [hlen]; exact hlt)
        have f0 := hrow.frozenAt j
        have hst := own1_store hrow j (k + j)
        rw [mark1_step l k j hlt] at hst
        have hgg := grownBy_setCell1 hg j (.int .i64 (k + j))
        generalize (marks1 k j ++ l.drop j)[j] = u at *
        clear hlen hrow hg
        go_wp2
        go_roundw
        case rel => exact ⟨j + 1, by omega, by go_num, by go_num, hst, hgg⟩
        case measure => simp [intOf]; omega
      · have hkl : j = l.length := by omega
        subst hkl
        have hown : wr.ownsRow base 3 1 (.slice (some ⟨g, 0, none⟩) l.length c) l.length (ints (marks1 k l.length)) := by simpa [mark1Rel] using hrow
        go_wp2
        go_ret
        exact ⟨rfl, hown, hg⟩
set_option maxHeartbeats 1000000 in
theorem heldIntS_any (A : Option Addr) (n c lo hi : Nat) (k : Int) (w : World) (hl : n ≤ 8388608) (h0 : 0 ≤ k) (h1 : k ≤ 1000000000) (hr : Rd w lo hi A (ints (marks1 k n))) :
    Calls Try.prog 24 #[.slice A n c, .int .i64 k] w fun e w' => e = .returned (.int .i64 (k + n)) ∧ w = w' := by
  go_enter Try.func24, Try.ntmps24
  go_wp2
  go_loop [1, 5] (fun q i => ∃ j : Nat, j ≤ n ∧ i = .int .i64 j ∧ q = .int .i64 (k + j)) (fun _ i => n - (intOf i).toNat)
  case atStart => exact ⟨0, Nat.zero_le _, rfl, by simp⟩
  case round =>
    obtain ⟨j, hj, rfl, rfl⟩ := hrel
    by_cases hlt : j < n
    · obtain ⟨b, off, rfl, hlo, hhi, c0⟩ := hr.at1 j (by rw [marks1_length]; exact hlt)
      rw [marks1_get] at c0
      go_wp2
      go_round
      case rel => exact ⟨j + 1, by omega, by go_num, by go_num⟩
      case measure => simp [intOf]; omega
    · have hkl : j = n := by omega
      subst hkl
      go_wp2
      go_ret
      exact ⟨rfl, rfl⟩

end Go.Proofs.Ytmeaegopenbelaa

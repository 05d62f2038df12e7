/-
  Contracts of the law's own helpers on slices of structs of three integers: copy, compare, mark, look at the marks, count.
-/
import Derived.Test.YtgffpokipmkjeaaBase
import Derived.Deep.RegionHeld3
namespace Go.Proofs.Ytgffpokipmkjeaa
open Go.RowKit

def RetS (E : TypeId) (l : List T3) (w : World) (e : Ending) (w' : World) : Prop :=
  ∃ A c, e = .returned (.slice A l.length c) ∧ w'.ownsRow w.heap.size E 3 (.slice A l.length c) l.length (flat3 l) ∧ Below w.heap.size w w'
def toSRel (w : World) (E : TypeId) (l : List T3) (k : Nat) (g : Nat) (wr : World) : Prop :=
  wr.ownsRow w.heap.size E 3 (.slice (some ⟨g, 0, none⟩) l.length l.length) l.length (flat3 (l.take k ++ List.replicate (l.length - k) (0, 0, 0)))

/-- What marking lays: one number after the other. -/
def marks (k : Int) (n : Nat) : List T3 := (List.range n).map fun (i : Nat) => (k + 3 * i, k + 3 * i + 1, k + 3 * i + 1 + 1)
theorem marks_length (k : Int) (n : Nat) : (marks k n).length = n := by simp [marks]
theorem marks_get (k : Int) (n i : Nat) (h : i < (marks k n).length) : (marks k n)[i] = (k + 3 * i, k + 3 * i + 1, k + 3 * i + 1 + 1) := by simp [marks]
theorem marks_succ (k : Int) (n : Nat) : marks k (n + 1) = marks k n ++ [(k + 3 * n, k + 3 * n + 1, k + 3 * n + 1 + 1)] := by simp [marks, List.range_succ]
theorem mark_step (l : List T3) (k : Int) (i : Nat) (h : i < l.length) : (marks k i ++ l.drop i).set i (k + 3 * i, k + 3 * i + 1, k + 3 * i + 1 + 1) = marks k (i + 1) ++ l.drop (i + 1) := by
  rw [List.set_append_right _ _ (by rw [marks_length]; exact Nat.le_refl _), marks_length, Nat.sub_self, List.drop_eq_getElem_cons h, List.set_cons_zero, marks_succ, List.append_assoc]
  rfl
def markRel (base : Nat) (E : TypeId) (l : List T3) (k : Int) (i g n c : Nat) (wr : World) : Prop :=
  wr.ownsRow base E 3 (.slice (some ⟨g, 0, none⟩) n c) n (flat3 (marks k i ++ l.drop i))
def MarkS (base : Nat) (E : TypeId) (n : Nat) (v : Value) (k : Int) (w : World) (e : Ending) (w' : World) : Prop :=
  e = .returned (.int .i64 (k + 3 * n)) ∧ w'.ownsRow base E 3 v n (flat3 (marks k n)) ∧ w.grownBy w' v.ownBlock
theorem grownBy_refl (w : World) (row : Option Nat) : w.grownBy w row := ⟨rfl, rfl, rfl, Nat.le_refl _, fun _ _ _ => rfl⟩
theorem grownBy_setCell {a w : World} {g : Nat} (h : a.grownBy w (some g)) (o : Nat) (u : Value) : a.grownBy (w.setCell ⟨g, o, none⟩ u) (some g) :=
  h.trans ⟨rfl, rfl, rfl, by simp [World.setCell], fun k _ hk => Below.heap_setCell _ _ _ _ (fun e => hk (by rw [e]))⟩

theorem szStopS_any (A : Option Addr) (n c : Nat) (left : Int) (w : World) (h : n ≤ maxLen) (h0 : 0 ≤ left) (h1 : left ≤ 1048576) :
    Calls Try.prog 22 #[.slice A n c, .int .i64 left] w fun e w' => e = .returned (.int .i64 (if left < n then -1 else left - n)) ∧ w = w' := by
  unfold maxLen at h
  by_cases hlt : left < n
  · rw [if_pos hlt]
    go_enter Try.func22, Try.ntmps22
    go_wp2
    go_ret
    exact ⟨rfl, rfl⟩
  · rw [if_neg hlt]
    have hlt' : (n : Int) ≤ left := by omega
    clear hlt
    go_enter Try.func22, Try.ntmps22
    go_wp2
    go_ret
    exact ⟨rfl, rfl⟩
theorem infoStop : (Try.prog.info? 65).map (fun i => (i.zero, i.size, i.bytes)) = some (some (.agg #[.int .i64 0, .int .i64 0, .int .i64 0]), 3, 24) := by kernel_rfl

set_option maxHeartbeats 400000 in
theorem toStop_any (x y z : Int) (w : World) :
    Calls Try.prog 58 #[.agg #[.int .i64 x, .int .i64 y, .int .i64 z]] w fun e w' => e = .returned (.agg #[.int .i64 x, .int .i64 y, .int .i64 z]) ∧ Below w.heap.size w w' := by
  go_enter Try.func58, Try.ntmps58
  go_wp2
  refine bodyPost_ret (v := .agg #[.int .i64 x, .int .i64 y, .int .i64 z]) (by simp [results, Try.results58, go_sem]) rfl ⟨rfl, ?_⟩
  (repeat (first | exact Below.refl _ _ | assumption | apply below_alloc | apply below_drewN | apply Below.drew | refine Below.setCell ?_ (by simp; try omega) _))

set_option maxHeartbeats 1000000 in
theorem toStopS_any (A : Option Addr) (c lo hi : Nat) (l : List T3) (w : World) (hl : l.length ≤ 1048576) (hr : Rd w lo hi A (flat3 l)) (hh : hi ≤ w.heap.size) :
    Calls Try.prog 24 #[.slice A l.length c] w (RetS 65 l w) := by
  obtain ⟨i0, hi0, hz0, hz1, hz2⟩ := info_parts infoStop
  have hc1 : i0.bytes * l.length ≤ 281474976710656 := by rw [hz2]; omega
  have hc2 : l.length ≤ maxLen := by simp only [maxLen]; omega
  go_enter Try.func24, Try.ntmps24
  go_wp2_with (first | (at_make; go_must (refine wpList_make_full _ rfl _ _ 38 rfl w.heap.size 65 i0 _ 3 Try.underlying38 hi0 hz0 hz1 _ _ _ _ l.length rfl rfl rfl rfl hc1 hc2 (Nat.le_refl _) ?_); intro w1 hown hg))
  rw [made3] at hown
  have hb1 : Below w.heap.size w w1 := (Below.refl _ _).grown hg (Nat.le_refl _) (by simp)
  clear hg
  go_loopw [4] (fun i wr => ∃ k : Nat, k ≤ l.length ∧ i = .int .i64 k ∧ toSRel w 65 l k w.heap.size wr ∧ Below w.heap.size w wr) (fun i _ => l.length - (intOf i).toNat)
  case atStart => exact ⟨0, Nat.zero_le _, rfl, by simpa [toSRel] using hown, hb1⟩
  case round =>
    obtain ⟨k, hk, rfl, hrow, hb⟩ := hrel
    clear hown hb1
    by_cases hlt : k < l.length
    · obtain ⟨b, off, rfl, hlo, hhi, c0, c1, c2⟩ := (hr.below hb hh).at3 k hlt
      obtain ⟨x, hx⟩ : ∃ x, x = l[k] := ⟨_, rfl⟩
      rw [← hx] at c0 c1 c2
      have HX := Lib.hid hx
      clear hx
      go_wp2_with (fail)
      refine (toStop_any _ _ _ _).mono ?_
      rintro e w2 ⟨rfl, hb2⟩
      have hrow2 := own_below hrow hb2
      have hlen : (l.take k ++ List.replicate (l.length - k) ((0, 0, 0) : T3)).length = l.length := by simp; omega
      obtain ⟨d0, d1, d2⟩ := own3_cells hrow2 k (by rw [hlen]; exact hlt)
      have f0 := hrow2.frozenAt (k * 3)
      have f1 := hrow2.frozenAt (k * 3 + 1)
      have f2 := hrow2.frozenAt (k * 3 + 2)
      have hst := own3_store hrow2 k x
      rw [HX.out, fill_step l (0, 0, 0) k hlt, ← HX.out] at hst
      have hb3 : Below w.heap.size w w2 := hb.trans (hb2.mono hb.size)
      clear c0 c1 c2
      go_wp2
      go_roundw
      case rel => exact ⟨k + 1, by omega, by go_num, hst, by (repeat (first | exact Below.refl _ _ | assumption | apply below_alloc | apply below_drewN | apply Below.drew | refine Below.setCell ?_ (by simp; try omega) _))⟩
      case measure => simp [intOf]; omega
    · have hkl : k = l.length := by omega
      subst hkl
      have hown : wr.ownsRow w.heap.size 65 3 (.slice (some ⟨w.heap.size, 0, none⟩) l.length l.length) l.length (flat3 l) := by simpa [toSRel] using hrow
      go_wp2
      go_ret
      exact ⟨_, _, rfl, hown, hb⟩
set_option maxHeartbeats 400000 in
theorem eqStop_any (x y : T3) (w : World) :
    Calls Try.prog 61 #[.agg #[.int .i64 x.1, .int .i64 x.2.1, .int .i64 x.2.2], .agg #[.int .i64 y.1, .int .i64 y.2.1, .int .i64 y.2.2]] w fun e w' => e = .returned (.bool (same3 x y)) ∧ Below w.heap.size w w' := by
  obtain ⟨x0, x1, x2⟩ := x
  obtain ⟨y0, y1, y2⟩ := y
  go_enter Try.func61, Try.ntmps61
  go_wp2
  all_goals
    go_ret
    refine ⟨ret_bool ?_, ?_⟩
    · simp_all [same3]
    · (repeat (first | exact Below.refl _ _ | assumption | apply below_alloc | apply below_drewN | apply Below.drew | refine Below.setCell ?_ (by simp; try omega) _))

set_option maxHeartbeats 1000000 in
theorem eqStopS_any (A B : Option Addr) (c d lo hi lo' hi' : Nat) (l m : List T3) (w : World) (hm : m.length ≤ 1048576) (hr : Rd w lo hi A (flat3 l)) (hh : hi ≤ w.heap.size) (hr' : Rd w lo' hi' B (flat3 m)) (hh' : hi' ≤ w.heap.size) :
    Calls Try.prog 26 #[.slice A l.length c, .slice B m.length d] w fun e w' => e = .returned (.bool (decide (l = m))) ∧ Below w.heap.size w w' := by
  by_cases hlen : l.length = m.length
  case neg =>
    have hres := Lib.hid (show decide (l = m) = false from decide_eq_false (fun h => hlen (by rw [h])))
    have hne : ((l.length : Int) != (m.length : Int)) = true := by simp; omega
    clear hlen
    go_enter Try.func26, Try.ntmps26
    go_wp2
    go_ret
    exact ⟨ret_bool hres.out.symm, by (repeat (first | exact Below.refl _ _ | assumption | apply below_alloc | apply below_drewN | apply Below.drew | refine Below.setCell ?_ (by simp; try omega) _))⟩
  case pos =>
    have hne : ((l.length : Int) != (m.length : Int)) = false := by simp; omega
    have hle : l.length ≤ m.length := by omega
    have HL := Lib.hid hlen
    clear hlen
    go_enter Try.func26, Try.ntmps26
    go_wp2
    go_loopw [5] (fun i wr => ∃ k : Nat, k ≤ l.length ∧ i = .int .i64 k ∧ Hid (l.take k = m.take k) ∧ Below w.heap.size w wr) (fun i _ => l.length - (intOf i).toNat)
    case atStart => exact ⟨0, Nat.zero_le _, rfl, by simp [Hid], Below.refl _ _⟩
    case round =>
      obtain ⟨k, hk, rfl, H, hb⟩ := hrel
      by_cases hlt : k < l.length
      · have hlt' : k < m.length := by omega
        obtain ⟨b, off, rfl, hlo, hhi, c0, c1, c2⟩ := (hr.below hb hh).at3 k hlt
        obtain ⟨b', off', rfl, hlo', hhi', d0, d1, d2⟩ := (hr'.below hb hh').at3 k hlt'
        obtain ⟨x, hx⟩ : ∃ x, x = l[k] := ⟨_, rfl⟩
        obtain ⟨y, hy⟩ : ∃ y, y = m[k] := ⟨_, rfl⟩
        rw [← hx] at c0 c1 c2
        rw [← hy] at d0 d1 d2
        have HX := Lib.hid hx
        have HY := Lib.hid hy
        clear hx hy
        have hbw : b < wr.heap.size := by have := hb.size; omega
        have hbw' : b' < wr.heap.size := by have := hb.size; omega
        by_cases hxy : x = y
        · have hd : same3 x y = true := decide_eq_true hxy
          have hres := Lib.hid (show l.take (k + 1) = m.take (k + 1) by
            rw [List.take_succ_eq_append_getElem hlt, List.take_succ_eq_append_getElem hlt', H.out, ← HX.out, ← HY.out, hxy])
          clear hxy
          go_wp2
          go_region_held3 (fun w' => w'.cell? ⟨b, off + k * 3, none⟩ = some (.int .i64 x.1) ∧ w'.cell? ⟨b, off + k * 3 + 1, none⟩ = some (.int .i64 x.2.1) ∧ w'.cell? ⟨b, off + k * 3 + 2, none⟩ = some (.int .i64 x.2.2) ∧ w'.cell? ⟨b', off' + k * 3, none⟩ = some (.int .i64 y.1) ∧ w'.cell? ⟨b', off' + k * 3 + 1, none⟩ = some (.int .i64 y.2.1) ∧ w'.cell? ⟨b', off' + k * 3 + 2, none⟩ = some (.int .i64 y.2.2)) (go_keep)
            (first | (go_at_call 61; refine (eqStop_any x y _).mono ?_; rintro e w2 ⟨rfl, hb2'⟩; have hb2 := below_of_drew hb2'; have hcb : ∀ b o, b < wr.heap.size → w2.cell? ⟨b, o, none⟩ = wr.cell? ⟨b, o, none⟩ := cell_below hb2))
          have hb3 : Below w.heap.size w w2 := hb.trans (hb2.mono hb.size)
          clear hcb
          go_wp2
          go_roundw
          case rel => exact ⟨k + 1, by omega, by go_num, hres, hb3⟩
          case measure => simp [intOf]; omega
        · have hd : same3 x y = false := decide_eq_false hxy
          have hres := Lib.hid (show decide (l = m) = false from decide_eq_false (fun h => hxy (by rw [HX.out, HY.out]; simp [h])))
          clear hxy
          go_wp2
          go_region_held3 (fun w' => w'.cell? ⟨b, off + k * 3, none⟩ = some (.int .i64 x.1) ∧ w'.cell? ⟨b, off + k * 3 + 1, none⟩ = some (.int .i64 x.2.1) ∧ w'.cell? ⟨b, off + k * 3 + 2, none⟩ = some (.int .i64 x.2.2) ∧ w'.cell? ⟨b', off' + k * 3, none⟩ = some (.int .i64 y.1) ∧ w'.cell? ⟨b', off' + k * 3 + 1, none⟩ = some (.int .i64 y.2.1) ∧ w'.cell? ⟨b', off' + k * 3 + 2, none⟩ = some (.int .i64 y.2.2)) (go_keep)
            (first | (go_at_call 61; refine (eqStop_any x y _).mono ?_; rintro e w2 ⟨rfl, hb2'⟩; have hb2 := below_of_drew hb2'; have hcb : ∀ b o, b < wr.heap.size → w2.cell? ⟨b, o, none⟩ = wr.cell? ⟨b, o, none⟩ := cell_below hb2))
          have hb3 : Below w.heap.size w w2 := hb.trans (hb2.mono hb.size)
          clear hcb
          go_wp2
          go_ret
          exact ⟨ret_bool hres.out.symm, hb3⟩
      · have hres := Lib.hid (show decide (l = m) = true from decide_eq_true (by
          have h := H.out
          have hl := HL.out
          have hkl : k = l.length := by omega
          subst hkl
          rw [hl, List.take_length] at h
          rw [← hl, List.take_length] at h
          exact h))
        go_wp2
        go_ret
        exact ⟨ret_bool hres.out.symm, hb⟩
set_option maxHeartbeats 1000000 in
theorem markStopS_any (A : Option Addr) (c base : Nat) (l : List T3) (k : Int) (w : World) (hl : l.length ≤ 8388608) (h0 : 0 ≤ k) (h1 : k ≤ 1000000000) (hown : w.ownsRow base 65 3 (.slice A l.length c) l.length (flat3 l)) :
    Calls Try.prog 27 #[.slice A l.length c, .int .i64 k] w (MarkS base 65 l.length (.slice A l.length c) k w) := by
  rcases Nat.eq_zero_or_pos l.length with hz | hz
  · have hz' := Lib.hid hz
    have hz2 : ¬ 0 < l.length := by omega
    have hz3 : decide (0 < l.length) = false := decide_eq_false hz2
    have hfin : MarkS base 65 l.length (.slice A l.length c) k w (.returned (.int .i64 k)) w := ⟨by rw [hz]; simp, by
      have e : l = [] := List.length_eq_zero_iff.1 hz
      subst e; simpa [marks] using hown, grownBy_refl _ _⟩
    clear hz
    generalize hn : l.length = n at *
    go_enter Try.func27, Try.ntmps27
    go_wp2
    refine wp_loop_rounds 1 ?_
    rw [rounds_succ]
    go_wp2
    go_ret
    exact hfin
  · obtain ⟨g, cap, hv, hbg, hgl⟩ := hown.form hz
    injection hv with hA _ hc
    subst hA hc
    go_enter Try.func27, Try.ntmps27
    go_wp2
    go_loopw [1, 5] (fun q i wr => ∃ j : Nat, j ≤ l.length ∧ i = .int .i64 j ∧ q = .int .i64 (k + 3 * j) ∧ markRel base 65 l k j g l.length c wr ∧ w.grownBy wr (some g)) (fun _ i _ => l.length - (intOf i).toNat)
    case atStart => exact ⟨0, Nat.zero_le _, rfl, by simp, by simpa [markRel, marks] using hown, grownBy_refl _ _⟩
    case round =>
      obtain ⟨j, hj, rfl, rfl, hrow, hg⟩ := hrel
      clear hown
      by_cases hlt : j < l.length
      · have hlen : (marks k j ++ l.drop j).length = l.length := by rw [List.length_append, marks_length, List.length_drop]; omega
        obtain ⟨d0, d1, d2⟩ := own3_cells hrow j (by rw [hlen]; exact hlt)
        have f0 := hrow.frozenAt (j * 3)
        have f1 := hrow.frozenAt (j * 3 + 1)
        have f2 := hrow.frozenAt (j * 3 + 2)
        have hst := own3_store hrow j (k + 3 * j, k + 3 * j + 1, k + 3 * j + 1 + 1)
        rw [mark_step l k j hlt] at hst
        have hgg := grownBy_setCell (grownBy_setCell (grownBy_setCell hg (j * 3) (.int .i64 (k + 3 * j))) (j * 3 + 1) (.int .i64 (k + 3 * j + 1))) (j * 3 + 2) (.int .i64 (k + 3 * j + 1 + 1))
        generalize (marks k j ++ l.drop j)[j] = u at *
        clear hlen hrow hg
        go_wp2
        go_roundw
        case rel => exact ⟨j + 1, by omega, by go_num, by go_num, hst, hgg⟩
        case measure => simp [intOf]; omega
      · have hkl : j = l.length := by omega
        subst hkl
        have hown : wr.ownsRow base 65 3 (.slice (some ⟨g, 0, none⟩) l.length c) l.length (flat3 (marks k l.length)) := by simpa [markRel] using hrow
        go_wp2
        go_ret
        exact ⟨rfl, hown, hg⟩
set_option maxHeartbeats 1000000 in
theorem heldStopS_any (A : Option Addr) (n c lo hi : Nat) (k : Int) (w : World) (hl : n ≤ 8388608) (h0 : 0 ≤ k) (h1 : k ≤ 1000000000) (hr : Rd w lo hi A (flat3 (marks k n))) :
    Calls Try.prog 62 #[.slice A n c, .int .i64 k] w fun e w' => e = .returned (.int .i64 (k + 3 * n)) ∧ w = w' := by
  go_enter Try.func62, Try.ntmps62
  go_wp2
  go_loop [1, 5] (fun q i => ∃ j : Nat, j ≤ n ∧ i = .int .i64 j ∧ q = .int .i64 (k + 3 * j)) (fun _ i => n - (intOf i).toNat)
  case atStart => exact ⟨0, Nat.zero_le _, rfl, by simp⟩
  case round =>
    obtain ⟨j, hj, rfl, rfl⟩ := hrel
    by_cases hlt : j < n
    · obtain ⟨b, off, rfl, hlo, hhi, c0, c1, c2⟩ := hr.at3 j (by rw [marks_length]; exact hlt)
      rw [marks_get] at c0 c1 c2
      simp only at c0 c1 c2
      go_wp2
      go_round
      case rel => exact ⟨j + 1, by omega, by go_num, by go_num⟩
      case measure => simp [intOf]; omega
    · have hkl : j = n := by omega
      subst hkl
      go_wp2
      go_ret
      exact ⟨rfl, rfl⟩
theorem szRideS_any (A : Option Addr) (n c : Nat) (left : Int) (w : World) (h : n ≤ maxLen) (h0 : 0 ≤ left) (h1 : left ≤ 1048576) :
    Calls Try.prog 29 #[.slice A n c, .int .i64 left] w fun e w' => e = .returned (.int .i64 (if left < n then -1 else left - n)) ∧ w = w' := by
  unfold maxLen at h
  by_cases hlt : left < n
  · rw [if_pos hlt]
    go_enter Try.func29, Try.ntmps29
    go_wp2
    go_ret
    exact ⟨rfl, rfl⟩
  · rw [if_neg hlt]
    have hlt' : (n : Int) ≤ left := by omega
    clear hlt
    go_enter Try.func29, Try.ntmps29
    go_wp2
    go_ret
    exact ⟨rfl, rfl⟩
theorem infoRide : (Try.prog.info? 62).map (fun i => (i.zero, i.size, i.bytes)) = some (some (.agg #[.int .i64 0, .int .i64 0, .int .i64 0]), 3, 24) := by kernel_rfl

set_option maxHeartbeats 400000 in
theorem toRide_any (x y z : Int) (w : World) :
    Calls Try.prog 64 #[.agg #[.int .i64 x, .int .i64 y, .int .i64 z]] w fun e w' => e = .returned (.agg #[.int .i64 x, .int .i64 y, .int .i64 z]) ∧ Below w.heap.size w w' := by
  go_enter Try.func64, Try.ntmps64
  go_wp2
  refine bodyPost_ret (v := .agg #[.int .i64 x, .int .i64 y, .int .i64 z]) (by simp [results, Try.results64, go_sem]) rfl ⟨rfl, ?_⟩
  (repeat (first | exact Below.refl _ _ | assumption | apply below_alloc | apply below_drewN | apply Below.drew | refine Below.setCell ?_ (by simp; try omega) _))

set_option maxHeartbeats 1000000 in
theorem toRideS_any (A : Option Addr) (c lo hi : Nat) (l : List T3) (w : World) (hl : l.length ≤ 1048576) (hr : Rd w lo hi A (flat3 l)) (hh : hi ≤ w.heap.size) :
    Calls Try.prog 31 #[.slice A l.length c] w (RetS 62 l w) := by
  obtain ⟨i0, hi0, hz0, hz1, hz2⟩ := info_parts infoRide
  have hc1 : i0.bytes * l.length ≤ 281474976710656 := by rw [hz2]; omega
  have hc2 : l.length ≤ maxLen := by simp only [maxLen]; omega
  go_enter Try.func31, Try.ntmps31
  go_wp2_with (first | (at_make; go_must (refine wpList_make_full _ rfl _ _ 24 rfl w.heap.size 62 i0 _ 3 Try.underlying24 hi0 hz0 hz1 _ _ _ _ l.length rfl rfl rfl rfl hc1 hc2 (Nat.le_refl _) ?_); intro w1 hown hg))
  rw [made3] at hown
  have hb1 : Below w.heap.size w w1 := (Below.refl _ _).grown hg (Nat.le_refl _) (by simp)
  clear hg
  go_loopw [4] (fun i wr => ∃ k : Nat, k ≤ l.length ∧ i = .int .i64 k ∧ toSRel w 62 l k w.heap.size wr ∧ Below w.heap.size w wr) (fun i _ => l.length - (intOf i).toNat)
  case atStart => exact ⟨0, Nat.zero_le _, rfl, by simpa [toSRel] using hown, hb1⟩
  case round =>
    obtain ⟨k, hk, rfl, hrow, hb⟩ := hrel
    clear hown hb1
    by_cases hlt : k < l.length
    · obtain ⟨b, off, rfl, hlo, hhi, c0, c1, c2⟩ := (hr.below hb hh).at3 k hlt
      obtain ⟨x, hx⟩ : ∃ x, x = l[k] := ⟨_, rfl⟩
      rw [← hx] at c0 c1 c2
      have HX := Lib.hid hx
      clear hx
      go_wp2_with (fail)
      refine (toRide_any _ _ _ _).mono ?_
      rintro e w2 ⟨rfl, hb2⟩
      have hrow2 := own_below hrow hb2
      have hlen : (l.take k ++ List.replicate (l.length - k) ((0, 0, 0) : T3)).length = l.length := by simp; omega
      obtain ⟨d0, d1, d2⟩ := own3_cells hrow2 k (by rw [hlen]; exact hlt)
      have f0 := hrow2.frozenAt (k * 3)
      have f1 := hrow2.frozenAt (k * 3 + 1)
      have f2 := hrow2.frozenAt (k * 3 + 2)
      have hst := own3_store hrow2 k x
      rw [HX.out, fill_step l (0, 0, 0) k hlt, ← HX.out] at hst
      have hb3 : Below w.heap.size w w2 := hb.trans (hb2.mono hb.size)
      clear c0 c1 c2
      go_wp2
      go_roundw
      case rel => exact ⟨k + 1, by omega, by go_num, hst, by (repeat (first | exact Below.refl _ _ | assumption | apply below_alloc | apply below_drewN | apply Below.drew | refine Below.setCell ?_ (by simp; try omega) _))⟩
      case measure => simp [intOf]; omega
    · have hkl : k = l.length := by omega
      subst hkl
      have hown : wr.ownsRow w.heap.size 62 3 (.slice (some ⟨w.heap.size, 0, none⟩) l.length l.length) l.length (flat3 l) := by simpa [toSRel] using hrow
      go_wp2
      go_ret
      exact ⟨_, _, rfl, hown, hb⟩
set_option maxHeartbeats 400000 in
theorem eqRide_any (x y : T3) (w : World) :
    Calls Try.prog 56 #[.agg #[.int .i64 x.1, .int .i64 x.2.1, .int .i64 x.2.2], .agg #[.int .i64 y.1, .int .i64 y.2.1, .int .i64 y.2.2]] w fun e w' => e = .returned (.bool (same3 x y)) ∧ Below w.heap.size w w' := by
  obtain ⟨x0, x1, x2⟩ := x
  obtain ⟨y0, y1, y2⟩ := y
  go_enter Try.func56, Try.ntmps56
  go_wp2
  all_goals
    go_ret
    refine ⟨ret_bool ?_, ?_⟩
    · simp_all [same3]
    · (repeat (first | exact Below.refl _ _ | assumption | apply below_alloc | apply below_drewN | apply Below.drew | refine Below.setCell ?_ (by simp; try omega) _))

set_option maxHeartbeats 1000000 in
theorem eqRideS_any (A B : Option Addr) (c d lo hi lo' hi' : Nat) (l m : List T3) (w : World) (hm : m.length ≤ 1048576) (hr : Rd w lo hi A (flat3 l)) (hh : hi ≤ w.heap.size) (hr' : Rd w lo' hi' B (flat3 m)) (hh' : hi' ≤ w.heap.size) :
    Calls Try.prog 17 #[.slice A l.length c, .slice B m.length d] w fun e w' => e = .returned (.bool (decide (l = m))) ∧ Below w.heap.size w w' := by
  by_cases hlen : l.length = m.length
  case neg =>
    have hres := Lib.hid (show decide (l = m) = false from decide_eq_false (fun h => hlen (by rw [h])))
    have hne : ((l.length : Int) != (m.length : Int)) = true := by simp; omega
    clear hlen
    go_enter Try.func17, Try.ntmps17
    go_wp2
    go_ret
    exact ⟨ret_bool hres.out.symm, by (repeat (first | exact Below.refl _ _ | assumption | apply below_alloc | apply below_drewN | apply Below.drew | refine Below.setCell ?_ (by simp; try omega) _))⟩
  case pos =>
    have hne : ((l.length : Int) != (m.length : Int)) = false := by simp; omega
    have hle : l.length ≤ m.length := by omega
    have HL := Lib.hid hlen
    clear hlen
    go_enter Try.func17, Try.ntmps17
    go_wp2
    go_loopw [5] (fun i wr => ∃ k : Nat, k ≤ l.length ∧ i = .int .i64 k ∧ Hid (l.take k = m.take k) ∧ Below w.heap.size w wr) (fun i _ => l.length - (intOf i).toNat)
    case atStart => exact ⟨0, Nat.zero_le _, rfl, by simp [Hid], Below.refl _ _⟩
    case round =>
      obtain ⟨k, hk, rfl, H, hb⟩ := hrel
      by_cases hlt : k < l.length
      · have hlt' : k < m.length := by omega
        obtain ⟨b, off, rfl, hlo, hhi, c0, c1, c2⟩ := (hr.below hb hh).at3 k hlt
        obtain ⟨b', off', rfl, hlo', hhi', d0, d1, d2⟩ := (hr'.below hb hh').at3 k hlt'
        obtain ⟨x, hx⟩ : ∃ x, x = l[k] := ⟨_, rfl⟩
        obtain ⟨y, hy⟩ : ∃ y, y = m[k] := ⟨_, rfl⟩
        rw [← hx] at c0 c1 c2
        rw [← hy] at d0 d1 d2
        have HX := Lib.hid hx
        have HY := Lib.hid hy
        clear hx hy
        have hbw : b < wr.heap.size := by have := hb.size; omega
        have hbw' : b' < wr.heap.size := by have := hb.size; omega
        by_cases hxy : x = y
        · have hd : same3 x y = true := decide_eq_true hxy
          have hres := Lib.hid (show l.take (k + 1) = m.take (k + 1) by
            rw [List.take_succ_eq_append_getElem hlt, List.take_succ_eq_append_getElem hlt', H.out, ← HX.out, ← HY.out, hxy])
          clear hxy
          go_wp2
          go_region_held3 (fun w' => w'.cell? ⟨b, off + k * 3, none⟩ = some (.int .i64 x.1) ∧ w'.cell? ⟨b, off + k * 3 + 1, none⟩ = some (.int .i64 x.2.1) ∧ w'.cell? ⟨b, off + k * 3 + 2, none⟩ = some (.int .i64 x.2.2) ∧ w'.cell? ⟨b', off' + k * 3, none⟩ = some (.int .i64 y.1) ∧ w'.cell? ⟨b', off' + k * 3 + 1, none⟩ = some (.int .i64 y.2.1) ∧ w'.cell? ⟨b', off' + k * 3 + 2, none⟩ = some (.int .i64 y.2.2)) (go_keep)
            (first | (go_at_call 56; refine (eqRide_any x y _).mono ?_; rintro e w2 ⟨rfl, hb2'⟩; have hb2 := below_of_drew hb2'; have hcb : ∀ b o, b < wr.heap.size → w2.cell? ⟨b, o, none⟩ = wr.cell? ⟨b, o, none⟩ := cell_below hb2))
          have hb3 : Below w.heap.size w w2 := hb.trans (hb2.mono hb.size)
          clear hcb
          go_wp2
          go_roundw
          case rel => exact ⟨k + 1, by omega, by go_num, hres, hb3⟩
          case measure => simp [intOf]; omega
        · have hd : same3 x y = false := decide_eq_false hxy
          have hres := Lib.hid (show decide (l = m) = false from decide_eq_false (fun h => hxy (by rw [HX.out, HY.out]; simp [h])))
          clear hxy
          go_wp2
          go_region_held3 (fun w' => w'.cell? ⟨b, off + k * 3, none⟩ = some (.int .i64 x.1) ∧ w'.cell? ⟨b, off + k * 3 + 1, none⟩ = some (.int .i64 x.2.1) ∧ w'.cell? ⟨b, off + k * 3 + 2, none⟩ = some (.int .i64 x.2.2) ∧ w'.cell? ⟨b', off' + k * 3, none⟩ = some (.int .i64 y.1) ∧ w'.cell? ⟨b', off' + k * 3 + 1, none⟩ = some (.int .i64 y.2.1) ∧ w'.cell? ⟨b', off' + k * 3 + 2, none⟩ = some (.int .i64 y.2.2)) (go_keep)
            (first | (go_at_call 56; refine (eqRide_any x y _).mono ?_; rintro e w2 ⟨rfl, hb2'⟩; have hb2 := below_of_drew hb2'; have hcb : ∀ b o, b < wr.heap.size → w2.cell? ⟨b, o, none⟩ = wr.cell? ⟨b, o, none⟩ := cell_below hb2))
          have hb3 : Below w.heap.size w w2 := hb.trans (hb2.mono hb.size)
          clear hcb
          go_wp2
          go_ret
          exact ⟨ret_bool hres.out.symm, hb3⟩
      · have hres := Lib.hid (show decide (l = m) = true from decide_eq_true (by
          have h := H.out
          have hl := HL.out
          have hkl : k = l.length := by omega
          subst hkl
          rw [hl, List.take_length] at h
          rw [← hl, List.take_length] at h
          exact h))
        go_wp2
        go_ret
        exact ⟨ret_bool hres.out.symm, hb⟩
set_option maxHeartbeats 1000000 in
theorem markRideS_any (A : Option Addr) (c base : Nat) (l : List T3) (k : Int) (w : World) (hl : l.length ≤ 8388608) (h0 : 0 ≤ k) (h1 : k ≤ 1000000000) (hown : w.ownsRow base 62 3 (.slice A l.length c) l.length (flat3 l)) :
    Calls Try.prog 20 #[.slice A l.length c, .int .i64 k] w (MarkS base 62 l.length (.slice A l.length c) k w) := by
  rcases Nat.eq_zero_or_pos l.length with hz | hz
  · have hz' := Lib.hid hz
    have hz2 : ¬ 0 < l.length := by omega
    have hz3 : decide (0 < l.length) = false := decide_eq_false hz2
    have hfin : MarkS base 62 l.length (.slice A l.length c) k w (.returned (.int .i64 k)) w := ⟨by rw [hz]; simp, by
      have e : l = [] := List.length_eq_zero_iff.1 hz
      subst e; simpa [marks] using hown, grownBy_refl _ _⟩
    clear hz
    generalize hn : l.length = n at *
    go_enter Try.func20, Try.ntmps20
    go_wp2
    refine wp_loop_rounds 1 ?_
    rw [rounds_succ]
    go_wp2
    go_ret
    exact hfin
  · obtain ⟨g, cap, hv, hbg, hgl⟩ := hown.form hz
    injection hv with hA _ hc
    subst hA hc
    go_enter Try.func20, Try.ntmps20
    go_wp2
    go_loopw [1, 5] (fun q i wr => ∃ j : Nat, j ≤ l.length ∧ i = .int .i64 j ∧ q = .int .i64 (k + 3 * j) ∧ markRel base 62 l k j g l.length c wr ∧ w.grownBy wr (some g)) (fun _ i _ => l.length - (intOf i).toNat)
    case atStart => exact ⟨0, Nat.zero_le _, rfl, by simp, by simpa [markRel, marks] using hown, grownBy_refl _ _⟩
    case round =>
      obtain ⟨j, hj, rfl, rfl, hrow, hg⟩ := hrel
      clear hown
      by_cases hlt : j < l.length
      · have hlen : (marks k j ++ l.drop j).length = l.length := by rw [List.length_append, marks_length, List.length_drop]; omega
        obtain ⟨d0, d1, d2⟩ := own3_cells hrow j (by rw [hlen]; exact hlt)
        have f0 := hrow.frozenAt (j * 3)
        have f1 := hrow.frozenAt (j * 3 + 1)
        have f2 := hrow.frozenAt (j * 3 + 2)
        have hst := own3_store hrow j (k + 3 * j, k + 3 * j + 1, k + 3 * j + 1 + 1)
        rw [mark_step l k j hlt] at hst
        have hgg := grownBy_setCell (grownBy_setCell (grownBy_setCell hg (j * 3) (.int .i64 (k + 3 * j))) (j * 3 + 1) (.int .i64 (k + 3 * j + 1))) (j * 3 + 2) (.int .i64 (k + 3 * j + 1 + 1))
        generalize (marks k j ++ l.drop j)[j] = u at *
        clear hlen hrow hg
        go_wp2
        go_roundw
        case rel => exact ⟨j + 1, by omega, by go_num, by go_num, hst, hgg⟩
        case measure => simp [intOf]; omega
      · have hkl : j = l.length := by omega
        subst hkl
        have hown : wr.ownsRow base 62 3 (.slice (some ⟨g, 0, none⟩) l.length c) l.length (flat3 (marks k l.length)) := by simpa [markRel] using hrow
        go_wp2
        go_ret
        exact ⟨rfl, hown, hg⟩
set_option maxHeartbeats 1000000 in
theorem heldRideS_any (A : Option Addr) (n c lo hi : Nat) (k : Int) (w : World) (hl : n ≤ 8388608) (h0 : 0 ≤ k) (h1 : k ≤ 1000000000) (hr : Rd w lo hi A (flat3 (marks k n))) :
    Calls Try.prog 21 #[.slice A n c, .int .i64 k] w fun e w' => e = .returned (.int .i64 (k + 3 * n)) ∧ w = w' := by
  go_enter Try.func21, Try.ntmps21
  go_wp2
  go_loop [1, 5] (fun q i => ∃ j : Nat, j ≤ n ∧ i = .int .i64 j ∧ q = .int .i64 (k + 3 * j)) (fun _ i => n - (intOf i).toNat)
  case atStart => exact ⟨0, Nat.zero_le _, rfl, by simp⟩
  case round =>
    obtain ⟨j, hj, rfl, rfl⟩ := hrel
    by_cases hlt : j < n
    · obtain ⟨b, off, rfl, hlo, hhi, c0, c1, c2⟩ := hr.at3 j (by rw [marks_length]; exact hlt)
      rw [marks_get] at c0 c1 c2
      simp only at c0 c1 c2
      go_wp2
      go_round
      case rel => exact ⟨j + 1, by omega, by go_num, by go_num⟩
      case measure => simp [intOf]; omega
    · have hkl : j = n := by omega
      subst hkl
      go_wp2
      go_ret
      exact ⟨rfl, rfl⟩

end Go.Proofs.Ytgffpokipmkjeaa

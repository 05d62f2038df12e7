/-
  Contracts of the drawers of the laws on lateness.
-/
import Derived.Test.YteceohdchknbbaaLateDraw
namespace Go.Proofs.Yteceohdchknbbaa
open Go.RowKit

def RetLate (E : TypeId) (w : World) (e : Ending) (w' : World) : Prop :=
  ∃ (n : Int) (A : Option Addr) (c : Nat) (l : List T3) (least start : Int) (B : Option Addr) (d : Nat) (ds : List Int), e = .returned (.tuple #[.int .i64 n, .slice A l.length c, .int .i64 least, .int .i64 start, .slice B ds.length d]) ∧ l.length ≤ 100 ∧ ds.length ≤ 100 ∧
    w'.ownsRow w.heap.size E 3 (.slice A l.length c) l.length (flat3 l) ∧ Rd w' w.heap.size w'.heap.size B (ints ds) ∧ Below w.heap.size w w'
set_option maxHeartbeats 1000000 in
theorem drawLateArrive_any (A : Option Addr) (n c : Nat) (bs : Nat → Int) (w : World) (h : Byt w w.heap.size A n bs) (hn : n ≤ 1048576) (hc : n ≤ c) :
    Calls Try.prog 38 #[.slice A n c] w (RetLate 31 w) := by
  go_enter Try.func38, Try.ntmps38
  go_wp2_with fail
  refine (open_any A n c bs _ h hn hc).mono ?_
  rintro e w1 ⟨f, rfl, hr1, hb1, hs1⟩
  go_wp2_with fail
  refine (late_any w.heap.size 0 f _ hr1 (by omega)).mono ?_
  rintro e w2 ⟨n2, A2, c2, l, least, start, B, d, ds, p', rfl, hl, hd, ho2, hR, _, _, hr2, hg2⟩
  go_wp2_with fail
  refine bodyPost_ret (v := .tuple #[.int .i64 n2, .slice A2 l.length c2, .int .i64 least, .int .i64 start, .slice B ds.length d]) (by simp [results, Try.results38, go_sem]) rfl ?_
  exact ⟨n2, A2, c2, l, least, start, B, d, ds, rfl, hl, hd, own_mono ho2 (by omega), hR.more (by omega) (Nat.le_refl _), below_draw hb1 hg2 (Nat.le_refl _)⟩
set_option maxHeartbeats 1000000 in
theorem drawLateLeave_any (A : Option Addr) (n c : Nat) (bs : Nat → Int) (w : World) (h : Byt w w.heap.size A n bs) (hn : n ≤ 1048576) (hc : n ≤ c) :
    Calls Try.prog 42 #[.slice A n c] w (RetLate 31 w) := by
  go_enter Try.func42, Try.ntmps42
  go_wp2_with fail
  refine (open_any A n c bs _ h hn hc).mono ?_
  rintro e w1 ⟨f, rfl, hr1, hb1, hs1⟩
  go_wp2_with fail
  refine (late_any w.heap.size 0 f _ hr1 (by omega)).mono ?_
  rintro e w2 ⟨n2, A2, c2, l, least, start, B, d, ds, p', rfl, hl, hd, ho2, hR, _, _, hr2, hg2⟩
  go_wp2_with fail
  refine bodyPost_ret (v := .tuple #[.int .i64 n2, .slice A2 l.length c2, .int .i64 least, .int .i64 start, .slice B ds.length d]) (by simp [results, Try.results42, go_sem]) rfl ?_
  exact ⟨n2, A2, c2, l, least, start, B, d, ds, rfl, hl, hd, own_mono ho2 (by omega), hR.more (by omega) (Nat.le_refl _), below_draw hb1 hg2 (Nat.le_refl _)⟩
set_option maxHeartbeats 1000000 in
theorem drawLateEnd_any (A : Option Addr) (n c : Nat) (bs : Nat → Int) (w : World) (h : Byt w w.heap.size A n bs) (hn : n ≤ 1048576) (hc : n ≤ c) :
    Calls Try.prog 36 #[.slice A n c] w (RetLate 31 w) := by
  go_enter Try.func36, Try.ntmps36
  go_wp2_with fail
  refine (open_any A n c bs _ h hn hc).mono ?_
  rintro e w1 ⟨f, rfl, hr1, hb1, hs1⟩
  go_wp2_with fail
  refine (late_any w.heap.size 0 f _ hr1 (by omega)).mono ?_
  rintro e w2 ⟨n2, A2, c2, l, least, start, B, d, ds, p', rfl, hl, hd, ho2, hR, _, _, hr2, hg2⟩
  go_wp2_with fail
  refine bodyPost_ret (v := .tuple #[.int .i64 n2, .slice A2 l.length c2, .int .i64 least, .int .i64 start, .slice B ds.length d]) (by simp [results, Try.results36, go_sem]) rfl ?_
  exact ⟨n2, A2, c2, l, least, start, B, d, ds, rfl, hl, hd, own_mono ho2 (by omega), hR.more (by omega) (Nat.le_refl _), below_draw hb1 hg2 (Nat.le_refl _)⟩
set_option maxHeartbeats 1000000 in
theorem drawLateStops_any (A : Option Addr) (n c : Nat) (bs : Nat → Int) (w : World) (h : Byt w w.heap.size A n bs) (hn : n ≤ 1048576) (hc : n ≤ c) :
    Calls Try.prog 50 #[.slice A n c] w (RetLate 31 w) := by
  go_enter Try.func50, Try.ntmps50
  go_wp2_with fail
  refine (open_any A n c bs _ h hn hc).mono ?_
  rintro e w1 ⟨f, rfl, hr1, hb1, hs1⟩
  go_wp2_with fail
  refine (late_any w.heap.size 0 f _ hr1 (by omega)).mono ?_
  rintro e w2 ⟨n2, A2, c2, l, least, start, B, d, ds, p', rfl, hl, hd, ho2, hR, _, _, hr2, hg2⟩
  go_wp2_with fail
  refine bodyPost_ret (v := .tuple #[.int .i64 n2, .slice A2 l.length c2, .int .i64 least, .int .i64 start, .slice B ds.length d]) (by simp [results, Try.results50, go_sem]) rfl ?_
  exact ⟨n2, A2, c2, l, least, start, B, d, ds, rfl, hl, hd, own_mono ho2 (by omega), hR.more (by omega) (Nat.le_refl _), below_draw hb1 hg2 (Nat.le_refl _)⟩
set_option maxHeartbeats 1000000 in
theorem drawLateSum_any (A : Option Addr) (n c : Nat) (bs : Nat → Int) (w : World) (h : Byt w w.heap.size A n bs) (hn : n ≤ 1048576) (hc : n ≤ c) :
    Calls Try.prog 44 #[.slice A n c] w (RetLate 31 w) := by
  go_enter Try.func44, Try.ntmps44
  go_wp2_with fail
  refine (open_any A n c bs _ h hn hc).mono ?_
  rintro e w1 ⟨f, rfl, hr1, hb1, hs1⟩
  go_wp2_with fail
  refine (late_any w.heap.size 0 f _ hr1 (by omega)).mono ?_
  rintro e w2 ⟨n2, A2, c2, l, least, start, B, d, ds, p', rfl, hl, hd, ho2, hR, _, _, hr2, hg2⟩
  go_wp2_with fail
  refine bodyPost_ret (v := .tuple #[.int .i64 n2, .slice A2 l.length c2, .int .i64 least, .int .i64 start, .slice B ds.length d]) (by simp [results, Try.results44, go_sem]) rfl ?_
  exact ⟨n2, A2, c2, l, least, start, B, d, ds, rfl, hl, hd, own_mono ho2 (by omega), hR.more (by omega) (Nat.le_refl _), below_draw hb1 hg2 (Nat.le_refl _)⟩
def RetSlackA (E : TypeId) (w : World) (e : Ending) (w' : World) : Prop :=
  ∃ (n : Int) (A : Option Addr) (c : Nat) (l : List T3) (least : Int), e = .returned (.tuple #[.int .i64 n, .slice A l.length c, .int .i64 least]) ∧ l.length ≤ 100 ∧ w'.ownsRow w.heap.size E 3 (.slice A l.length c) l.length (flat3 l) ∧ Below w.heap.size w w'
set_option maxHeartbeats 1000000 in
theorem drawLateSlack_any (A : Option Addr) (n c : Nat) (bs : Nat → Int) (w : World) (h : Byt w w.heap.size A n bs) (hn : n ≤ 1048576) (hc : n ≤ c) :
    Calls Try.prog 15 #[.slice A n c] w (RetSlackA 31 w) := by
  go_enter Try.func15, Try.ntmps15
  go_wp2_with fail
  refine (open_any A n c bs _ h hn hc).mono ?_
  rintro e w1 ⟨f, rfl, hr1, hb1, hs1⟩
  go_wp2_with fail
  refine (one_any w.heap.size 0 f _ hr1 (by omega)).mono ?_
  rintro e w2 ⟨n2, A2, c2, p1, l, rfl, _, _, hl, ho2, _, _, hr2, hg2⟩
  go_wp2_with fail
  refine (delay_any w.heap.size p1 f _ hr2 (by omega)).mono ?_
  rintro e w3 ⟨x, p2, rfl, _, _, _, _, hr3, hg3⟩
  go_wp2_with fail
  go_ret3
  exact ⟨n2, A2, c2, l, x, rfl, hl, own_mono (own_draw ho2 hg3 (by omega)) (by omega), below_draw hb1 (hg2.trans hg3) (Nat.le_refl _)⟩
set_option maxHeartbeats 1000000 in
theorem drawLateFree_any (A : Option Addr) (n c : Nat) (bs : Nat → Int) (w : World) (h : Byt w w.heap.size A n bs) (hn : n ≤ 1048576) (hc : n ≤ c) :
    Calls Try.prog 31 #[.slice A n c] w (RetSlackA 31 w) := by
  go_enter Try.func31, Try.ntmps31
  go_wp2_with fail
  refine (drawLateSlack_any A n c bs _ h hn hc).mono ?_
  rintro e w1 ⟨n2, A2, c2, l, x, rfl, hl, ho, hb⟩
  go_wp2_with fail
  go_ret3
  exact ⟨n2, A2, c2, l, x, rfl, hl, ho, hb⟩
def RetBlameA (E : TypeId) (w : World) (e : Ending) (w' : World) : Prop :=
  ∃ (n : Int) (A : Option Addr) (c : Nat) (l : List T3) (least start : Int) (B : Option Addr) (d : Nat) (ds : List Int) (k : Int), e = .returned (.tuple #[.int .i64 n, .slice A l.length c, .int .i64 least, .int .i64 start, .slice B ds.length d, .int .i64 k]) ∧ l.length ≤ 100 ∧ ds.length ≤ 100 ∧
    w'.ownsRow w.heap.size E 3 (.slice A l.length c) l.length (flat3 l) ∧ Rd w' w.heap.size w'.heap.size B (ints ds) ∧ Below w.heap.size w w'
set_option maxRecDepth 100000 in
set_option maxHeartbeats 4000000 in
theorem at_any (R p : Nat) (f : Nat → Int → Int) (n : Nat) (w : World) (h : IsRdr w R p f) (hp : p ≤ 900000) (hn : n ≤ 1000) :
    Calls Try.prog 71 #[.pointer (some ⟨R, 0, none⟩), .int .i64 n] w (DrewI R p f (-1) 1000 w) := by
  have hR := h.lt
  rcases Nat.eq_zero_or_pos n with hz | hz
  · subst hz
    have b2 := drawF_bd (n := 2) h (p := p) (by omega) (by omega)
    go_enter Try.func71, Try.ntmps71
    go_wp2_with fail
    refine (pick_any 2 R p f _ (h.alloc _) (by omega) (by omega) (by omega)).mono ?_
    rintro e w2 ⟨rfl, hs2⟩
    have hr2 := hs2.rdr (h.alloc _)
    have hg2 := (gr_alloc (gr_refl w (some R)) (.cells #[.int .i64 (-1), .int .i64 0] 3)).trans hs2.grown
    obtain ⟨j, hj⟩ := Int.eq_ofNat_of_zero_le b2.1
    have hj3 : j < 2 := by omega
    rw [hj]
    have hlc := (hs2.cell (b := w.heap.size) (o := j) (by omega)).trans (lit_cell w [-1, 0] 3 j hj3)
    have hval : -1 ≤ [(-1 : Int), 0][j] ∧ [(-1 : Int), 0][j] ≤ 1000 := by
      have : j = 0 ∨ j = 1 := by omega
      rcases this with rfl | rfl <;> simp
    generalize [(-1 : Int), 0][j] = val at hlc hval
    have hj0 : (0 : Int) ≤ (j : Int) := by omega
    have hj1 : (j : Int) < 2 := by omega
    clear hj b2 hs2
    go_wp2_with fail
    go_ret
    exact ⟨val, p + 1, rfl, hval.1, hval.2, by omega, by omega, hr2, hg2⟩
  · have hz0 : ((n : Int) == 0) = false := by simp; omega
    have b1 := drawF_bd (n := 20) h (p := p) (by omega) (by omega)
    go_enter Try.func71, Try.ntmps71
    go_wp2_with fail
    refine (pick_any 20 R p f _ h (by omega) (by omega) (by omega)).mono ?_
    rintro e w1 ⟨rfl, hs1⟩
    have hr1 := hs1.rdr h
    have hg1 := hs1.grown
    have hz1 := hg1.size
    generalize f p 20 = v at *
    by_cases hv : v = 0
    · have dv : (v == 0) = true := by simp [hv]
      have b2 := drawF_bd (n := 2) hr1 (p := p + 1) (by omega) (by omega)
      clear hv
      go_wp2_with fail
      refine (pick_any 2 R (p + 1) f _ (hr1.alloc _) (by omega) (by omega) (by omega)).mono ?_
      rintro e w2 ⟨rfl, hs2⟩
      have hr2 := hs2.rdr (hr1.alloc _)
      have hg2 := (gr_alloc hg1 (.cells #[.int .i64 (-1), .int .i64 n] 3)).trans hs2.grown
      obtain ⟨j, hj⟩ := Int.eq_ofNat_of_zero_le b2.1
      have hj3 : j < 2 := by omega
      rw [hj]
      have hlc := (hs2.cell (b := w1.heap.size) (o := j) (by omega)).trans (lit_cell w1 [-1, (n : Int)] 3 j hj3)
      have hval : -1 ≤ [(-1 : Int), (n : Int)][j] ∧ [(-1 : Int), (n : Int)][j] ≤ 1000 := by
        have : j = 0 ∨ j = 1 := by omega
        rcases this with rfl | rfl <;> simp <;> omega
      generalize [(-1 : Int), (n : Int)][j] = val at hlc hval
      have hj0 : (0 : Int) ≤ (j : Int) := by omega
      have hj1 : (j : Int) < 2 := by omega
      clear hj b2 hs2
      go_wp2_with fail
      go_ret
      exact ⟨val, p + 1 + 1, rfl, hval.1, hval.2, by omega, by omega, hr2, hg2⟩
    · have dv : (v == 0) = false := by simp [hv]
      have b2 := drawF_bd (n := (n : Int)) hr1 (p := p + 1) (by omega) (by omega)
      clear hv
      go_wp2_with fail
      refine (pick_any (n : Int) R (p + 1) f _ hr1 (by omega) (by omega) (by omega)).mono ?_
      rintro e w2 ⟨rfl, hs2⟩
      have hr2 := hs2.rdr hr1
      have hg2 := hg1.trans hs2.grown
      generalize f (p + 1) (n : Int) = x at *
      go_wp2_with fail
      go_ret
      exact ⟨x, p + 1 + 1, rfl, by omega, by omega, by omega, by omega, hr2, hg2⟩
set_option maxHeartbeats 1000000 in
theorem drawLateBlame_any (A : Option Addr) (n c : Nat) (bs : Nat → Int) (w : World) (h : Byt w w.heap.size A n bs) (hn : n ≤ 1048576) (hc : n ≤ c) :
    Calls Try.prog 47 #[.slice A n c] w (RetBlameA 31 w) := by
  go_enter Try.func47, Try.ntmps47
  go_wp2_with fail
  refine (open_any A n c bs _ h hn hc).mono ?_
  rintro e w1 ⟨f, rfl, hr1, hb1, hs1⟩
  go_wp2_with fail
  refine (late_any w.heap.size 0 f _ hr1 (by omega)).mono ?_
  rintro e w2 ⟨n2, A2, c2, l, least, start, B, d, ds, p', rfl, hl, hd, ho2, hR, _, _, hr2, hg2⟩
  go_wp2_with fail
  refine (at_any w.heap.size p' f ds.length _ hr2 (by omega) (by omega)).mono ?_
  rintro e w3 ⟨x, p2, rfl, _, _, _, _, hr3, hg3⟩
  go_wp2_with fail
  refine bodyPost_ret (v := .tuple #[.int .i64 n2, .slice A2 l.length c2, .int .i64 least, .int .i64 start, .slice B ds.length d, .int .i64 x]) (by simp [results, Try.results47, go_sem]) rfl ?_
  exact ⟨n2, A2, c2, l, least, start, B, d, ds, x, rfl, hl, hd, own_mono (own_draw ho2 hg3 (by omega)) (by omega), ((hR.draw (Nat.le_refl _) hg3 (by omega)).more (by omega) hg3.size), below_draw hb1 (hg2.trans hg3) (Nat.le_refl _)⟩

end Go.Proofs.Yteceohdchknbbaa

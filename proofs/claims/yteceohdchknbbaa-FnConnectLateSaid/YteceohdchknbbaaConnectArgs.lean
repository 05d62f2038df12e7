/-
  Contracts of the drawers of the laws on connections.
-/
import Derived.Test.YteceohdchknbbaaLateDraw
import Derived.Deep.RegionWith
namespace Go.Proofs.Yteceohdchknbbaa
open Go.RowKit

set_option maxRecDepth 100000 in
set_option maxHeartbeats 4000000 in
theorem town_any (R p : Nat) (f : Nat → Int → Int) (n : Int) (w : World) (h : IsRdr w R p f) (hp : p ≤ 900000) (hn1 : 2 ≤ n) (hn2 : n ≤ 8) :
    Calls Try.prog 76 #[.pointer (some ⟨R, 0, none⟩), .int .i64 n] w (DrewI R p f (-1) n w) := by
  have b1 := drawF_bd (n := 24) h (p := p) (by omega) (by omega)
  have hR := h.lt
  have hmax : (1 : Int) < n := by omega
  go_enter Try.func76, Try.ntmps76
  go_wp2_with fail
  refine (pick_any 24 R p f _ h (by omega) (by omega) (by omega)).mono ?_
  rintro e w1 ⟨rfl, hs1⟩
  have hr1 := hs1.rdr h
  have hg1 := hs1.grown
  have hz1 := hg1.size
  generalize f p 24 = v1 at *
  by_cases hv : v1 = 0
  · have d : (v1 == 0) = true := by simp [hv]
    have b2 := drawF_bd (n := 2) hr1 (p := p + 1) (by omega) (by omega)
    clear hv
    go_wp2_with fail
    refine (pick_any 2 R (p + 1) f _ (hr1.alloc _) (by omega) (by omega) (by omega)).mono ?_
    rintro e w2 ⟨rfl, hs2⟩
    have hr2 := hs2.rdr (hr1.alloc _)
    have hg2 := (gr_alloc hg1 _).trans hs2.grown
    obtain ⟨j, hj⟩ := Int.eq_ofNat_of_zero_le b2.1
    have hj3 : j < 2 := by omega
    rw [hj]
    have hlc := (hs2.cell (b := w1.heap.size) (o := j) (by omega)).trans (lit_cell w1 [-1, n] 3 j hj3)
    have hval : -1 ≤ [(-1 : Int), n][j] ∧ [(-1 : Int), n][j] ≤ n := by
      have : j = 0 ∨ j = 1 := by omega
      rcases this with rfl | rfl <;> simp <;> omega
    generalize [(-1 : Int), n][j] = val at hlc hval
    have hj0 : (0 : Int) ≤ (j : Int) := by omega
    have hj1 : (j : Int) < 2 := by omega
    clear hj b2 hs2
    go_wp2_with fail
    go_ret
    exact ⟨val, p + 1 + 1, rfl, hval.1, hval.2, by omega, by omega, hr2, hg2⟩
  · have d : (v1 == 0) = false := by simp [hv]
    have b2 := drawF_bd (n := n) hr1 (p := p + 1) (by omega) (by omega)
    clear hv
    go_wp2_with fail
    refine (pick_any n R (p + 1) f _ hr1 (by omega) (by omega) (by omega)).mono ?_
    rintro e w2 ⟨rfl, hs2⟩
    have hr2 := hs2.rdr hr1
    have hg2 := hg1.trans hs2.grown
    generalize f (p + 1) n = x at *
    go_wp2_with fail
    go_ret
    exact ⟨x, p + 1 + 1, rfl, by omega, by omega, by omega, by omega, hr2, hg2⟩

def DrewC (E : TypeId) (R p : Nat) (f : Nat → Int → Int) (w : World) (e : Ending) (w' : World) : Prop :=
  ∃ (n : Int) (A : Option Addr) (c : Nat) (a : List T3) (B : Option Addr) (d : Nat) (b : List T3) (t : Int) (p' : Nat), e = .returned (.tuple #[.int .i64 n, .slice A a.length c, .slice B b.length d, .int .i64 t]) ∧ a.length ≤ 100 ∧ b.length ≤ 100 ∧
    w'.ownsRow w.heap.size E 3 (.slice A a.length c) a.length (flat3 a) ∧ w'.ownsRow w.heap.size E 3 (.slice B b.length d) b.length (flat3 b) ∧ p ≤ p' ∧ p' ≤ p + 1000 ∧ IsRdr w' R p' f ∧ w.grownBy w' (some R)
set_option maxRecDepth 100000 in
set_option maxHeartbeats 8000000 in
theorem conn_any (R p : Nat) (f : Nat → Int → Int) (w : World) (h : IsRdr w R p f) (hp : p ≤ 700000) :
    Calls Try.prog 64 #[.pointer (some ⟨R, 0, none⟩)] w (DrewC 31 R p f w) := by
  have b1 := drawF_bd (n := 4) h (p := p) (by omega) (by omega)
  have hRw := h.lt
  go_enter Try.func64, Try.ntmps64
  go_wp2_with fail
  refine (pick_any 4 R p f _ h (by omega) (by omega) (by omega)).mono ?_
  rintro e w1 ⟨rfl, hs1⟩
  have hr1 := hs1.rdr h
  have hg1 := hs1.grown
  generalize f p 4 = v1 at *
  have b2 := drawF_bd (n := 200) hr1 (p := p + 1) (by omega) (by omega)
  go_wp2_with fail
  refine (pick_any 200 R (p + 1) f _ hr1 (by omega) (by omega) (by omega)).mono ?_
  rintro e w2 ⟨rfl, hs2⟩
  have hr2 := hs2.rdr hr1
  have hg2 := hg1.trans hs2.grown
  have hz2 := hg2.size
  generalize f (p + 1) 200 = v2 at *
  clear hs1 hs2 hr1 h hg1
  go_wp2_with fail
  refine (stops_any R (p + 1 + 1) f (2 + v1) v2 _ hr2 (by omega) (by omega) (by omega) (by omega) (by omega)).mono ?_
  rintro e w3 ⟨A, c, p3, a, rfl, hla, hoa, hp31, hp32, hr3, hg3⟩
  have hg3 := hg2.trans hg3
  have hz3 := hg3.size
  have b3 := drawF_bd (n := 40) hr3 (p := p3) (by omega) (by omega)
  go_wp2_with fail
  refine (pick_any 40 R p3 f _ hr3 (by omega) (by omega) (by omega)).mono ?_
  rintro e w4 ⟨rfl, hs4⟩
  have hr4 := hs4.rdr hr3
  have hg4 := hg3.trans hs4.grown
  have hoa := hs4.own hoa (by omega)
  have hz4 := hg4.size
  generalize f p3 40 = v3 at *
  clear hs4 hr3 hg3 hr2 hg2
  go_wp2_with fail
  refine (stops_any R (p3 + 1) f (2 + v1) (v2 + v3) _ hr4 (by omega) (by omega) (by omega) (by omega) (by omega)).mono ?_
  rintro e w5 ⟨B, d, p5, b, rfl, hlb, hob, hp51, hp52, hr5, hg5⟩
  have hoa := own_mono (own_draw hoa hg5 (by omega)) hz2
  have hob := own_mono hob hz4
  have hg5 := hg4.trans hg5
  have hz5 := hg5.size
  clear hr4 hg4
  rcases Nat.eq_zero_or_pos a.length with hz | hz
  · have dz : decide (0 < a.length) = false := decide_eq_false (by omega)
    clear hz
    go_wp2_with fail
    refine (town_any R p5 f (2 + v1) _ hr5 (by omega) (by omega) (by omega)).mono ?_
    rintro e w6 ⟨t, p6, rfl, _, _, hp61, hp62, hr6, hg6⟩
    go_wp2_with fail
    refine bodyPost_ret (v := .tuple #[.int .i64 (2 + v1), .slice A a.length c, .slice B b.length d, .int .i64 t]) (by simp [results, Try.results64, go_sem]) rfl ?_
    exact ⟨_, A, c, a, B, d, b, t, p6, rfl, hla, hlb, own_draw hoa hg6 hRw, own_draw hob hg6 hRw, by omega, by omega, hr6, hg5.trans hg6⟩
  · have dz : decide (0 < a.length) = true := decide_eq_true hz
    have b6 := drawF_bd (n := 6) hr5 (p := p5) (by omega) (by omega)
    go_wp2_with fail
    refine (pick_any 6 R p5 f _ hr5 (by omega) (by omega) (by omega)).mono ?_
    rintro e w6 ⟨rfl, hs6⟩
    have hr6 := hs6.rdr hr5
    have hg6 := hg5.trans hs6.grown
    have hoa := hs6.own hoa hRw
    have hob := hs6.own hob hRw
    generalize f p5 6 = v6 at *
    clear hs6 hr5 hg5
    by_cases hv : 0 < v6
    · have dv : decide (0 < v6) = true := decide_eq_true hv
      have b7 := drawF_bd (n := (a.length : Int)) hr6 (p := p5 + 1) (by omega) (by omega)
      obtain ⟨b70, b71⟩ := b7
      obtain ⟨x, hx⟩ : ∃ x, x = f (p5 + 1) (a.length : Int) := ⟨_, rfl⟩
      have HX := Lib.hid hx
      rw [← hx] at b70 b71
      have hxl : x.toNat < a.length := by omega
      obtain ⟨ba, oa, rfl, hlo, hhi, c0, -, -⟩ := (Rd.of_own hoa).at3 x.toNat hxl
      generalize (a[x.toNat]).1 = tw at c0
      have hbR : ba ≠ R := by omega
      clear hx
      go_wp2_with fail
      go_region_with (first | (go_at_call 73; ((with_reducible refine (pick_any (a.length : Int) R (p5 + 1) f _ (by (repeat (first | assumption | apply IsRdr.drewN | apply IsRdr.drew | apply IsRdr.alloc | refine IsRdr.step' ?_ (by omega)))) (by omega) (by omega) (by omega)).mono ?_); rintro e w7 ⟨rfl, q7, rfl⟩; rw [← HX.out])))
      all_goals
        go_wp2
        refine bodyPost_ret (v := .tuple #[.int .i64 (2 + v1), .slice (some ⟨ba, oa, none⟩) a.length c, .slice B b.length d, .int .i64 tw]) (by simp [results, Try.results64, go_sem]) rfl ?_
        exact ⟨_, _, c, a, B, d, b, tw, p5 + 1 + 1, rfl, hla, hlb, own_draw hoa (by (repeat (first | assumption | apply gr_drewN | apply gr_drew | apply gr_alloc | apply gr_set)); exact gr_refl _ _) hRw, own_draw hob (by (repeat (first | assumption | apply gr_drewN | apply gr_drew | apply gr_alloc | apply gr_set)); exact gr_refl _ _) hRw, by omega, by omega, by (repeat (first | assumption | apply IsRdr.drewN | apply IsRdr.drew | apply IsRdr.alloc | refine IsRdr.step' ?_ (by omega))), by (repeat (first | assumption | apply gr_drewN | apply gr_drew | apply gr_alloc | apply gr_set))⟩
    · have dv : decide (0 < v6) = false := decide_eq_false hv
      go_wp2_with fail
      refine (town_any R (p5 + 1) f (2 + v1) _ hr6 (by omega) (by omega) (by omega)).mono ?_
      rintro e w7 ⟨t, p6, rfl, _, _, hp61, hp62, hr7, hg7⟩
      go_wp2_with fail
      refine bodyPost_ret (v := .tuple #[.int .i64 (2 + v1), .slice A a.length c, .slice B b.length d, .int .i64 t]) (by simp [results, Try.results64, go_sem]) rfl ?_
      exact ⟨_, A, c, a, B, d, b, t, p6, rfl, hla, hlb, own_draw hoa hg7 hRw, own_draw hob hg7 hRw, by omega, by omega, hr7, hg6.trans hg7⟩
def RetC7 (E : TypeId) (w : World) (e : Ending) (w' : World) : Prop :=
  ∃ (n : Int) (A : Option Addr) (c : Nat) (a : List T3) (B : Option Addr) (d : Nat) (b : List T3) (t late change most : Int), e = .returned (.tuple #[.int .i64 n, .slice A a.length c, .slice B b.length d, .int .i64 t, .int .i64 late, .int .i64 change, .int .i64 most]) ∧ a.length ≤ 100 ∧ b.length ≤ 100 ∧
    w'.ownsRow w.heap.size E 3 (.slice A a.length c) a.length (flat3 a) ∧ w'.ownsRow w.heap.size E 3 (.slice B b.length d) b.length (flat3 b) ∧ Below w.heap.size w w'
def RetC6 (E : TypeId) (w : World) (e : Ending) (w' : World) : Prop :=
  ∃ (n : Int) (A : Option Addr) (c : Nat) (a : List T3) (B : Option Addr) (d : Nat) (b : List T3) (t change most : Int), e = .returned (.tuple #[.int .i64 n, .slice A a.length c, .slice B b.length d, .int .i64 t, .int .i64 change, .int .i64 most]) ∧ a.length ≤ 100 ∧ b.length ≤ 100 ∧
    w'.ownsRow w.heap.size E 3 (.slice A a.length c) a.length (flat3 a) ∧ w'.ownsRow w.heap.size E 3 (.slice B b.length d) b.length (flat3 b) ∧ Below w.heap.size w w'
set_option maxRecDepth 100000 in
set_option maxHeartbeats 2000000 in
theorem drawConnectMade_any (A : Option Addr) (n c : Nat) (bs : Nat → Int) (w : World) (h : Byt w w.heap.size A n bs) (hn : n ≤ 1048576) (hc : n ≤ c) :
    Calls Try.prog 21 #[.slice A n c] w (RetC7 31 w) := by
  go_enter Try.func21, Try.ntmps21
  go_wp2_with fail
  refine (open_any A n c bs _ h hn hc).mono ?_
  rintro e w1 ⟨f, rfl, hr1, hb1, hs1⟩
  go_wp2_with fail
  refine (conn_any w.heap.size 0 f _ hr1 (by omega)).mono ?_
  rintro e w2 ⟨n2, A2, c2, a, B2, d2, b, t, p2, rfl, hla, hlb, hoa, hob, _, _, hr2, hg2⟩
  go_wp2_with fail
  refine (delay_any w.heap.size p2 f _ hr2 (by omega)).mono ?_
  rintro e w3 ⟨x, p3, rfl, _, _, _, _, hr3, hg3⟩
  go_wp2_with fail
  refine (delay_any w.heap.size p3 f _ hr3 (by omega)).mono ?_
  rintro e w4 ⟨y, p4, rfl, _, _, _, _, hr4, hg4⟩
  go_wp2_with fail
  refine (delay_any w.heap.size p4 f _ hr4 (by omega)).mono ?_
  rintro e w5 ⟨z, p5, rfl, _, _, _, _, hr5, hg5⟩
  have hg := (hg3.trans hg4).trans hg5
  go_wp2_with fail
  refine bodyPost_ret (v := .tuple #[.int .i64 n2, .slice A2 a.length c2, .slice B2 b.length d2, .int .i64 t, .int .i64 x, .int .i64 (Int.tdiv y 3), .int .i64 z]) (by simp [results, Try.results21, go_sem]) rfl ?_
  exact ⟨n2, A2, c2, a, B2, d2, b, t, x, _, z, rfl, hla, hlb, own_mono (own_draw hoa hg (by omega)) (by omega), own_mono (own_draw hob hg (by omega)) (by omega), below_draw hb1 (hg2.trans hg) (Nat.le_refl _)⟩
set_option maxHeartbeats 1000000 in
theorem drawConnectLate_any (A : Option Addr) (n c : Nat) (bs : Nat → Int) (w : World) (h : Byt w w.heap.size A n bs) (hn : n ≤ 1048576) (hc : n ≤ c) :
    Calls Try.prog 27 #[.slice A n c] w (RetC7 31 w) := by
  go_enter Try.func27, Try.ntmps27
  go_wp2_with fail
  refine (drawConnectMade_any A n c bs _ h hn hc).mono ?_
  rintro e w1 ⟨n2, A2, c2, a, B2, d2, b, t, x, y, z, rfl, hla, hlb, hoa, hob, hb⟩
  go_wp2_with fail
  refine bodyPost_ret (v := .tuple #[.int .i64 n2, .slice A2 a.length c2, .slice B2 b.length d2, .int .i64 t, .int .i64 x, .int .i64 y, .int .i64 z]) (by simp [results, Try.results27, go_sem]) rfl ?_
  exact ⟨n2, A2, c2, a, B2, d2, b, t, x, y, z, rfl, hla, hlb, hoa, hob, hb⟩
set_option maxRecDepth 100000 in
set_option maxHeartbeats 2000000 in
theorem drawConnectMost_any (A : Option Addr) (n c : Nat) (bs : Nat → Int) (w : World) (h : Byt w w.heap.size A n bs) (hn : n ≤ 1048576) (hc : n ≤ c) :
    Calls Try.prog 25 #[.slice A n c] w (RetC6 31 w) := by
  go_enter Try.func25, Try.ntmps25
  go_wp2_with fail
  refine (open_any A n c bs _ h hn hc).mono ?_
  rintro e w1 ⟨f, rfl, hr1, hb1, hs1⟩
  go_wp2_with fail
  refine (conn_any w.heap.size 0 f _ hr1 (by omega)).mono ?_
  rintro e w2 ⟨n2, A2, c2, a, B2, d2, b, t, p2, rfl, hla, hlb, hoa, hob, _, _, hr2, hg2⟩
  go_wp2_with fail
  refine (delay_any w.heap.size p2 f _ hr2 (by omega)).mono ?_
  rintro e w3 ⟨x, p3, rfl, _, _, _, _, hr3, hg3⟩
  go_wp2_with fail
  refine (delay_any w.heap.size p3 f _ hr3 (by omega)).mono ?_
  rintro e w4 ⟨y, p4, rfl, _, _, _, _, hr4, hg4⟩
  have hg := hg3.trans hg4
  go_wp2_with fail
  refine bodyPost_ret (v := .tuple #[.int .i64 n2, .slice A2 a.length c2, .slice B2 b.length d2, .int .i64 t, .int .i64 (Int.tdiv x 3), .int .i64 y]) (by simp [results, Try.results25, go_sem]) rfl ?_
  exact ⟨n2, A2, c2, a, B2, d2, b, t, _, y, rfl, hla, hlb, own_mono (own_draw hoa hg (by omega)) (by omega), own_mono (own_draw hob hg (by omega)) (by omega), below_draw hb1 (hg2.trans hg) (Nat.le_refl _)⟩

end Go.Proofs.Yteceohdchknbbaa

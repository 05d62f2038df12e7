/-
  The drawers of the laws on the post.
-/
import Derived.Test.YtdiichfdffhdaaaNetDraw
namespace Go.Proofs.Ytdiichfdffhdaaa
open Go.RowKit

set_option maxRecDepth 100000 in
set_option maxHeartbeats 4000000 in
theorem townP_any (R p : Nat) (f : Nat → Int → Int) (n : Int) (w : World) (h : IsRdr w R p f) (hp : p ≤ 900000) (hn1 : 2 ≤ n) (hn2 : n ≤ 8) :
    Calls Try.prog 81 #[.pointer (some ⟨R, 0, none⟩), .int .i64 n] w (DrewI R p f (-1) n w) := by
  have b1 := drawF_bd (n := 24) h (p := p) (by omega) (by omega)
  have hR := h.lt
  have hmax : (1 : Int) < n := by omega
  go_enter Try.func81, Try.ntmps81
  go_wp2_with fail
  refine (pick_any 24 R p f _ h (by omega) (by omega) (by omega)).mono ?_
  rintro e w1 ⟨rfl, hs1⟩
  have hr1 := hs1.rdr h
  have hg1 := hs1.grown
  have hz1 := hg1.size
  generalize f p 24 = v1 at *
  by_cases hv : v1 = 0
  · have d : (v1 == 0) = true := by simp [hv]
    have b2 := drawF_bd (n := 2) hr1 (p := p + 1) (by omega) (by omega)
    clear hv
    go_wp2_with fail
    refine (pick_any 2 R (p + 1) f _ (hr1.alloc _) (by omega) (by omega) (by omega)).mono ?_
    rintro e w2 ⟨rfl, hs2⟩
    have hr2 := hs2.rdr (hr1.alloc _)
    have hg2 := (gr_alloc hg1 _).trans hs2.grown
    obtain ⟨j, hj⟩ := Int.eq_ofNat_of_zero_le b2.1
    have hj3 : j < 2 := by omega
    rw [hj]
    have hlc := (hs2.cell (b := w1.heap.size) (o := j) (by omega)).trans (lit_cell w1 [-1, n] 3 j hj3)
    have hval : -1 ≤ [(-1 : Int), n][j] ∧ [(-1 : Int), n][j] ≤ n := by
      have : j = 0 ∨ j = 1 := by omega
      rcases this with rfl | rfl <;> simp <;> omega
    generalize [(-1 : Int), n][j] = val at hlc hval
    have hj0 : (0 : Int) ≤ (j : Int) := by omega
    have hj1 : (j : Int) < 2 := by omega
    clear hj b2 hs2
    go_wp2_with fail
    go_ret
    exact ⟨val, p + 1 + 1, rfl, hval.1, hval.2, by omega, by omega, hr2, hg2⟩
  · have d : (v1 == 0) = false := by simp [hv]
    have b2 := drawF_bd (n := n) hr1 (p := p + 1) (by omega) (by omega)
    clear hv
    go_wp2_with fail
    refine (pick_any n R (p + 1) f _ hr1 (by omega) (by omega) (by omega)).mono ?_
    rintro e w2 ⟨rfl, hs2⟩
    have hr2 := hs2.rdr hr1
    have hg2 := hg1.trans hs2.grown
    generalize f (p + 1) n = x at *
    go_wp2_with fail
    go_ret
    exact ⟨x, p + 1 + 1, rfl, by omega, by omega, by omega, by omega, hr2, hg2⟩

set_option maxRecDepth 100000 in
set_option maxHeartbeats 4000000 in
theorem change_any (R p : Nat) (f : Nat → Int → Int) (w : World) (h : IsRdr w R p f) (hp : p ≤ 900000) :
    Calls Try.prog 92 #[.pointer (some ⟨R, 0, none⟩)] w (DrewI R p f (-1) 301 w) := by
  have b1 := drawF_bd (n := 30) h (p := p) (by omega) (by omega)
  have hR := h.lt
  go_enter Try.func92, Try.ntmps92
  go_wp2_with fail
  refine (pick_any 30 R p f _ h (by omega) (by omega) (by omega)).mono ?_
  rintro e w1 ⟨rfl, hs1⟩
  have hr1 := hs1.rdr h
  have hg1 := hs1.grown
  have hz1 := hg1.size
  generalize f p 30 = v1 at *
  by_cases hv : v1 = 0
  · have d : (v1 == 0) = true := by simp [hv]
    have b2 := drawF_bd (n := 2) hr1 (p := p + 1) (by omega) (by omega)
    clear hv
    go_wp2_with fail
    refine (pick_any 2 R (p + 1) f _ (hr1.alloc _) (by omega) (by omega) (by omega)).mono ?_
    rintro e w2 ⟨rfl, hs2⟩
    have hr2 := hs2.rdr (hr1.alloc _)
    have hg2 := (gr_alloc hg1 _).trans hs2.grown
    obtain ⟨j, hj⟩ := Int.eq_ofNat_of_zero_le b2.1
    have hj3 : j < 2 := by omega
    rw [hj]
    have hlc := (hs2.cell (b := w1.heap.size) (o := j) (by omega)).trans (lit_cell w1 [-1, 301] 3 j hj3)
    have hval : -1 ≤ [(-1 : Int), 301][j] ∧ [(-1 : Int), 301][j] ≤ 301 := by
      have : j = 0 ∨ j = 1 := by omega
      rcases this with rfl | rfl <;> simp
    generalize [(-1 : Int), 301][j] = val at hlc hval
    have hj0 : (0 : Int) ≤ (j : Int) := by omega
    have hj1 : (j : Int) < 2 := by omega
    clear hj b2 hs2
    go_wp2_with fail
    go_ret
    exact ⟨val, p + 1 + 1, rfl, hval.1, hval.2, by omega, by omega, hr2, hg2⟩
  · have d : (v1 == 0) = false := by simp [hv]
    have b2 := drawF_bd (n := 3) hr1 (p := p + 1) (by omega) (by omega)
    clear hv
    go_wp2_with fail
    refine (pick_any 3 R (p + 1) f _ hr1 (by omega) (by omega) (by omega)).mono ?_
    rintro e w2 ⟨rfl, hs2⟩
    have hr2 := hs2.rdr hr1
    have hg2 := hg1.trans hs2.grown
    have b3 := drawF_bd (n := 9) hr2 (p := p + 1 + 1) (by omega) (by omega)
    generalize f (p + 1) 3 = x at *
    go_wp2_with fail
    refine (pick_any 9 R (p + 1 + 1) f _ hr2 (by omega) (by omega) (by omega)).mono ?_
    rintro e w3 ⟨rfl, hs3⟩
    have hr3 := hs3.rdr hr2
    have hg3 := hg2.trans hs3.grown
    generalize f (p + 1 + 1) 9 = y at *
    have hxy := mul_bd (a := x) (b := y) (A := 2) (B := 8) (by omega) (by omega)
    generalize hz : x * y = z at *
    have wz : IntKind.i64.wrap z = z := IntWalk.i64_in _ (by omega)
    go_wp2_with fail
    go_ret
    exact ⟨z, p + 1 + 1 + 1, by simp [hz, wz], by omega, by omega, by omega, by omega, hr3, hg3⟩

theorem RdN.stepR {w w' : World} {lo hi R : Nat} {A : Option Addr} {net : Net} (h : RdN w lo hi A net) (hg : w.grownBy w' (some R)) (hR : R < lo) (hh : hi ≤ w.heap.size) : RdN w' lo hi A net :=
  h.keep fun p h1 h2 => World.cell?_of_block (hg.block p.block (by omega) (fun e => by injection e with e; omega))
/-- A net, a town, a time and a change are drawn. -/
def DrewP (R p : Nat) (f : Nat → Int → Int) (w : World) (e : Ending) (w' : World) : Prop :=
  ∃ (n : Int) (A : Option Addr) (c : Nat) (fr t ch : Int) (p' : Nat) (net : Net), e = .returned (.tuple #[.int .i64 n, .slice A net.length c, .int .i64 fr, .int .i64 t, .int .i64 ch]) ∧ 2 ≤ n ∧ n ≤ 6 ∧ net.length ≤ 6 ∧ (∀ k (hk : k < net.length), net[k].length ≤ 100) ∧ RdN w' w.heap.size w'.heap.size A net ∧ (-121 ≤ t ∧ t ≤ 119) ∧ (-1 ≤ ch ∧ ch ≤ 301) ∧ p ≤ p' ∧ p' ≤ p + 3000 ∧ IsRdr w' R p' f ∧ w.grownBy w' (some R)

set_option maxRecDepth 100000 in
set_option maxHeartbeats 4000000 in
theorem post_any (R p : Nat) (f : Nat → Int → Int) (w : World) (h : IsRdr w R p f) (hp : p ≤ 700000) :
    Calls Try.prog 70 #[.pointer (some ⟨R, 0, none⟩)] w (DrewP R p f w) := by
  have hR := h.lt
  go_enter Try.func70, Try.ntmps70
  go_wp2_with fail
  refine (net_any R p f _ h (by omega)).mono ?_
  rintro e w1 ⟨n, A, c, p1, net, rfl, hn1, hn2, hln, hlr, hrd1, hp11, hp12, hr1, hg1⟩
  have HLR := Lib.hid hlr
  have hz1 := hg1.size
  clear h hlr
  go_wp2_with fail
  refine (townP_any R p1 f n _ hr1 (by omega) (by omega) (by omega)).mono ?_
  rintro e w2 ⟨fr, p2, rfl, -, -, hp21, hp22, hr2, hg2⟩
  have hrd2 := hrd1.stepR hg2 hR (Nat.le_refl _)
  have hg02 := hg1.trans hg2
  have hz2 := hg02.size
  have hz12 := hg2.size
  clear hr1 hg1 hrd1 hg2
  rcases Nat.eq_zero_or_pos net.length with hz | hz
  · have HZ := Lib.hid hz
    clear hz
    have dz : decide (0 < net.length) = false := decide_eq_false (by have := HZ.out; omega)
    have b3 := drawF_bd (n := 120) hr2 (p := p2) (by omega) (by omega)
    go_wp2_with fail
    refine (pick_any 120 R (p2) f _ hr2 (by omega) (by omega) (by omega)).mono ?_
    rintro e w3 ⟨rfl, hs3⟩
    have hr3 := hs3.rdr hr2
    have hrd3 := hrd2.stepR hs3.grown hR hz12
    have hg3 := hg02.trans hs3.grown
    have hz3 := Nat.le_trans hz12 hs3.grown.size
    generalize f (p2) 120 = v3 at *
    have b4 := drawF_bd (n := 30) hr3 (p := p2 + 1) (by omega) (by omega)
    clear hs3 hr2 hg02 hrd2
    go_wp2_with fail
    refine (pick_any 30 R (p2 + 1) f _ hr3 (by omega) (by omega) (by omega)).mono ?_
    rintro e w4 ⟨rfl, hs4⟩
    have hr4 := hs4.rdr hr3
    have hrd4 := hrd3.stepR hs4.grown hR hz3
    have hg4 := hg3.trans hs4.grown
    have hz4 := Nat.le_trans hz3 hs4.grown.size
    generalize f (p2 + 1) 30 = v4 at *
    have hq0 : 0 ≤ v4.tdiv 29 ∧ v4.tdiv 29 ≤ 1 := by rw [Int.tdiv_eq_ediv_of_nonneg b4.1]; omega
    clear hs4 hr3 hg3 hrd3
    generalize hq : v4.tdiv 29 = q at *
    obtain ⟨hq1, hq2⟩ := hq0
    obtain ⟨b30, b31⟩ := b3
    have wq : IntKind.i64.wrap q = q := IntWalk.i64_in _ (by omega)
    have wq2 : IntKind.i64.wrap (q * 121) = q * 121 := IntWalk.i64_in _ (by omega)
    have wq3 : IntKind.i64.wrap (v3 - q * 121) = v3 - q * 121 := IntWalk.i64_in _ (by omega)
    go_wp2_with fail
    clear wq wq2 wq3 hq
    refine (change_any R (p2 + 1 + 1) f _ hr4 (by omega)).mono ?_
    rintro e w5 ⟨ch, p5, rfl, hc1, hc2, hp51, hp52, hr5, hg5⟩
    have hrd5 := hrd4.stepR hg5 hR hz4
    have hg05 := hg4.trans hg5
    have hz5 := Nat.le_trans hz4 hg5.size
    have HRD := Lib.hid (hrd5.more (Nat.le_refl _) hz5)
    clear hrd4 hg4 hr4 hrd5
    go_wp2_with fail
    refine bodyPost_ret (v := .tuple #[.int .i64 n, .slice A net.length c, .int .i64 fr, .int .i64 (v3 - q * 121), .int .i64 ch]) (by simp [results, Try.results70, go_sem]) rfl ?_
    exact ⟨n, _, c, fr, v3 - q * 121, ch, p5, net, rfl, hn1, hn2, hln, HLR.out, HRD.out, ⟨by omega, by omega⟩, ⟨hc1, hc2⟩, by omega, by omega, hr5, hg05⟩
  · obtain ⟨b, off, B', cc, rfl, hlo, hhi, q0, hcc, hrk⟩ := hrd2 0 hz
    have hzb : b < w2.heap.size := by omega
    have dz : decide (0 < net.length) = true := decide_eq_true hz
    have hz' : (0 : Int) < (net.length : Int) := by omega
    obtain ⟨row, hrow⟩ : ∃ row, row = net[0] := ⟨_, rfl⟩
    rw [← hrow] at q0 hcc hrk
    clear hrow
    simp only [Nat.add_zero] at q0
    rcases Nat.eq_zero_or_pos row.length with hw | hw
    · have HW := Lib.hid hw
      clear hw
      have dw : decide (0 < row.length) = false := decide_eq_false (by have := HW.out; omega)
      have b3 := drawF_bd (n := 120) hr2 (p := p2) (by omega) (by omega)
      go_wp2_with fail
      refine (pick_any 120 R (p2) f _ hr2 (by omega) (by omega) (by omega)).mono ?_
      rintro e w3 ⟨rfl, hs3⟩
      have hr3 := hs3.rdr hr2
      have hrd3 := hrd2.stepR hs3.grown hR hz12
      have hg3 := hg02.trans hs3.grown
      have hz3 := Nat.le_trans hz12 hs3.grown.size
      generalize f (p2) 120 = v3 at *
      have b4 := drawF_bd (n := 30) hr3 (p := p2 + 1) (by omega) (by omega)
      clear hs3 hr2 hg02 hrd2
      go_wp2_with fail
      refine (pick_any 30 R (p2 + 1) f _ hr3 (by omega) (by omega) (by omega)).mono ?_
      rintro e w4 ⟨rfl, hs4⟩
      have hr4 := hs4.rdr hr3
      have hrd4 := hrd3.stepR hs4.grown hR hz3
      have hg4 := hg3.trans hs4.grown
      have hz4 := Nat.le_trans hz3 hs4.grown.size
      generalize f (p2 + 1) 30 = v4 at *
      have hq0 : 0 ≤ v4.tdiv 29 ∧ v4.tdiv 29 ≤ 1 := by rw [Int.tdiv_eq_ediv_of_nonneg b4.1]; omega
      clear hs4 hr3 hg3 hrd3
      generalize hq : v4.tdiv 29 = q at *
      obtain ⟨hq1, hq2⟩ := hq0
      obtain ⟨b30, b31⟩ := b3
      have wq : IntKind.i64.wrap q = q := IntWalk.i64_in _ (by omega)
      have wq2 : IntKind.i64.wrap (q * 121) = q * 121 := IntWalk.i64_in _ (by omega)
      have wq3 : IntKind.i64.wrap (v3 - q * 121) = v3 - q * 121 := IntWalk.i64_in _ (by omega)
      go_wp2_with fail
      clear wq wq2 wq3 hq
      refine (change_any R (p2 + 1 + 1) f _ hr4 (by omega)).mono ?_
      rintro e w5 ⟨ch, p5, rfl, hc1, hc2, hp51, hp52, hr5, hg5⟩
      have hrd5 := hrd4.stepR hg5 hR hz4
      have hg05 := hg4.trans hg5
      have hz5 := Nat.le_trans hz4 hg5.size
      have HRD := Lib.hid (hrd5.more (Nat.le_refl _) hz5)
      clear hrd4 hg4 hr4 hrd5
      go_wp2_with fail
      refine bodyPost_ret (v := .tuple #[.int .i64 n, .slice (some ⟨b, off, none⟩) net.length c, .int .i64 fr, .int .i64 (v3 - q * 121), .int .i64 ch]) (by simp [results, Try.results70, go_sem]) rfl ?_
      exact ⟨n, _, c, fr, v3 - q * 121, ch, p5, net, rfl, hn1, hn2, hln, HLR.out, HRD.out, ⟨by omega, by omega⟩, ⟨hc1, hc2⟩, by omega, by omega, hr5, hg05⟩
    · have dw : decide (0 < row.length) = true := decide_eq_true hw
      have hw' : (0 : Int) < (row.length : Int) := by omega
      obtain ⟨b', off', rfl, hlo', hb', a0, a1, a2⟩ := hrk.at3 0 hw
      simp only [Nat.zero_mul, Nat.add_zero] at a0
      obtain ⟨g0, hg0⟩ : ∃ g0, g0 = row[0] := ⟨_, rfl⟩
      rw [← hg0] at a0
      clear hg0 a1 a2
      have b6 := drawF_bd (n := 2) hr2 (p := p2) (by omega) (by omega)
      go_wp2_with fail
      refine (pick_any 2 R p2 f _ hr2 (by omega) (by omega) (by omega)).mono ?_
      rintro e wk ⟨rfl, hsk⟩
      have hrk2 := hsk.rdr hr2
      have hrdk := hrd2.stepR hsk.grown hR hz12
      have hgk := hg02.trans hsk.grown
      have hzk := Nat.le_trans hz12 hsk.grown.size
      have q0k := (hsk.cell (b := b) (o := off) (by omega)).trans q0
      have a0k := (hsk.cell (b := b') (o := off') (by omega)).trans a0
      clear hr2 hrd2 hg02 hz12 hsk
      have hr2 := hrk2
      have hrd2 := hrdk
      have hg02 := hgk
      have hz12 := hzk
      clear hrk2 hrdk hgk hzk
      generalize f p2 2 = v6 at *
      by_cases hv6 : v6 = 0
      · have d : (v6 == 0) = true := by simp [hv6]
        clear hv6
        have b3 := drawF_bd (n := 120) hr2 (p := p2 + 1) (by omega) (by omega)
        go_wp2_with fail
        refine (pick_any 120 R (p2 + 1) f _ hr2 (by omega) (by omega) (by omega)).mono ?_
        rintro e w3 ⟨rfl, hs3⟩
        have hr3 := hs3.rdr hr2
        have hrd3 := hrd2.stepR hs3.grown hR hz12
        have hg3 := hg02.trans hs3.grown
        have hz3 := Nat.le_trans hz12 hs3.grown.size
        generalize f (p2 + 1) 120 = v3 at *
        have b4 := drawF_bd (n := 30) hr3 (p := p2 + 1 + 1) (by omega) (by omega)
        clear hs3 hr2 hg02 hrd2
        go_wp2_with fail
        refine (pick_any 30 R (p2 + 1 + 1) f _ hr3 (by omega) (by omega) (by omega)).mono ?_
        rintro e w4 ⟨rfl, hs4⟩
        have hr4 := hs4.rdr hr3
        have hrd4 := hrd3.stepR hs4.grown hR hz3
        have hg4 := hg3.trans hs4.grown
        have hz4 := Nat.le_trans hz3 hs4.grown.size
        generalize f (p2 + 1 + 1) 30 = v4 at *
        have hq0 : 0 ≤ v4.tdiv 29 ∧ v4.tdiv 29 ≤ 1 := by rw [Int.tdiv_eq_ediv_of_nonneg b4.1]; omega
        clear hs4 hr3 hg3 hrd3
        generalize hq : v4.tdiv 29 = q at *
        obtain ⟨hq1, hq2⟩ := hq0
        obtain ⟨b30, b31⟩ := b3
        have wq : IntKind.i64.wrap q = q := IntWalk.i64_in _ (by omega)
        have wq2 : IntKind.i64.wrap (q * 121) = q * 121 := IntWalk.i64_in _ (by omega)
        have wq3 : IntKind.i64.wrap (v3 - q * 121) = v3 - q * 121 := IntWalk.i64_in _ (by omega)
        go_wp2_with fail
        clear wq wq2 wq3 hq
        refine (change_any R (p2 + 1 + 1 + 1) f _ hr4 (by omega)).mono ?_
        rintro e w5 ⟨ch, p5, rfl, hc1, hc2, hp51, hp52, hr5, hg5⟩
        have hrd5 := hrd4.stepR hg5 hR hz4
        have hg05 := hg4.trans hg5
        have hz5 := Nat.le_trans hz4 hg5.size
        have HRD := Lib.hid (hrd5.more (Nat.le_refl _) hz5)
        clear hrd4 hg4 hr4 hrd5
        go_wp2_with fail
        refine bodyPost_ret (v := .tuple #[.int .i64 n, .slice (some ⟨b, off, none⟩) net.length c, .int .i64 g0.1, .int .i64 (v3 - q * 121), .int .i64 ch]) (by simp [results, Try.results70, go_sem]) rfl ?_
        exact ⟨n, _, c, g0.1, v3 - q * 121, ch, p5, net, rfl, hn1, hn2, hln, HLR.out, HRD.out, ⟨by omega, by omega⟩, ⟨hc1, hc2⟩, by omega, by omega, hr5, hg05⟩
      · have d : (v6 == 0) = false := by simp [hv6]
        clear hv6
        have b3 := drawF_bd (n := 120) hr2 (p := p2 + 1) (by omega) (by omega)
        go_wp2_with fail
        refine (pick_any 120 R (p2 + 1) f _ hr2 (by omega) (by omega) (by omega)).mono ?_
        rintro e w3 ⟨rfl, hs3⟩
        have hr3 := hs3.rdr hr2
        have hrd3 := hrd2.stepR hs3.grown hR hz12
        have hg3 := hg02.trans hs3.grown
        have hz3 := Nat.le_trans hz12 hs3.grown.size
        generalize f (p2 + 1) 120 = v3 at *
        have b4 := drawF_bd (n := 30) hr3 (p := p2 + 1 + 1) (by omega) (by omega)
        clear hs3 hr2 hg02 hrd2
        go_wp2_with fail
        refine (pick_any 30 R (p2 + 1 + 1) f _ hr3 (by omega) (by omega) (by omega)).mono ?_
        rintro e w4 ⟨rfl, hs4⟩
        have hr4 := hs4.rdr hr3
        have hrd4 := hrd3.stepR hs4.grown hR hz3
        have hg4 := hg3.trans hs4.grown
        have hz4 := Nat.le_trans hz3 hs4.grown.size
        generalize f (p2 + 1 + 1) 30 = v4 at *
        have hq0 : 0 ≤ v4.tdiv 29 ∧ v4.tdiv 29 ≤ 1 := by rw [Int.tdiv_eq_ediv_of_nonneg b4.1]; omega
        clear hs4 hr3 hg3 hrd3
        generalize hq : v4.tdiv 29 = q at *
        obtain ⟨hq1, hq2⟩ := hq0
        obtain ⟨b30, b31⟩ := b3
        have wq : IntKind.i64.wrap q = q := IntWalk.i64_in _ (by omega)
        have wq2 : IntKind.i64.wrap (q * 121) = q * 121 := IntWalk.i64_in _ (by omega)
        have wq3 : IntKind.i64.wrap (v3 - q * 121) = v3 - q * 121 := IntWalk.i64_in _ (by omega)
        go_wp2_with fail
        clear wq wq2 wq3 hq
        refine (change_any R (p2 + 1 + 1 + 1) f _ hr4 (by omega)).mono ?_
        rintro e w5 ⟨ch, p5, rfl, hc1, hc2, hp51, hp52, hr5, hg5⟩
        have hrd5 := hrd4.stepR hg5 hR hz4
        have hg05 := hg4.trans hg5
        have hz5 := Nat.le_trans hz4 hg5.size
        have HRD := Lib.hid (hrd5.more (Nat.le_refl _) hz5)
        clear hrd4 hg4 hr4 hrd5
        go_wp2_with fail
        refine bodyPost_ret (v := .tuple #[.int .i64 n, .slice (some ⟨b, off, none⟩) net.length c, .int .i64 fr, .int .i64 (v3 - q * 121), .int .i64 ch]) (by simp [results, Try.results70, go_sem]) rfl ?_
        exact ⟨n, _, c, fr, v3 - q * 121, ch, p5, net, rfl, hn1, hn2, hln, HLR.out, HRD.out, ⟨by omega, by omega⟩, ⟨hc1, hc2⟩, by omega, by omega, hr5, hg05⟩

end Go.Proofs.Ytdiichfdffhdaaa

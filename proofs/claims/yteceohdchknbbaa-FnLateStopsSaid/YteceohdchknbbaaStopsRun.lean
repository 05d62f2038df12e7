/-
  Contracts of the program's StopsWait and StopsRun.
-/
import Derived.Test.YteceohdchknbbaaStopsI
import Derived.Test.YteceohdchknbbaaLateMath
import Derived.Deep.RegionHeld3
import Derived.Deep.LoopGhost
namespace Go.Proofs.Yteceohdchknbbaa
open Go.RowKit

def durS (s : T3) : Int := s.2.2 - s.2.1
def waitS (n : Int) (l : List T3) : Int := if stopsB n l then sumI (((l.drop 1).take (l.length - 2)).map durS) else -1
def runS (n : Int) (l : List T3) : Int := if stopsB n l then (l.getD (l.length - 1) (0, 0, 0)).2.1 - (l.getD 0 (0, 0, 0)).2.2 else -1
theorem chain_at {w : World} {lo hi : Nat} {q : Option Addr} {l : List T3} {k : Nat} (h : Chain w lo hi q (l.drop k)) (hk : k < l.length) :
    ∃ b q', q = some ⟨b, 0, none⟩ ∧ lo ≤ b ∧ b < hi ∧ w.cell? ⟨b, 0, none⟩ = some (.int .i64 l[k].1) ∧ w.cell? ⟨b, 1, none⟩ = some (.int .i64 l[k].2.1) ∧ w.cell? ⟨b, 2, none⟩ = some (.int .i64 l[k].2.2) ∧ w.cell? ⟨b, 3, none⟩ = some (.pointer q') ∧ Chain w lo hi q' (l.drop (k + 1)) := by
  rw [List.drop_eq_getElem_cons hk] at h; exact h
theorem chain_end {w : World} {lo hi : Nat} {q : Option Addr} {l : List T3} {k : Nat} (h : Chain w lo hi q (l.drop k)) (hk : ¬ k < l.length) : q = none := by
  rw [List.drop_eq_nil_of_le (by omega)] at h; exact h
theorem wait_step (l : List T3) (k : Nat) (h1 : 1 ≤ k) (hk : k < l.length) : sumI (((l.drop 1).take (k + 1 - 1)).map durS) = sumI (((l.drop 1).take (k - 1)).map durS) + (l[k].2.2 - l[k].2.1) := by
  obtain ⟨j, rfl⟩ : ∃ j, k = j + 1 := ⟨k - 1, by omega⟩
  simp only [Nat.add_sub_cancel]
  rw [List.take_succ_eq_append_getElem (by rw [List.length_drop]; omega), List.map_append, List.map_cons, List.map_nil, sumI_snoc]
  simp [durS, Nat.add_comm]
set_option maxHeartbeats 2000000 in
theorem iStopsWait (n : Int) (A : Option Addr) (c lo hi : Nat) (l : List T3) (w : World) (hl : l.length ≤ 1048576) (hr : Rd w lo hi A (flat3 l)) (hh : hi ≤ w.heap.size) :
    Calls Try.prog 20 #[.int .i64 n, .slice A l.length c] w fun e w' => e = .returned (.int .i64 (waitS n l)) ∧ Below w.heap.size w w' := by
  go_enter Try.func20, Try.ntmps20
  go_wp2_with fail
  refine (linkStops_any n _ _ _ _ l _ hl hr hh).mono ?_
  rintro e w1 ⟨p, rfl, hb1, ⟨hv, hc⟩ | ⟨hv, rfl⟩⟩
  · have HV := Lib.hid hv
    have HW := Lib.hid (show waitS n l = sumI (((l.drop 1).take (l.length - 2)).map durS) by simp [waitS, hv])
    obtain ⟨_, _, hl2, hl8⟩ := stopsB_n hv
    clear hv
    obtain ⟨b0, q0, rfl, hlo0, hhi0, d0, d1, d2, d3, hc1⟩ := chain_at (k := 0) (by simpa using hc) (by omega)
    clear hc
    obtain ⟨b1, q1, rfl, hlo1, hhi1, e0, e1, e2, e3, hc2⟩ := chain_at hc1 (by omega)
    have HC1 := Lib.hid hc1
    clear hc1 e0 e1 e2 e3 hc2
    go_wp2_with fail
    go_loopg [6, 7] l.length (fun g s i wr => ∃ (k q : Nat) (Q : Option Addr), g + k = l.length + 1 ∧ 1 ≤ k ∧ k < l.length ∧ i = .pointer Q ∧ Chain w1 w.heap.size w1.heap.size Q (l.drop k) ∧ s = .int .i64 (sumI (((l.drop 1).take (k - 1)).map durS)) ∧ 0 ≤ sumI (((l.drop 1).take (k - 1)).map durS) ∧ sumI (((l.drop 1).take (k - 1)).map durS) ≤ 10000 * (k - 1) ∧ wr = w1.drewN q)
    case atStart => exact ⟨1, 0, _, by omega, by omega, by omega, rfl, HC1.out, by simp [sumI_nil], by simp [sumI_nil], by simp [sumI_nil], rfl⟩
    case round =>
      obtain ⟨k, q, Q, hgk, hk1, hk2, rfl, hck, rfl, hs0, hs1, rfl⟩ := hrel
      obtain ⟨b, q', rfl, hlo, hhi, c0, c1, c2, c3, hc'⟩ := chain_at hck hk2
      have hget := stopsB_get HV.out k hk2
      have HGK := Lib.hid hgk
      clear hck hgk
      by_cases hn : k + 1 < l.length
      · obtain ⟨b3, q3, rfl, -, -, -, -, -, -, -⟩ := chain_at hc' hn
        have hst := Lib.hid (wait_step l k hk1 hk2)
        have HC := Lib.hid hc'
        clear hc'
        generalize sumI (((l.drop 1).take (k - 1)).map durS) = sm at *
        generalize l[k] = x at *
        have hx : 0 ≤ x.2.2 - x.2.1 ∧ x.2.2 - x.2.1 ≤ 10000 := by omega
        obtain ⟨hx1, hx2⟩ := hx
        have h4 : 0 ≤ x.2.1 ∧ x.2.1 ≤ 10000 ∧ 0 ≤ x.2.2 ∧ x.2.2 ≤ 10000 := by omega
        obtain ⟨h41, h42, h43, h44⟩ := h4
        have hsm : sm ≤ 80000 := by omega
        have p1 : IntKind.i64.wrap (x.2.2 - x.2.1) = x.2.2 - x.2.1 := IntWalk.i64_in _ (by omega)
        have p2 : IntKind.i64.wrap (sm + (x.2.2 - x.2.1)) = sm + (x.2.2 - x.2.1) := IntWalk.i64_in _ (by omega)
        clear hget
        go_wp2_with fail
        go_quiet (fail)
        clear p1 p2
        go_wp2_with fail
        go_roundg (gk - 1)
        case rel => exact ⟨k + 1, _, _, by have := HGK.out; omega, by omega, hn, rfl, HC.out, by rw [hst.out], by rw [hst.out]; omega, by rw [hst.out]; omega, rfl⟩
        case measure => have := HGK.out; omega
      · obtain rfl := chain_end hc' hn
        have hres := Lib.hid (show sumI (((l.drop 1).take (k - 1)).map durS) = waitS n l by rw [HW.out]; congr 3; omega)
        generalize sumI (((l.drop 1).take (k - 1)).map durS) = sm at *
        go_wp2_with fail
        go_ret
        exact ⟨ret_int hres.out, below_drewN hb1 _⟩
  · have HV := Lib.hid (show waitS n l = -1 by simp [waitS, hv])
    clear hv
    go_wp2_with fail
    go_ret
    exact ⟨ret_int HV.out.symm, hb1⟩
set_option maxHeartbeats 2000000 in
theorem iLast_any (b lo hi : Nat) (l : List T3) (w : World) (hl : 1 ≤ l.length) (hl8 : l.length ≤ 8) (hc : Chain w lo hi (some ⟨b, 0, none⟩) l) (hh : hi ≤ w.heap.size) (x : T3) (hx : x = l[l.length - 1]) :
    Calls Try.prog 72 #[.pointer (some ⟨b, 0, none⟩)] w fun e w' => e = .returned (.agg #[.int .i64 x.1, .int .i64 x.2.1, .int .i64 x.2.2]) ∧ Below w.heap.size w w' := by
  have HC := Lib.hid hc
  have HX := Lib.hid hx
  clear hc hx
  go_enter Try.func72, Try.ntmps72
  go_wp2_with fail
  go_loopg [0] l.length (fun g i wr => ∃ (k : Nat) (Q : Option Addr), g + k = l.length ∧ k < l.length ∧ i = .pointer Q ∧ Chain w lo hi Q (l.drop k) ∧ wr = w.alloc (.cells #[.int .i64 0, .int .i64 0, .int .i64 0] 31))
  case atStart => exact ⟨0, _, by omega, by omega, rfl, by simpa using HC.out, rfl⟩
  case round =>
    obtain ⟨k, Q, hgk, hk, rfl, hck, rfl⟩ := hrel
    obtain ⟨b1, q', rfl, hlo, hhi, c0, c1, c2, c3, hc'⟩ := chain_at hck hk
    have hbw : b1 < w.heap.size := by omega
    have HGK := Lib.hid hgk
    clear hck hgk
    by_cases hn : k + 1 < l.length
    · obtain ⟨b3, q3, rfl, -, -, -, -, -, -, -⟩ := chain_at hc' hn
      have HC' := Lib.hid hc'
      clear hc' c0 c1 c2
      go_wp2_with fail
      go_roundg (gk - 1)
      case rel => exact ⟨k + 1, _, by have := HGK.out; omega, hn, rfl, HC'.out, rfl⟩
      case measure => have := HGK.out; omega
    · obtain rfl := chain_end hc' hn
      have e : l[k] = x := by rw [HX.out]; congr 1; omega
      rw [e] at c0 c1 c2
      clear e
      go_wp2_with fail
      refine bodyPost_ret (v := .agg #[.int .i64 x.1, .int .i64 x.2.1, .int .i64 x.2.2]) (by simp [results, Try.results72, go_sem]) rfl ⟨rfl, ?_⟩
      (repeat (first | exact Below.refl _ _ | assumption | apply below_alloc | apply below_drewN | apply Below.drew | refine Below.setCell ?_ (by simp; try omega) _))
set_option maxHeartbeats 2000000 in
theorem iStopsRun (n : Int) (A : Option Addr) (c lo hi : Nat) (l : List T3) (w : World) (hl : l.length ≤ 1048576) (hr : Rd w lo hi A (flat3 l)) (hh : hi ≤ w.heap.size) :
    Calls Try.prog 55 #[.int .i64 n, .slice A l.length c] w fun e w' => e = .returned (.int .i64 (runS n l)) ∧ Below w.heap.size w w' := by
  go_enter Try.func55, Try.ntmps55
  go_wp2_with fail
  refine (linkStops_any n _ _ _ _ l _ hl hr hh).mono ?_
  rintro e w1 ⟨p, rfl, hb1, ⟨hv, hc⟩ | ⟨hv, rfl⟩⟩
  · obtain ⟨_, _, hl2, hl8⟩ := stopsB_n hv
    have HW := Lib.hid (show runS n l = l[l.length - 1].2.1 - l[0].2.2 by
      rw [runS, if_pos hv, List.getD_eq_getElem?_getD, List.getD_eq_getElem?_getD, List.getElem?_eq_getElem (by omega), List.getElem?_eq_getElem (by omega)]; rfl)
    have g0 := stopsB_get hv 0 (by omega)
    have g1 := stopsB_get hv (l.length - 1) (by omega)
    have HV := Lib.hid hv
    clear hv
    obtain ⟨b0, q0, rfl, hlo0, hhi0, d0, d1, d2, d3, hc1⟩ := chain_at (k := 0) (by simpa using hc) (by omega)
    obtain ⟨x, hx⟩ : ∃ x, x = l[l.length - 1] := ⟨_, rfl⟩
    obtain ⟨y, hy⟩ : ∃ y, y = l[0].2.2 := ⟨_, rfl⟩
    rw [← hx] at g1
    rw [← hy] at d2 g0
    have hres := Lib.hid (show runS n l = x.2.1 - y by rw [HW.out, hx, hy])
    have HX := Lib.hid hx
    have HC := Lib.hid hc
    have hy0 : 0 ≤ y ∧ y ≤ 10000 := by omega
    have hx0 : 0 ≤ x.2.1 ∧ x.2.1 ≤ 10000 := by omega
    obtain ⟨hy0, hy1⟩ := hy0
    obtain ⟨hx0, hx1⟩ := hx0
    have p1 : IntKind.i64.wrap (x.2.1 - y) = x.2.1 - y := IntWalk.i64_in _ (by omega)
    have hfld : ∀ W : World, (Instr.field 31 (.agg #[.int .i64 x.1, .int .i64 x.2.1, .int .i64 x.2.2]) 1).run Try.prog W = .ok (.int .i64 x.2.1) W := fun _ => by kernel_rfl
    clear hx hy hc1 d0 d1 d3 g0 g1 hc
    go_wp2_with fail
    go_region_held3 (fun w' => w'.cell? ⟨b0, 2, none⟩ = some (.int .i64 y)) (go_keep)
      (first | (go_at_call 72; refine (iLast_any b0 _ _ l w1.drew (by omega) hl8 (HC.out.keep fun _ _ _ _ => rfl) (by simp) x HX.out).mono ?_; rintro e w2 ⟨rfl, hb2'⟩; have hb2 := below_of_drew hb2'; have hcb : ∀ b o, b < w1.heap.size → w2.cell? ⟨b, o, none⟩ = w1.cell? ⟨b, o, none⟩ := cell_below hb2))
    have hb3 : Below w.heap.size w w2 := hb1.trans (hb2.mono hb1.size)
    clear hcb
    go_wp2_with fail
    go_ret
    exact ⟨ret_int hres.out.symm, hb3⟩
  · have HV := Lib.hid (show runS n l = -1 by simp [runS, hv])
    clear hv
    go_wp2_with fail
    go_ret
    exact ⟨ret_int HV.out.symm, hb1⟩

end Go.Proofs.Yteceohdchknbbaa

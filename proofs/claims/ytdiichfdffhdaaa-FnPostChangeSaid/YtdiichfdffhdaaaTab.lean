/-
  Contracts of the program's postTable: reach, canTake, the search of a stop in a town.
-/
import Derived.Test.YtdiichfdffhdaaaPostMath
import Derived.Test.YtdiichfdffhdaaaApart
import Derived.Deep.RegionHeld3
namespace Go.Proofs.Ytdiichfdffhdaaa
open Go.RowKit

/-- A postTable in block P, its times in block g. -/
structure PTw (w : World) (P g cap hi : Nat) (A : Option Addr) (c : Nat) (net : Net) (n : Int) (f ch : Int) (T : List Int) : Prop where
  lt : P < w.heap.size
  c0 : w.cell? ⟨P, 0, none⟩ = some (.slice A net.length c)
  c1 : w.cell? ⟨P, 1, none⟩ = some (.int .i64 f)
  c2 : w.cell? ⟨P, 2, none⟩ = some (.int .i64 ch)
  c3 : w.cell? ⟨P, 3, none⟩ = some (.slice (some ⟨g, 0, none⟩) n.toNat cap)
  own : w.ownsRow g 3 1 (.slice (some ⟨g, 0, none⟩) n.toNat cap) n.toNat (ints T)
  rd : RdN w 0 hi A net
  hg : hi ≤ g
  hP : P ≠ g
  ok : TabOk n T
section
variable {w w' : World} {P g cap hi : Nat} {A : Option Addr} {c : Nat} {net : Net} {n f ch : Int} {T : List Int}
theorem PTw.glt (h : PTw w P g cap hi A c net n f ch T) : g < w.heap.size := (own_lt h.own).2
theorem PTw.below (h : PTw w P g cap hi A c net n f ch T) (hb : Below w.heap.size w w') : PTw w' P g cap hi A c net n f ch T :=
  ⟨Nat.lt_of_lt_of_le h.lt hb.size, (hb.cell h.lt).trans h.c0, (hb.cell h.lt).trans h.c1, (hb.cell h.lt).trans h.c2, (hb.cell h.lt).trans h.c3, own_below h.own hb, h.rd.below hb (by have := h.glt; have := h.hg; omega), h.hg, h.hP, h.ok⟩
theorem PTw.set (h : PTw w P g cap hi A c net n f ch T) (k : Nat) {x : Int} (hx : -1 ≤ x ∧ x ≤ 10000) : PTw (w.setCell ⟨g, k, none⟩ (.int .i64 x)) P g cap hi A c net n f ch (T.set k x) := by
  have hne : ∀ o, (w.setCell ⟨g, k, none⟩ (.int .i64 x)).cell? ⟨P, o, none⟩ = w.cell? ⟨P, o, none⟩ := fun o => World.cell?_setCell_other _ _ _ _ (fun e => by injection e with e1; exact h.hP e1.symm)
  refine ⟨by simpa using h.lt, (hne _).trans h.c0, (hne _).trans h.c1, (hne _).trans h.c2, (hne _).trans h.c3, ?_, h.rd.keep fun p _ hp => World.cell?_setCell_other _ _ _ _ (fun e => by have := h.hg; have hp' : g < hi := by { rw [← e] at hp; exact hp }; omega), h.hg, h.hP, h.ok.set k hx⟩
  have := (h.own.stored k (.int .i64 x)).1
  rw [show (ints T).set k (.int .i64 x) = ints (T.set k x) by simp [ints, List.map_set]] at this
  exact this
theorem PTw.get (h : PTw w P g cap hi A c net n f ch T) {v : Int} (h0 : 0 ≤ v) (h1 : v < n) : w.cell? ⟨g, v.toNat, none⟩ = some (.int .i64 (tg T v)) := by
  have hl : v.toNat < T.length := by rw [h.ok.1]; omega
  obtain ⟨b, off, e, _, _, hc⟩ := (Rd.of_own h.own).at1 v.toNat hl
  injection e with e; injection e with e1 e2; subst e1 e2
  rw [tg_get h0 hl]; simpa using hc
theorem PTw.grown (h : PTw w P g cap hi A c net n f ch T) (k : Nat) (u : Value) : w.grownBy (w.setCell ⟨g, k, none⟩ u) (some g) :=
  ⟨rfl, rfl, rfl, by simp, fun j _ hj => Below.heap_setCell _ _ _ _ (fun e => hj (by rw [e]))⟩
end

set_option maxHeartbeats 1000000 in
theorem reach_no {w : World} {P g cap hi : Nat} {A : Option Addr} {c : Nat} {net : Net} {n f ch : Int} {T : List Int} (town time : Int) (h : PTw w P g cap hi A c net n f ch T) (h0 : 0 ≤ town) (h1 : town < n) (hn : n ≤ 8) (hv0 : 0 ≤ tg T town) (hv1 : tg T town ≤ time) :
    Calls Try.prog 84 #[.pointer (some ⟨P, 0, none⟩), .int .i64 town, .int .i64 time] w fun e w' => e = .returned (.bool false) ∧ w = w' := by
  have c3 := h.c3
  have cg := h.get h0 h1
  have hP := h.lt
  have hgl := h.glt
  have hlt : town < ((n.toNat : Nat) : Int) := by omega
  clear h
  generalize tg T town = x at *
  generalize n.toNat = m at *
  clear h1 hn
  go_enter Try.func84, Try.ntmps84
  go_wp2
  go_ret
  exact ⟨rfl, rfl⟩
set_option maxHeartbeats 1000000 in
theorem reach_yes {w : World} {P g cap hi : Nat} {A : Option Addr} {c : Nat} {net : Net} {n f ch : Int} {T : List Int} (town time : Int) (h : PTw w P g cap hi A c net n f ch T) (h0 : 0 ≤ town) (h1 : town < n) (hn : n ≤ 8) (hv : tg T town < 0 ∨ time < tg T town) :
    Calls Try.prog 84 #[.pointer (some ⟨P, 0, none⟩), .int .i64 town, .int .i64 time] w fun e w' => e = .returned (.bool true) ∧ w.setCell ⟨g, town.toNat, none⟩ (.int .i64 time) = w' := by
  have c3 := h.c3
  have cg := h.get h0 h1
  have hP := h.lt
  have hgl := h.glt
  have hfz := h.own.frozenAt town.toNat
  have hlt : town < ((n.toNat : Nat) : Int) := by omega
  clear h
  generalize tg T town = x at *
  generalize n.toNat = m at *
  clear h1 hn
  by_cases hx : 0 ≤ x
  · have hx2 : time < x := by omega
    clear hv
    go_enter Try.func84, Try.ntmps84
    go_wp2
    go_ret
    exact ⟨rfl, rfl⟩
  · have hd : decide (0 ≤ x) = false := decide_eq_false hx
    clear hv hx
    go_enter Try.func84, Try.ntmps84
    go_wp2
    go_ret
    exact ⟨rfl, rfl⟩

set_option maxHeartbeats 2000000 in
theorem canTake_any {w : World} {P g cap hi : Nat} {A : Option Addr} {c : Nat} {net : Net} {n f ch : Int} {T : List Int} (s : T3) (h : PTw w P g cap hi A c net n f ch T) (h0 : 0 ≤ s.1) (h1 : s.1 < n) (hn : n ≤ 8) (hc0 : 0 ≤ ch) (hc1 : ch ≤ 300) :
    Calls Try.prog 87 #[.pointer (some ⟨P, 0, none⟩), .agg #[.int .i64 s.1, .int .i64 s.2.1, .int .i64 s.2.2]] w fun e w' => e = .returned (.bool (rdyB T f ch s)) ∧ Below w.heap.size w w' := by
  have c3 := h.c3
  have c1 := h.c1
  have c2 := h.c2
  have cg := h.get h0 h1
  have hP := h.lt
  have hgl := h.glt
  have hlt : s.1 < ((n.toNat : Nat) : Int) := by omega
  have htg := h.ok.tg h0 h1
  have HR := Lib.hid (show rdyB T f ch s = decide (0 ≤ tg T s.1 ∧ tg T s.1 + chg f ch s.1 ≤ s.2.2) from rfl)
  clear h
  generalize tg T s.1 = x at *
  generalize n.toNat = m at *
  obtain ⟨x0, x1⟩ := htg
  clear h1 hn
  by_cases hx : x < 0
  · have hres := Lib.hid (show rdyB T f ch s = false by rw [HR.out]; exact decide_eq_false (by omega))
    go_enter Try.func87, Try.ntmps87
    go_wp2
    go_quiet (fail)
    go_wp2
    go_ret
    exact ⟨ret_bool hres.out.symm, by (repeat (first | exact Below.refl _ _ | assumption | apply below_alloc | apply below_drewN | apply Below.drew | refine Below.setCell ?_ (by simp; try omega) _))⟩
  · have hx0 : 0 ≤ x := by omega
    clear hx
    by_cases hs : s.1 = f
    · have hres := Lib.hid (show rdyB T f ch s = decide (x ≤ s.2.2) by rw [HR.out, chg, if_pos hs, decide_eq_decide]; omega)
      have hd : (s.1 != f) = false := by simp [hs]
      clear hs
      go_enter Try.func87, Try.ntmps87
      go_wp2
      go_quiet (fail)
      go_wp2
      go_quiet (fail)
      go_wp2
      go_ret
      exact ⟨ret_bool hres.out.symm, by (repeat (first | exact Below.refl _ _ | assumption | apply below_alloc | apply below_drewN | apply Below.drew | refine Below.setCell ?_ (by simp; try omega) _))⟩
    · have hres := Lib.hid (show rdyB T f ch s = decide (x + ch ≤ s.2.2) by rw [HR.out, chg, if_neg hs, decide_eq_decide]; omega)
      have hd : (s.1 != f) = true := by simp [hs]
      clear hs
      go_enter Try.func87, Try.ntmps87
      go_wp2
      go_quiet (fail)
      go_wp2
      go_quiet (fail)
      go_wp2
      go_ret
      exact ⟨ret_bool hres.out.symm, by (repeat (first | exact Below.refl _ _ | assumption | apply below_alloc | apply below_drewN | apply Below.drew | refine Below.setCell ?_ (by simp; try omega) _))⟩

set_option maxHeartbeats 1000000 in
theorem cloTown_any (s : T3) (b : Nat) (town : Int) (w : World) (hc : w.cell? ⟨b, 0, none⟩ = some (.int .i64 town)) (hb : b < w.heap.size) :
    Calls Try.prog 100 #[.agg #[.int .i64 s.1, .int .i64 s.2.1, .int .i64 s.2.2], .pointer (some ⟨b, 0, none⟩)] w fun e w' => e = .returned (.bool (decide (s.1 = town))) ∧ Below w.heap.size w w' := by
  have hd := Lib.hid (show (s.1 == town) = decide (s.1 = town) from rfl)
  go_enter Try.func100, Try.ntmps100
  go_wp2
  go_ret
  exact ⟨ret_bool hd.out, by (repeat (first | exact Below.refl _ _ | assumption | apply below_alloc | apply below_drewN | apply Below.drew | refine Below.setCell ?_ (by simp; try omega) _))⟩

set_option maxHeartbeats 2000000 in
theorem indexTown_any (A : Option Addr) (c lo hi : Nat) (l : List T3) (b : Nat) (town : Int) (w : World) (hl : l.length ≤ 1048576) (hr : Rd w lo hi A (flat3 l)) (hh : hi ≤ w.heap.size) (hc : w.cell? ⟨b, 0, none⟩ = some (.int .i64 town)) (hb : b < w.heap.size) :
    Calls Try.prog 85 #[.slice A l.length c, .func (.func 100) #[] #[.pointer (some ⟨b, 0, none⟩)]] w fun e w' => e = .returned (.int .i64 (atL town l)) ∧ Below w.heap.size w w' := by
  go_enter Try.func85, Try.ntmps85
  go_wp2_with fail
  go_loopw [8] (fun i wr => ∃ k : Nat, k ≤ l.length ∧ i = .int .i64 k ∧ Hid (atL town l = atFrom town k (l.drop k)) ∧ Below w.heap.size w wr) (fun i _ => l.length - (intOf i).toNat)
  case atStart => exact ⟨0, Nat.zero_le _, rfl, by simp [Hid, atL], Below.refl _ _⟩
  case round =>
    obtain ⟨k, hk, rfl, H, hbl⟩ := hrel
    by_cases hlt : k < l.length
    · obtain ⟨b', off, rfl, hlo, hhi, c0, c1, c2⟩ := (hr.below hbl hh).at3 k hlt
      obtain ⟨x, hx⟩ : ∃ x, x = l[k] := ⟨_, rfl⟩
      rw [← hx] at c0 c1 c2
      have HX := Lib.hid hx
      have hcb := (hbl.cell (p := ⟨b, 0, none⟩) hb).trans hc
      have hbs := hbl.size
      clear hx hc
      go_wp2_with fail
      refine (cloTown_any x b town _ hcb (by omega)).mono ?_
      rintro e w2 ⟨rfl, hb2⟩
      have hb12 := hbl.trans (hb2.mono hbs)
      by_cases hxt : x.1 = town
      · have hres := Lib.hid (show atL town l = k by rw [H.out, atFrom_here town l k hlt (by rw [← HX.out]; exact hxt)])
        have hd : decide (x.1 = town) = true := decide_eq_true hxt
        clear hxt
        go_wp2_with fail
        go_ret
        exact ⟨ret_int hres.out.symm, hb12⟩
      · have hres := Lib.hid (show atL town l = atFrom town (k + 1) (l.drop (k + 1)) by rw [H.out, atFrom_drop town l k hlt (by rw [← HX.out]; exact hxt)])
        have hd : decide (x.1 = town) = false := decide_eq_false hxt
        clear hxt
        go_wp2_with fail
        go_roundw
        case rel => exact ⟨k + 1, by omega, by go_num, hres, hb12⟩
        case measure => simp [intOf]; omega
    · have hres := Lib.hid (show atL town l = -1 by rw [H.out, List.drop_eq_nil_of_le (by omega)]; rfl)
      go_wp2_with fail
      go_ret
      exact ⟨ret_int hres.out.symm, hbl⟩

end Go.Proofs.Ytdiichfdffhdaaa

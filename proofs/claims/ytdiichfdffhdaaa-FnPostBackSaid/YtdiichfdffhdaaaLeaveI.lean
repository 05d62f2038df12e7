/-
  Contracts of the program's leaveTable: inTime, rides, spread.
-/
import Derived.Test.YtdiichfdffhdaaaLeaveMath
import Derived.Test.YtdiichfdffhdaaaRides
namespace Go.Proofs.Ytdiichfdffhdaaa
open Go.RowKit

/-- A leaveTable in block P, its times in block g. -/
structure LTw (w : World) (P g cap hi : Nat) (A : Option Addr) (c : Nat) (net : Net) (n : Int) (last till ch : Int) (T : List Int) : Prop where
  lt : P < w.heap.size
  c0 : w.cell? ⟨P, 0, none⟩ = some (.slice A net.length c)
  c1 : w.cell? ⟨P, 1, none⟩ = some (.int .i64 last)
  c2 : w.cell? ⟨P, 2, none⟩ = some (.int .i64 till)
  c3 : w.cell? ⟨P, 3, none⟩ = some (.int .i64 ch)
  c4 : w.cell? ⟨P, 4, none⟩ = some (.slice (some ⟨g, 0, none⟩) n.toNat cap)
  own : w.ownsRow g 3 1 (.slice (some ⟨g, 0, none⟩) n.toNat cap) n.toNat (ints T)
  rd : RdN w 0 hi A net
  hg : hi ≤ g
  hP : P ≠ g
  ok : TabOk n T
section
variable {w w' : World} {P g cap hi : Nat} {A : Option Addr} {c : Nat} {net : Net} {n last till ch : Int} {T : List Int}
theorem LTw.glt (h : LTw w P g cap hi A c net n last till ch T) : g < w.heap.size := (own_lt h.own).2
theorem LTw.below (h : LTw w P g cap hi A c net n last till ch T) (hb : Below w.heap.size w w') : LTw w' P g cap hi A c net n last till ch T :=
  ⟨Nat.lt_of_lt_of_le h.lt hb.size, (hb.cell h.lt).trans h.c0, (hb.cell h.lt).trans h.c1, (hb.cell h.lt).trans h.c2, (hb.cell h.lt).trans h.c3, (hb.cell h.lt).trans h.c4, own_below h.own hb, h.rd.below hb (by have := h.glt; have := h.hg; omega), h.hg, h.hP, h.ok⟩
theorem LTw.set (h : LTw w P g cap hi A c net n last till ch T) (k : Nat) {x : Int} (hx : -1 ≤ x ∧ x ≤ 10000) : LTw (w.setCell ⟨g, k, none⟩ (.int .i64 x)) P g cap hi A c net n last till ch (T.set k x) := by
  have hne : ∀ o, (w.setCell ⟨g, k, none⟩ (.int .i64 x)).cell? ⟨P, o, none⟩ = w.cell? ⟨P, o, none⟩ := fun o => World.cell?_setCell_other _ _ _ _ (fun e => by injection e with e1; exact h.hP e1.symm)
  refine ⟨by simpa using h.lt, (hne _).trans h.c0, (hne _).trans h.c1, (hne _).trans h.c2, (hne _).trans h.c3, (hne _).trans h.c4, ?_, h.rd.keep fun p _ hp => World.cell?_setCell_other _ _ _ _ (fun e => by have := h.hg; have hp' : g < hi := by { rw [← e] at hp; exact hp }; omega), h.hg, h.hP, h.ok.set k hx⟩
  have := (h.own.stored k (.int .i64 x)).1
  rw [show (ints T).set k (.int .i64 x) = ints (T.set k x) by simp [ints, List.map_set]] at this
  exact this
theorem LTw.get (h : LTw w P g cap hi A c net n last till ch T) {v : Int} (h0 : 0 ≤ v) (h1 : v < n) : w.cell? ⟨g, v.toNat, none⟩ = some (.int .i64 (tg T v)) := by
  have hl : v.toNat < T.length := by rw [h.ok.1]; omega
  obtain ⟨b, off, e, _, _, hc⟩ := (Rd.of_own h.own).at1 v.toNat hl
  injection e with e; injection e with e1 e2; subst e1 e2
  rw [tg_get h0 hl]; simpa using hc
theorem LTw.grown (_h : LTw w P g cap hi A c net n last till ch T) (k : Nat) (u : Value) : w.grownBy (w.setCell ⟨g, k, none⟩ u) (some g) :=
  ⟨rfl, rfl, rfl, by simp, fun j _ hj => Below.heap_setCell _ _ _ _ (fun e => hj (by rw [e]))⟩
theorem LTw.drewN (h : LTw w P g cap hi A c net n last till ch T) (q : Nat) : LTw (w.drewN q) P g cap hi A c net n last till ch T := ⟨h.lt, h.c0, h.c1, h.c2, h.c3, h.c4, h.own, h.rd, h.hg, h.hP, h.ok⟩
end

set_option maxHeartbeats 2000000 in
theorem inTime_any {w : World} {P g cap hi : Nat} {A : Option Addr} {c : Nat} {net : Net} {n last till ch : Int} {T : List Int} (s : T3) (h : LTw w P g cap hi A c net n last till ch T) (h0 : 0 ≤ s.1) (h1 : s.1 < n) (hn : n ≤ 8) (hc0 : 0 ≤ ch) (hc1 : ch ≤ 300) (hs0 : 0 ≤ s.2.1) (hs1 : s.2.1 ≤ 10000) :
    Calls Try.prog 105 #[.pointer (some ⟨P, 0, none⟩), .agg #[.int .i64 s.1, .int .i64 s.2.1, .int .i64 s.2.2]] w fun e w' => e = .returned (.bool (inTimeB T last till ch s)) ∧ Below w.heap.size w w' := by
  have c1 := h.c1
  have c2 := h.c2
  have c3 := h.c3
  have c4 := h.c4
  have cg := h.get h0 h1
  have hP := h.lt
  have hgl := h.glt
  have hlt : s.1 < ((n.toNat : Nat) : Int) := by omega
  have htg := h.ok.tg h0 h1
  by_cases hs : s.1 = last
  · have hres := Lib.hid (show inTimeB T last till ch s = decide (s.2.1 ≤ till) by unfold inTimeB keyB thrB; rw [if_pos hs, if_pos hs, decide_eq_decide]; omega)
    have hd : (s.1 == last) = true := by simp [hs]
    clear h hs
    generalize tg T s.1 = x at *
    generalize n.toNat = m at *
    go_enter Try.func105, Try.ntmps105
    go_wp2
    go_quiet (fail)
    go_wp2
    go_quiet (fail)
    go_wp2
    go_ret
    exact ⟨ret_bool hres.out.symm, by (repeat (first | exact Below.refl _ _ | assumption | apply below_alloc | apply below_drewN | apply Below.drew | refine Below.setCell ?_ (by simp; try omega) _))⟩
  · have hres := Lib.hid (show inTimeB T last till ch s = decide (s.2.1 + ch ≤ tg T s.1) by unfold inTimeB keyB thrB; rw [if_neg hs, if_neg hs, decide_eq_decide]; omega)
    have hd : (s.1 == last) = false := by simp [hs]
    have hw : IntKind.i64.wrap (s.2.1 + ch) = s.2.1 + ch := IntWalk.i64_in _ (by omega)
    clear h hs
    generalize tg T s.1 = x at *
    generalize n.toNat = m at *
    obtain ⟨x0, x1⟩ := htg
    by_cases hx : 0 ≤ x
    · go_enter Try.func105, Try.ntmps105
      go_wp2
      go_quiet (fail)
      go_wp2
      go_quiet (fail)
      go_wp2
      go_ret
      exact ⟨ret_bool hres.out.symm, by (repeat (first | exact Below.refl _ _ | assumption | apply below_alloc | apply below_drewN | apply Below.drew | refine Below.setCell ?_ (by simp; try omega) _))⟩
    · have hres2 := Lib.hid (show inTimeB T last till ch s = false by rw [hres.out]; exact decide_eq_false (by omega))
      have hxd : decide (0 ≤ x) = false := decide_eq_false hx
      clear hx
      go_enter Try.func105, Try.ntmps105
      go_wp2
      go_quiet (fail)
      go_wp2
      go_quiet (fail)
      go_wp2
      go_ret
      exact ⟨ret_bool hres2.out.symm, by (repeat (first | exact Below.refl _ _ | assumption | apply below_alloc | apply below_drewN | apply Below.drew | refine Below.setCell ?_ (by simp; try omega) _))⟩

set_option maxHeartbeats 1000000 in
theorem cloTownL_any (s : T3) (b : Nat) (town : Int) (w : World) (hc : w.cell? ⟨b, 0, none⟩ = some (.int .i64 town)) (hb : b < w.heap.size) :
    Calls Try.prog 104 #[.agg #[.int .i64 s.1, .int .i64 s.2.1, .int .i64 s.2.2], .pointer (some ⟨b, 0, none⟩)] w fun e w' => e = .returned (.bool (decide (s.1 = town))) ∧ Below w.heap.size w w' := by
  have hd := Lib.hid (show (s.1 == town) = decide (s.1 = town) from rfl)
  go_enter Try.func104, Try.ntmps104
  go_wp2
  go_ret
  exact ⟨ret_bool hd.out, by (repeat (first | exact Below.refl _ _ | assumption | apply below_alloc | apply below_drewN | apply Below.drew | refine Below.setCell ?_ (by simp; try omega) _))⟩

set_option maxHeartbeats 2000000 in
theorem indexTownL_any (A : Option Addr) (c lo hi : Nat) (l : List T3) (b : Nat) (town : Int) (w : World) (hl : l.length ≤ 1048576) (hr : Rd w lo hi A (flat3 l)) (hh : hi ≤ w.heap.size) (hc : w.cell? ⟨b, 0, none⟩ = some (.int .i64 town)) (hb : b < w.heap.size) :
    Calls Try.prog 85 #[.slice A l.length c, .func (.func 104) #[] #[.pointer (some ⟨b, 0, none⟩)]] w fun e w' => e = .returned (.int .i64 (atL town l)) ∧ Below w.heap.size w w' := by
  go_enter Try.func85, Try.ntmps85
  go_wp2_with fail
  go_loopw [8] (fun i wr => ∃ k : Nat, k ≤ l.length ∧ i = .int .i64 k ∧ Hid (atL town l = atFrom town k (l.drop k)) ∧ Below w.heap.size w wr) (fun i _ => l.length - (intOf i).toNat)
  case atStart => exact ⟨0, Nat.zero_le _, rfl, by simp [Hid, atL], Below.refl _ _⟩
  case round =>
    obtain ⟨k, hk, rfl, H, hbl⟩ := hrel
    by_cases hlt : k < l.length
    · obtain ⟨b', off, rfl, hlo, hhi, c0, c1, c2⟩ := (hr.below hbl hh).at3 k hlt
      obtain ⟨x, hx⟩ : ∃ x, x = l[k] := ⟨_, rfl⟩
      rw [← hx] at c0 c1 c2
      have HX := Lib.hid hx
      have hcb := (hbl.cell (p := ⟨b, 0, none⟩) hb).trans hc
      have hbs := hbl.size
      clear hx hc
      go_wp2_with fail
      refine (cloTownL_any x b town _ hcb (by omega)).mono ?_
      rintro e w2 ⟨rfl, hb2⟩
      have hb12 := hbl.trans (hb2.mono hbs)
      by_cases hxt : x.1 = town
      · have hres := Lib.hid (show atL town l = k by rw [H.out, atFrom_here town l k hlt (by rw [← HX.out]; exact hxt)])
        have hd : decide (x.1 = town) = true := decide_eq_true hxt
        clear hxt
        go_wp2_with fail
        go_ret
        exact ⟨ret_int hres.out.symm, hb12⟩
      · have hres := Lib.hid (show atL town l = atFrom town (k + 1) (l.drop (k + 1)) by rw [H.out, atFrom_drop town l k hlt (by rw [← HX.out]; exact hxt)])
        have hd : decide (x.1 = town) = false := decide_eq_false hxt
        clear hxt
        go_wp2_with fail
        go_roundw
        case rel => exact ⟨k + 1, by omega, by go_num, hres, hb12⟩
        case measure => simp [intOf]; omega
    · have hres := Lib.hid (show atL town l = -1 by rw [H.out, List.drop_eq_nil_of_le (by omega)]; rfl)
      go_wp2_with fail
      go_ret
      exact ⟨ret_int hres.out.symm, hbl⟩

/-- All rides to a town that come in time, of some coaches, have been called. -/
def DoneTo (ls : Net) (town τ last ch : Int) (done : T3 → T3 → Prop) : Prop := ∀ a b, Hop ls a b → b.1 = town → τ ≤ thrB last ch b → done a b
def DoneTill (l : List T3) (m j : Nat) (done : T3 → T3 → Prop) : Prop := ∀ (a b : T3) (i : Nat), l[m]? = some b → i < m → i < j → l[i]? = some a → done a b
theorem doneTo_mono {ls : Net} {town τ last ch : Int} {done done' : T3 → T3 → Prop} (h : DoneTo ls town τ last ch done) (hd : ∀ a b, done a b → done' a b) : DoneTo ls town τ last ch done' := fun a b h1 h2 h3 => hd a b (h a b h1 h2 h3)
theorem doneTo_next {net : Net} {k : Nat} {l : List T3} {town τ last ch : Int} {done : T3 → T3 → Prop} (hlt : k < net.length) (hl : l = net[k]) (h : DoneTo (net.take k) town τ last ch done)
    (hn : ∀ (i j : Nat) (a b : T3), i < j → l[i]? = some a → l[j]? = some b → b.1 = town → τ ≤ thrB last ch b → done a b) : DoneTo (net.take (k + 1)) town τ last ch done := by
  intro a b hh ha hr
  obtain ⟨l', hl', i, j, hij, hi, hj⟩ := hh
  rw [List.take_succ_eq_append_getElem hlt, List.mem_append] at hl'
  rcases hl' with hl' | hl'
  · exact h a b ⟨l', hl', i, j, hij, hi, hj⟩ ha hr
  · simp only [List.mem_singleton] at hl'
    rw [← hl] at hl'
    subst hl'
    exact hn i j a b hij hi hj ha hr
theorem doneTo_all {net : Net} {k : Nat} {town τ last ch : Int} {done : T3 → T3 → Prop} (hlt : ¬ k < net.length) (h : DoneTo (net.take k) town τ last ch done) : DoneTo net town τ last ch done := by
  rwa [List.take_of_length_le (by omega)] at h
theorem doneTill_next {l : List T3} {m j : Nat} {done : T3 → T3 → Prop} {x y : T3} (h : DoneTill l m j done) (hx : l[m]? = some x) (hy : l[j]? = some y) : DoneTill l m (j + 1) (fun a b => done a b ∨ (a = y ∧ b = x)) := by
  intro a b i hb h1 h2 ha
  by_cases e : i = j
  · subst e
    rw [hx] at hb; rw [hy] at ha
    injection ha with ha; injection hb with hb
    exact .inr ⟨ha.symm, hb.symm⟩
  · exact .inl (h a b i hb h1 (by omega) ha)

set_option maxRecDepth 100000 in
set_option maxHeartbeats 4000000 in
theorem ridesL_any (P g cap hi : Nat) (A : Option Addr) (c : Nat) (net : Net) (n last till ch : Int) (gw bx : Nat) (town τ : Int) (J : (T3 → T3 → Prop) → World → Prop) (w : World)
    (hnet : netB n net = true) (hc0 : 0 ≤ ch) (hc1 : ch ≤ 300) (ht0 : 0 ≤ town) (ht1 : town < n) (hn : n ≤ 8) (hgw : gw < w.heap.size) (hhi : hi ≤ gw)
    (hJ : ∀ done w', J done w' → ∃ T, LTw w' P g cap hi A c net n last till ch T ∧ keyB last till T town = τ)
    (hk : ∀ done w' w'', J done w' → Below w'.heap.size w' w'' → J done w'')
    (hs : ∀ done w' a b, J done w' → Hop net a b → b.1 = town → τ ≤ thrB last ch b → bx < w'.heap.size →
      Calls Try.prog 99 #[.agg #[.int .i64 a.1, .int .i64 a.2.1, .int .i64 a.2.2], .pointer (some ⟨bx, 0, none⟩)] w' fun e w'' => (∃ v, e = .returned v) ∧ J (fun x y => done x y ∨ (x = a ∧ y = b)) w'' ∧ w'.grownBy w'' (some gw))
    (hbx : bx < w.heap.size) (h0 : J (fun _ _ => False) w) :
    Calls Try.prog 98 #[.pointer (some ⟨P, 0, none⟩), .int .i64 town, .func (.func 99) #[] #[.pointer (some ⟨bx, 0, none⟩)]] w fun e w' => (∃ v, e = .returned v) ∧ (∃ done, J done w' ∧ DoneTo net town τ last ch done) ∧ w.grownBy w' (some gw) := by
  obtain ⟨T0, hp0, -⟩ := hJ _ _ h0
  have hr := hp0.rd
  have hln := (netB_and hnet).2.1
  have c0 := hp0.c0
  have hP := hp0.lt
  have HNET := Lib.hid hnet
  have HJ := Lib.hid hJ
  have HK := Lib.hid hk
  have HS := Lib.hid hs
  clear hJ hk hs hp0 hnet
  go_enter Try.func98, Try.ntmps98
  go_wp2_with fail
  have hJ1 := HK.out _ _ _ h0 (below_alloc (Below.refl _ _) (.cells #[.int .i64 town] 3))
  go_loopw [16] (fun i wr => ∃ (k : Nat) (done : T3 → T3 → Prop), k ≤ net.length ∧ i = .int .i64 k ∧ J done wr ∧ Hid (DoneTo (net.take k) town τ last ch done) ∧ wr.cell? ⟨w.heap.size, 0, none⟩ = some (.int .i64 town) ∧ w.heap.size < wr.heap.size ∧ w.grownBy wr (some gw)) (fun i _ => net.length - (intOf i).toNat)
  case atStart => exact ⟨0, _, Nat.zero_le _, rfl, hJ1, (by intro a b hh; obtain ⟨l, hl, _⟩ := hh; simp at hl), by simp [go_sem], by simp, grown_of_below (below_alloc (Below.refl _ _) _) _⟩
  case round =>
    obtain ⟨k, done, hkl, rfl, hJk, HD, ct, hsz, hg⟩ := hrel
    clear h0 hJ1
    by_cases hlt : k < net.length
    · obtain ⟨b, off, B, cc, rfl, _, hbh, q0, hcc, hrk⟩ := (rdN_grown hr hg hhi hgw) k hlt
      have hsv := netB_mem HNET.out (List.getElem_mem hlt)
      have hl8 := (stopsB_n hsv).2.2.2
      obtain ⟨l, hl⟩ : ∃ l, l = net[k] := ⟨_, rfl⟩
      rw [← hl] at q0 hcc hrk hl8 hsv
      have HSV := Lib.hid hsv
      have HL := Lib.hid hl
      have JK := Lib.hid hJk
      clear hl hsv hJk
      go_wp2_with fail
      refine (indexTownL_any B cc _ _ l w.heap.size town _ (by omega) hrk (by omega) ct hsz).mono ?_
      rintro e w2 ⟨rfl, hb2⟩
      have J2 := Lib.hid (HK.out _ _ _ JK.out hb2)
      have ct2 := (hb2.cell (p := ⟨w.heap.size, 0, none⟩) hsz).trans ct
      have hg2 := grown_below hg hb2
      have hz2 := hb2.size
      obtain ⟨T, hp, hτ⟩ := HJ.out _ _ J2.out
      rcases atL_spec town l with ⟨ha, hno⟩ | ⟨m, hm, ha, hme⟩
      · have hnx := Lib.hid (doneTo_next hlt HL.out HD.out (fun i j a b _ _ hj he _ => absurd he (hno j b hj)))
        have hAi := Lib.hid ha
        rw [ha]
        clear ha hno hτ hp
        go_wp2_with fail
        go_roundw
        case rel => exact ⟨k + 1, done, by omega, by go_num, J2.out, hnx, ct2, by omega, hg2⟩
        case measure => simp [intOf]; omega
      · rw [ha]
        obtain ⟨b', off', rfl, _, hb', a0, a1, a2⟩ := (hrk.below hb2 (by omega)).at3 m hm
        obtain ⟨x, hx⟩ : ∃ x, x = l[m] := ⟨_, rfl⟩
        rw [← hx] at a0 a1 a2 hme
        have HX := Lib.hid hx
        have HA := Lib.hid ha
        have HT := Lib.hid hτ
        have HM := Lib.hid hme
        clear hx ha hτ hme
        have hxo := stopsB_one HSV.out (i := m) (a := x) (by rw [HX.out]; exact List.getElem?_eq_getElem hm)
        have hm0 : ¬ ((m : Int) < 0) := by omega
        have HP := Lib.hid hp
        clear hp
        go_wp2_with fail
        ((with_reducible refine (inTime_any x HP.out hxo.1 hxo.2.1 hn hc0 hc1 (by omega) (by omega)).mono ?_); rintro e w3 ⟨rfl, hb3⟩)
        have J3 := Lib.hid (HK.out _ _ _ J2.out hb3)
        have ct3 := (hb3.cell (p := ⟨w.heap.size, 0, none⟩) (show w.heap.size < _ by omega)).trans ct2
        have hg3 := grown_below hg2 hb3
        have hz3 := hb3.size
        have hrk3 := (hrk.below hb2 (by omega)).below hb3 (by omega)
        have hxl : l[m]? = some x := by rw [HX.out]; exact List.getElem?_eq_getElem hm
        have HXL := Lib.hid hxl
        have HRY := Lib.hid (show inTimeB T last till ch x = decide (τ ≤ thrB last ch x) by unfold inTimeB; rw [HM.out, HT.out])
        have HSAME := Lib.hid (show ∀ (i : Nat) (a : T3), l[i]? = some a → a.1 = town → i = m ∧ a = x by
          intro i a hi he
          have e := stopsB_inj HSV.out hi hxl (by rw [he, HM.out])
          subst e
          rw [hxl] at hi; injection hi with hi
          exact ⟨rfl, hi.symm⟩)
        clear a0 a1 a2 hxl
        cases hrd : inTimeB T last till ch x
        · have hnx := Lib.hid (doneTo_next hlt HL.out HD.out (fun i j a b _ _ hj he hr => by
            obtain ⟨_, rfl⟩ := HSAME.out j b hj he
            have := HRY.out.symm.trans hrd
            exact absurd hr (of_decide_eq_false this)))
          clear hrd
          go_wp2_with fail
          go_roundw
          case rel => exact ⟨k + 1, done, by omega, by go_num, J3.out, hnx, ct3, by omega, hg3⟩
          case measure => simp [intOf]; omega
        · have hrdy : τ ≤ thrB last ch x := of_decide_eq_true (HRY.out.symm.trans hrd)
          have HRD := Lib.hid hrdy
          clear hrd hrdy
          have hmc : m ≤ cc := by omega
          go_wp2_with fail
          go_loopw [38] (fun i wr => ∃ (j : Nat) (done' : T3 → T3 → Prop), j ≤ m ∧ i = .int .i64 j ∧ J done' wr ∧ Hid (DoneTo (net.take k) town τ last ch done') ∧ Hid (DoneTill l m j done') ∧ wr.cell? ⟨w.heap.size, 0, none⟩ = some (.int .i64 town) ∧ w3.grownBy wr (some gw)) (fun i _ => m - (intOf i).toNat)
          case atStart => exact ⟨0, done, Nat.zero_le _, rfl, J3.out, HD, (by intro a b i _ h1 h2; omega), ct3, grownBy_refl _ _⟩
          case round =>
            obtain ⟨j, done', hjl, rfl, hJj, HD', HI, ctj, hgj⟩ := hrel
            have hzj := hgj.size
            by_cases hjlt : j < m
            · have hjl' : j < l.length := by omega
              obtain ⟨b4, off4, e4, _, _, d0, d1, d2⟩ := (rd_grown hrk3 hgj hhi (by omega)).at3 j hjl'
              injection e4 with e4; injection e4 with e41 e42; subst e41 e42
              obtain ⟨y, hy⟩ : ∃ y, y = l[j] := ⟨_, rfl⟩
              rw [← hy] at d0 d1 d2
              have HY := Lib.hid (show l[j]? = some y by rw [hy]; exact List.getElem?_eq_getElem hjl')
              have JJ := Lib.hid hJj
              clear hy hJj
              go_wp2_with fail
              ((with_reducible refine (HS.out done' _ y x (HK.out _ _ _ JJ.out ?_) (hop_mk (l := l) (by rw [HL.out]; exact List.getElem_mem hlt) (show j < m by omega) HY.out HXL.out) HM.out HRD.out ?_).mono ?_))
              · (repeat (first | exact Below.refl _ _ | assumption | apply below_alloc | apply below_drewN | apply Below.drew | refine Below.setCell ?_ (by simp; try omega) _))
              · simp; omega
              · rintro e w5 ⟨⟨v, rfl⟩, hJ5, hg5⟩
                have hg35 := (hgj.trans (grown_of_below (below_alloc (Below.refl _ _) _) _)).trans hg5
                have hz5 := hg5.size
                have ct5 := (cell_grown (o := 0) hg5 (show w.heap.size < _ by simp; omega) (by omega)).trans ((cell_alloc1 (p := ⟨w.heap.size, 0, none⟩) _ (show w.heap.size < _ by omega)).trans ctj)
                have HJ5 := Lib.hid hJ5
                clear hJ5
                go_wp2_with fail
                go_roundw
                case rel => exact ⟨j + 1, _, by omega, by go_num, HJ5.out, doneTo_mono HD'.out (fun a b h => .inl h), doneTill_next HI.out HXL.out HY.out, ct5, hg35⟩
                case measure => simp [intOf]; omega
            · have hnx := Lib.hid (doneTo_next hlt HL.out HD'.out (fun i j' a b hij hi hj he hr => by
                obtain ⟨rfl, rfl⟩ := HSAME.out j' b hj he
                exact HI.out a b i hj hij (by omega) hi))
              have JJ := Lib.hid hJj
              clear hJj
              go_wp2_with fail
              go_roundw
              case rel => exact ⟨k + 1, done', by omega, by go_num, JJ.out, hnx, ctj, by omega, hg3.trans hgj⟩
              case measure => simp [intOf]; omega
    · have hall := Lib.hid (doneTo_all hlt HD.out)
      have JJ := Lib.hid hJk
      clear hJk
      go_wp2_with fail
      go_end0
      exact ⟨⟨_, rfl⟩, ⟨done, JJ.out, hall.out⟩, hg⟩

end Go.Proofs.Ytdiichfdffhdaaa

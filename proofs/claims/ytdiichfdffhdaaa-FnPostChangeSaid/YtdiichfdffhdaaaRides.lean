/-
  Contracts of the program's postTable.rides, for each function value that is handed to it.
-/
import Derived.Test.YtdiichfdffhdaaaTab
namespace Go.Proofs.Ytdiichfdffhdaaa
open Go.RowKit

theorem atL_spec (t : Int) (l : List T3) : (atL t l = -1 ∧ ∀ (i : Nat) (a : T3), l[i]? = some a → a.1 ≠ t) ∨ ∃ (m : Nat) (hm : m < l.length), atL t l = m ∧ l[m].1 = t := by
  have key : ∀ (l : List T3) (k : Nat), (atFrom t k l = -1 ∧ ∀ (i : Nat) (a : T3), l[i]? = some a → a.1 ≠ t) ∨ ∃ (m : Nat) (hm : m < l.length), atFrom t k l = (k + m : Nat) ∧ l[m].1 = t := by
    intro l
    induction l with
    | nil => intro k; exact .inl ⟨rfl, fun i a h => by simp at h⟩
    | cons s r ih =>
      intro k
      by_cases hs : s.1 = t
      · exact .inr ⟨0, by simp, by simp [atFrom, hs], by simpa using hs⟩
      · rcases ih (k + 1) with ⟨h1, h2⟩ | ⟨m, hm, h1, h2⟩
        · refine .inl ⟨by rw [atFrom, if_neg hs]; exact h1, fun i a h => ?_⟩
          cases i with
          | zero => simp only [List.getElem?_cons_zero, Option.some.injEq] at h; subst h; exact hs
          | succ i => exact h2 i a (by simpa using h)
        · exact .inr ⟨m + 1, by simpa using hm, by rw [atFrom, if_neg hs, h1]; congr 1; omega, by simpa using h2⟩
  rcases key l 0 with ⟨h1, h2⟩ | ⟨m, hm, h1, h2⟩
  · exact .inl ⟨h1, h2⟩
  · exact .inr ⟨m, hm, by rw [atL, h1]; simp, h2⟩
/-- All rides from a town, of some coaches, have been called. -/
def DoneAt (ls : Net) (town τ f ch : Int) (done : T3 → T3 → Prop) : Prop := ∀ a b, Hop ls a b → a.1 = town → 0 ≤ τ ∧ τ + chg f ch town ≤ a.2.2 → done a b
def DoneIn (l : List T3) (m j : Nat) (done : T3 → T3 → Prop) : Prop := ∀ (a b : T3) (i : Nat), l[m]? = some a → m < i → i < m + 1 + j → l[i]? = some b → done a b
theorem cell_grown {w w' : World} {g b o : Nat} (hg : w.grownBy w' (some g)) (hb : b < w.heap.size) (hne : b ≠ g) : w'.cell? ⟨b, o, none⟩ = w.cell? ⟨b, o, none⟩ :=
  World.cell?_of_block (hg.block b hb (fun e => hne (by injection e)))
theorem rdN_grown {w w' : World} {g lo hi : Nat} {A : Option Addr} {net : Net} (h : RdN w lo hi A net) (hg : w.grownBy w' (some g)) (hgh : hi ≤ g) (hgw : g < w.heap.size) : RdN w' lo hi A net :=
  h.keep fun p _ hp => World.cell?_of_block (hg.block p.block (by omega) (fun e => by injection e with e; omega))
theorem grown_below {w w' w'' : World} {g : Nat} (h : w.grownBy w' (some g)) (hb : Below w'.heap.size w' w'') : w.grownBy w'' (some g) := h.trans (grown_of_below hb _)

theorem hop_mk {net : Net} {l : List T3} {a b : T3} (hl : l ∈ net) {i j : Nat} (hij : i < j) (hi : l[i]? = some a) (hj : l[j]? = some b) : Hop net a b := ⟨l, hl, i, j, hij, hi, hj⟩
theorem doneAt_mono {ls : Net} {town τ f ch : Int} {done done' : T3 → T3 → Prop} (h : DoneAt ls town τ f ch done) (hd : ∀ a b, done a b → done' a b) : DoneAt ls town τ f ch done' := fun a b h1 h2 h3 => hd a b (h a b h1 h2 h3)
theorem doneAt_next {net : Net} {k : Nat} {l : List T3} {town τ f ch : Int} {done : T3 → T3 → Prop} (hlt : k < net.length) (hl : l = net[k]) (h : DoneAt (net.take k) town τ f ch done)
    (hn : ∀ (i j : Nat) (a b : T3), i < j → l[i]? = some a → l[j]? = some b → a.1 = town → 0 ≤ τ ∧ τ + chg f ch town ≤ a.2.2 → done a b) : DoneAt (net.take (k + 1)) town τ f ch done := by
  intro a b hh ha hr
  obtain ⟨l', hl', i, j, hij, hi, hj⟩ := hh
  rw [List.take_succ_eq_append_getElem hlt, List.mem_append] at hl'
  rcases hl' with hl' | hl'
  · exact h a b ⟨l', hl', i, j, hij, hi, hj⟩ ha hr
  · simp only [List.mem_singleton] at hl'
    rw [← hl] at hl'
    subst hl'
    exact hn i j a b hij hi hj ha hr
theorem doneAt_all {net : Net} {k : Nat} {town τ f ch : Int} {done : T3 → T3 → Prop} (hlt : ¬ k < net.length) (h : DoneAt (net.take k) town τ f ch done) : DoneAt net town τ f ch done := by
  rwa [List.take_of_length_le (by omega)] at h
theorem doneIn_next {l : List T3} {m j : Nat} {done : T3 → T3 → Prop} {x y : T3} (h : DoneIn l m j done) (hx : l[m]? = some x) (hy : l[m + 1 + j]? = some y) : DoneIn l m (j + 1) (fun a b => done a b ∨ (a = x ∧ b = y)) := by
  intro a b i ha h1 h2 hb
  by_cases e : i = m + 1 + j
  · subst e
    rw [hx] at ha; rw [hy] at hb
    injection ha with ha; injection hb with hb
    exact .inr ⟨ha.symm, hb.symm⟩
  · exact .inl (h a b i ha h1 (by omega) hb)
theorem rd_grown {w w' : World} {g lo hi : Nat} {A : Option Addr} {xs : List Value} (h : Rd w lo hi A xs) (hg : w.grownBy w' (some g)) (hgh : hi ≤ g) (hgw : g < w.heap.size) : Rd w' lo hi A xs :=
  h.keep fun p _ hp => World.cell?_of_block (hg.block p.block (by omega) (fun e => by injection e with e; omega))

set_option maxRecDepth 100000 in
set_option maxHeartbeats 4000000 in
theorem rides_cspread (P g cap hi : Nat) (A : Option Addr) (c : Nat) (net : Net) (n f ch : Int) (gw bx : Nat) (town τ : Int) (J : (T3 → T3 → Prop) → World → Prop) (w : World)
    (hnet : netB n net = true) (hc0 : 0 ≤ ch) (hc1 : ch ≤ 300) (ht0 : 0 ≤ town) (ht1 : town < n) (hn : n ≤ 8) (hgw : gw < w.heap.size) (hhi : hi ≤ gw)
    (hJ : ∀ done w', J done w' → ∃ T, PTw w' P g cap hi A c net n f ch T ∧ tg T town = τ)
    (hk : ∀ done w' w'', J done w' → Below w'.heap.size w' w'' → J done w'')
    (hs : ∀ done w' a b, J done w' → Hop net a b → a.1 = town → 0 ≤ τ ∧ τ + chg f ch town ≤ a.2.2 → bx < w'.heap.size →
      Calls Try.prog 83 #[.agg #[.int .i64 b.1, .int .i64 b.2.1, .int .i64 b.2.2], .pointer (some ⟨bx, 0, none⟩)] w' fun e w'' => (∃ v, e = .returned v) ∧ J (fun x y => done x y ∨ (x = a ∧ y = b)) w'' ∧ w'.grownBy w'' (some gw))
    (hbx : bx < w.heap.size) (h0 : J (fun _ _ => False) w) :
    Calls Try.prog 82 #[.pointer (some ⟨P, 0, none⟩), .int .i64 town, .func (.func 83) #[] #[.pointer (some ⟨bx, 0, none⟩)]] w fun e w' => (∃ v, e = .returned v) ∧ (∃ done, J done w' ∧ DoneAt net town τ f ch done) ∧ w.grownBy w' (some gw) := by
  obtain ⟨T0, hp0, -⟩ := hJ _ _ h0
  have hr := hp0.rd
  have hln := (netB_and hnet).2.1
  have c0 := hp0.c0
  have hP := hp0.lt
  have HNET := Lib.hid hnet
  have HJ := Lib.hid hJ
  have HK := Lib.hid hk
  have HS := Lib.hid hs
  clear hJ hk hs hp0 hnet
  go_enter Try.func82, Try.ntmps82
  go_wp2_with fail
  have hJ1 := HK.out _ _ _ h0 (below_alloc (Below.refl _ _) (.cells #[.int .i64 town] 3))
  go_loopw [16] (fun i wr => ∃ (k : Nat) (done : T3 → T3 → Prop), k ≤ net.length ∧ i = .int .i64 k ∧ J done wr ∧ Hid (DoneAt (net.take k) town τ f ch done) ∧ wr.cell? ⟨w.heap.size, 0, none⟩ = some (.int .i64 town) ∧ w.heap.size < wr.heap.size ∧ w.grownBy wr (some gw)) (fun i _ => net.length - (intOf i).toNat)
  case atStart => exact ⟨0, _, Nat.zero_le _, rfl, hJ1, (by intro a b hh; obtain ⟨l, hl, _⟩ := hh; simp at hl), by simp [go_sem], by simp, grown_of_below (below_alloc (Below.refl _ _) _) _⟩
  case round =>
    obtain ⟨k, done, hkl, rfl, hJk, HD, ct, hsz, hg⟩ := hrel
    clear h0 hJ1
    by_cases hlt : k < net.length
    · obtain ⟨b, off, B, cc, rfl, _, hbh, q0, hcc, hrk⟩ := (rdN_grown hr hg hhi hgw) k hlt
      have hsv := netB_mem HNET.out (List.getElem_mem hlt)
      have hl8 := (stopsB_n hsv).2.2.2
      obtain ⟨l, hl⟩ : ∃ l, l = net[k] := ⟨_, rfl⟩
      rw [← hl] at q0 hcc hrk hl8 hsv
      have HSV := Lib.hid hsv
      have HL := Lib.hid hl
      have JK := Lib.hid hJk
      clear hl hsv hJk
      go_wp2_with fail
      refine (indexTown_any B cc _ _ l w.heap.size town _ (by omega) hrk (by omega) ct hsz).mono ?_
      rintro e w2 ⟨rfl, hb2⟩
      have J2 := Lib.hid (HK.out _ _ _ JK.out hb2)
      have ct2 := (hb2.cell (p := ⟨w.heap.size, 0, none⟩) hsz).trans ct
      have hg2 := grown_below hg hb2
      have hz2 := hb2.size
      obtain ⟨T, hp, hτ⟩ := HJ.out _ _ J2.out
      have hp1 := hp.c0
      rcases atL_spec town l with ⟨ha, hno⟩ | ⟨m, hm, ha, hme⟩
      · have hnx := Lib.hid (doneAt_next hlt HL.out HD.out (fun i j a b _ hi _ he _ => absurd he (hno i a hi)))
        have hAi := Lib.hid ha
        rw [ha]
        clear ha hno hτ
        go_wp2_with fail
        go_roundw
        case rel => exact ⟨k + 1, done, by omega, by go_num, J2.out, hnx, ct2, by omega, hg2⟩
        case measure => simp [intOf]; omega
      · rw [ha]
        obtain ⟨b', off', rfl, _, hb', a0, a1, a2⟩ := (hrk.below hb2 (by omega)).at3 m hm
        obtain ⟨x, hx⟩ : ∃ x, x = l[m] := ⟨_, rfl⟩
        rw [← hx] at a0 a1 a2 hme
        have HX := Lib.hid hx
        have HA := Lib.hid ha
        have HT := Lib.hid hτ
        have HM := Lib.hid hme
        clear hx ha hτ hme
        have hxo := stopsB_one HSV.out (i := m) (a := x) (by rw [HX.out]; exact List.getElem?_eq_getElem hm)
        have hm0 : ¬ ((m : Int) < 0) := by omega
        go_wp2_with fail
        ((with_reducible refine (canTake_any x hp hxo.1 hxo.2.1 hn hc0 hc1).mono ?_); rintro e w3 ⟨rfl, hb3⟩)
        have J3 := Lib.hid (HK.out _ _ _ J2.out hb3)
        have ct3 := (hb3.cell (p := ⟨w.heap.size, 0, none⟩) (show w.heap.size < _ by omega)).trans ct2
        have hg3 := grown_below hg2 hb3
        have hz3 := hb3.size
        have hrk3 := (hrk.below hb2 (by omega)).below hb3 (by omega)
        have hxl : l[m]? = some x := by rw [HX.out]; exact List.getElem?_eq_getElem hm
        have HXL := Lib.hid hxl
        have HRY := Lib.hid (show rdyB T f ch x = decide (0 ≤ τ ∧ τ + chg f ch town ≤ x.2.2) by unfold rdyB; rw [HM.out, HT.out])
        have HSAME := Lib.hid (show ∀ (i : Nat) (a : T3), l[i]? = some a → a.1 = town → i = m ∧ a = x by
          intro i a hi he
          have e := stopsB_inj HSV.out hi hxl (by rw [he, HM.out])
          subst e
          rw [hxl] at hi; injection hi with hi
          exact ⟨rfl, hi.symm⟩)
        clear hp a0 a1 a2 hxl
        cases hrd : rdyB T f ch x
        · have hnx := Lib.hid (doneAt_next hlt HL.out HD.out (fun i j a b _ hi _ he hr => by
            obtain ⟨_, rfl⟩ := HSAME.out i a hi he
            have := HRY.out.symm.trans hrd
            exact absurd hr (of_decide_eq_false this)))
          clear hrd
          go_wp2_with fail
          go_roundw
          case rel => exact ⟨k + 1, done, by omega, by go_num, J3.out, hnx, ct3, by omega, hg3⟩
          case measure => simp [intOf]; omega
        · have hrdy : 0 ≤ τ ∧ τ + chg f ch town ≤ x.2.2 := of_decide_eq_true (HRY.out.symm.trans hrd)
          have HRD := Lib.hid hrdy
          clear hrd hrdy
          by_cases hm1 : m + 1 < l.length
          · have hce : (cc = m + 1) = False := by simp; omega
            have hm1' : m + 1 ≤ l.length := by omega
            go_wp2_with fail
            go_loopw [39] (fun i wr' => ∃ (j : Nat) (done' : T3 → T3 → Prop), j ≤ l.length - (m + 1) ∧ i = .int .i64 j ∧ J done' wr' ∧ Hid (DoneAt (net.take k) town τ f ch done') ∧ Hid (DoneIn l m j done') ∧ wr'.cell? ⟨w.heap.size, 0, none⟩ = some (.int .i64 town) ∧ w3.grownBy wr' (some gw)) (fun i _ => l.length - (m + 1) - (intOf i).toNat)
            case atStart => exact ⟨0, done, Nat.zero_le _, rfl, J3.out, HD, (by intro a b i _ h1 h2; omega), ct3, grownBy_refl _ _⟩
            case round =>
              obtain ⟨j, done', hjl, rfl, hJj, HD', HI, ctj, hgj⟩ := hrel
              have hzj := hgj.size
              by_cases hjlt : j < l.length - (m + 1)
              · have hjl' : m + 1 + j < l.length := by omega
                obtain ⟨b4, off4, e4, _, _, d0, d1, d2⟩ := (rd_grown hrk3 hgj hhi (by omega)).at3 (m + 1 + j) hjl'
                injection e4 with e4; injection e4 with e41 e42; subst e41 e42
                obtain ⟨y, hy⟩ : ∃ y, y = l[m + 1 + j] := ⟨_, rfl⟩
                have eo : off' + (m + 1 + j) * 3 = off' + (m + 1) * 3 + j * 3 := by omega
                rw [← hy, eo] at d0 d1 d2
                have HY := Lib.hid (show l[m + 1 + j]? = some y by rw [hy]; exact List.getElem?_eq_getElem hjl')
                have JJ := Lib.hid hJj
                clear hy eo hJj
                go_wp2_with fail
                ((with_reducible refine (HS.out done' _ x y (HK.out _ _ _ JJ.out ?_) (hop_mk (l := l) (by rw [HL.out]; exact List.getElem_mem hlt) (show m < m + 1 + j by omega) HXL.out HY.out) HM.out HRD.out ?_).mono ?_))
                · (repeat (first | exact Below.refl _ _ | assumption | apply below_alloc | apply below_drewN | apply Below.drew | refine Below.setCell ?_ (by simp; try omega) _))
                · simp; omega
                · rintro e w5 ⟨⟨v, rfl⟩, hJ5, hg5⟩
                  have hg35 := (hgj.trans (grown_of_below (below_alloc (Below.refl _ _) _) _)).trans hg5
                  have hz5 := hg5.size
                  have ct5 := (cell_grown (o := 0) hg5 (show w.heap.size < _ by simp; omega) (by omega)).trans ((cell_alloc1 (p := ⟨w.heap.size, 0, none⟩) _ (show w.heap.size < _ by omega)).trans ctj)
                  have HJ5 := Lib.hid hJ5
                  clear hJ5
                  go_wp2_with fail
                  go_roundw
                  case rel => exact ⟨j + 1, _, by omega, by go_num, HJ5.out, doneAt_mono HD'.out (fun a b h => .inl h), doneIn_next HI.out HXL.out HY.out, ct5, hg35⟩
                  case measure => simp [intOf]; omega
              · have hnx := Lib.hid (doneAt_next hlt HL.out HD'.out (fun i j' a b hij hi hj he hr => by
                  obtain ⟨rfl, rfl⟩ := HSAME.out i a hi he
                  have hjl2 : j' < l.length := (List.getElem?_eq_some_iff.1 hj).1
                  exact HI.out a b j' hi hij (by omega) hj))
                have JJ := Lib.hid hJj
                clear hJj
                go_wp2_with fail
                go_roundw
                case rel => exact ⟨k + 1, done', by omega, by go_num, JJ.out, hnx, ctj, by omega, hg3.trans hgj⟩
                case measure => simp [intOf]; omega
          · have hm1' : l.length = m + 1 := by omega
            have hnx := Lib.hid (doneAt_next hlt HL.out HD.out (fun i j a b hij hi hj he hr => by
              obtain ⟨rfl, rfl⟩ := HSAME.out i a hi he
              have hjl2 : j < l.length := (List.getElem?_eq_some_iff.1 hj).1
              omega))
            have hle : m + 1 ≤ l.length := by omega
            have hsub : l.length - (m + 1) = 0 := by omega
            clear hm1 hm1'
            go_wp2_with fail
            all_goals
              refine wp_loop_rounds 1 ?_
              rw [rounds_succ]
              go_wp2_with fail
              go_roundw
              case rel => exact ⟨k + 1, done, by omega, by go_num, J3.out, hnx, ct3, by omega, hg3⟩
              case measure => simp [intOf]; omega
    · have hall := Lib.hid (doneAt_all hlt HD.out)
      have JJ := Lib.hid hJk
      clear hJk
      go_wp2_with fail
      go_end0
      exact ⟨⟨_, rfl⟩, ⟨done, JJ.out, hall.out⟩, hg⟩
set_option maxRecDepth 100000 in
set_option maxHeartbeats 4000000 in
theorem rides_cstep (P g cap hi : Nat) (A : Option Addr) (c : Nat) (net : Net) (n f ch : Int) (gw bx : Nat) (town τ : Int) (J : (T3 → T3 → Prop) → World → Prop) (w : World)
    (hnet : netB n net = true) (hc0 : 0 ≤ ch) (hc1 : ch ≤ 300) (ht0 : 0 ≤ town) (ht1 : town < n) (hn : n ≤ 8) (hgw : gw < w.heap.size) (hhi : hi ≤ gw)
    (hJ : ∀ done w', J done w' → ∃ T, PTw w' P g cap hi A c net n f ch T ∧ tg T town = τ)
    (hk : ∀ done w' w'', J done w' → Below w'.heap.size w' w'' → J done w'')
    (hs : ∀ done w' a b, J done w' → Hop net a b → a.1 = town → 0 ≤ τ ∧ τ + chg f ch town ≤ a.2.2 → bx < w'.heap.size →
      Calls Try.prog 90 #[.agg #[.int .i64 b.1, .int .i64 b.2.1, .int .i64 b.2.2], .pointer (some ⟨bx, 0, none⟩)] w' fun e w'' => (∃ v, e = .returned v) ∧ J (fun x y => done x y ∨ (x = a ∧ y = b)) w'' ∧ w'.grownBy w'' (some gw))
    (hbx : bx < w.heap.size) (h0 : J (fun _ _ => False) w) :
    Calls Try.prog 82 #[.pointer (some ⟨P, 0, none⟩), .int .i64 town, .func (.func 90) #[] #[.pointer (some ⟨bx, 0, none⟩)]] w fun e w' => (∃ v, e = .returned v) ∧ (∃ done, J done w' ∧ DoneAt net town τ f ch done) ∧ w.grownBy w' (some gw) := by
  obtain ⟨T0, hp0, -⟩ := hJ _ _ h0
  have hr := hp0.rd
  have hln := (netB_and hnet).2.1
  have c0 := hp0.c0
  have hP := hp0.lt
  have HNET := Lib.hid hnet
  have HJ := Lib.hid hJ
  have HK := Lib.hid hk
  have HS := Lib.hid hs
  clear hJ hk hs hp0 hnet
  go_enter Try.func82, Try.ntmps82
  go_wp2_with fail
  have hJ1 := HK.out _ _ _ h0 (below_alloc (Below.refl _ _) (.cells #[.int .i64 town] 3))
  go_loopw [16] (fun i wr => ∃ (k : Nat) (done : T3 → T3 → Prop), k ≤ net.length ∧ i = .int .i64 k ∧ J done wr ∧ Hid (DoneAt (net.take k) town τ f ch done) ∧ wr.cell? ⟨w.heap.size, 0, none⟩ = some (.int .i64 town) ∧ w.heap.size < wr.heap.size ∧ w.grownBy wr (some gw)) (fun i _ => net.length - (intOf i).toNat)
  case atStart => exact ⟨0, _, Nat.zero_le _, rfl, hJ1, (by intro a b hh; obtain ⟨l, hl, _⟩ := hh; simp at hl), by simp [go_sem], by simp, grown_of_below (below_alloc (Below.refl _ _) _) _⟩
  case round =>
    obtain ⟨k, done, hkl, rfl, hJk, HD, ct, hsz, hg⟩ := hrel
    clear h0 hJ1
    by_cases hlt : k < net.length
    · obtain ⟨b, off, B, cc, rfl, _, hbh, q0, hcc, hrk⟩ := (rdN_grown hr hg hhi hgw) k hlt
      have hsv := netB_mem HNET.out (List.getElem_mem hlt)
      have hl8 := (stopsB_n hsv).2.2.2
      obtain ⟨l, hl⟩ : ∃ l, l = net[k] := ⟨_, rfl⟩
      rw [← hl] at q0 hcc hrk hl8 hsv
      have HSV := Lib.hid hsv
      have HL := Lib.hid hl
      have JK := Lib.hid hJk
      clear hl hsv hJk
      go_wp2_with fail
      refine (indexTown_any B cc _ _ l w.heap.size town _ (by omega) hrk (by omega) ct hsz).mono ?_
      rintro e w2 ⟨rfl, hb2⟩
      have J2 := Lib.hid (HK.out _ _ _ JK.out hb2)
      have ct2 := (hb2.cell (p := ⟨w.heap.size, 0, none⟩) hsz).trans ct
      have hg2 := grown_below hg hb2
      have hz2 := hb2.size
      obtain ⟨T, hp, hτ⟩ := HJ.out _ _ J2.out
      have hp1 := hp.c0
      rcases atL_spec town l with ⟨ha, hno⟩ | ⟨m, hm, ha, hme⟩
      · have hnx := Lib.hid (doneAt_next hlt HL.out HD.out (fun i j a b _ hi _ he _ => absurd he (hno i a hi)))
        have hAi := Lib.hid ha
        rw [ha]
        clear ha hno hτ
        go_wp2_with fail
        go_roundw
        case rel => exact ⟨k + 1, done, by omega, by go_num, J2.out, hnx, ct2, by omega, hg2⟩
        case measure => simp [intOf]; omega
      · rw [ha]
        obtain ⟨b', off', rfl, _, hb', a0, a1, a2⟩ := (hrk.below hb2 (by omega)).at3 m hm
        obtain ⟨x, hx⟩ : ∃ x, x = l[m] := ⟨_, rfl⟩
        rw [← hx] at a0 a1 a2 hme
        have HX := Lib.hid hx
        have HA := Lib.hid ha
        have HT := Lib.hid hτ
        have HM := Lib.hid hme
        clear hx ha hτ hme
        have hxo := stopsB_one HSV.out (i := m) (a := x) (by rw [HX.out]; exact List.getElem?_eq_getElem hm)
        have hm0 : ¬ ((m : Int) < 0) := by omega
        go_wp2_with fail
        ((with_reducible refine (canTake_any x hp hxo.1 hxo.2.1 hn hc0 hc1).mono ?_); rintro e w3 ⟨rfl, hb3⟩)
        have J3 := Lib.hid (HK.out _ _ _ J2.out hb3)
        have ct3 := (hb3.cell (p := ⟨w.heap.size, 0, none⟩) (show w.heap.size < _ by omega)).trans ct2
        have hg3 := grown_below hg2 hb3
        have hz3 := hb3.size
        have hrk3 := (hrk.below hb2 (by omega)).below hb3 (by omega)
        have hxl : l[m]? = some x := by rw [HX.out]; exact List.getElem?_eq_getElem hm
        have HXL := Lib.hid hxl
        have HRY := Lib.hid (show rdyB T f ch x = decide (0 ≤ τ ∧ τ + chg f ch town ≤ x.2.2) by unfold rdyB; rw [HM.out, HT.out])
        have HSAME := Lib.hid (show ∀ (i : Nat) (a : T3), l[i]? = some a → a.1 = town → i = m ∧ a = x by
          intro i a hi he
          have e := stopsB_inj HSV.out hi hxl (by rw [he, HM.out])
          subst e
          rw [hxl] at hi; injection hi with hi
          exact ⟨rfl, hi.symm⟩)
        clear hp a0 a1 a2 hxl
        cases hrd : rdyB T f ch x
        · have hnx := Lib.hid (doneAt_next hlt HL.out HD.out (fun i j a b _ hi _ he hr => by
            obtain ⟨_, rfl⟩ := HSAME.out i a hi he
            have := HRY.out.symm.trans hrd
            exact absurd hr (of_decide_eq_false this)))
          clear hrd
          go_wp2_with fail
          go_roundw
          case rel => exact ⟨k + 1, done, by omega, by go_num, J3.out, hnx, ct3, by omega, hg3⟩
          case measure => simp [intOf]; omega
        · have hrdy : 0 ≤ τ ∧ τ + chg f ch town ≤ x.2.2 := of_decide_eq_true (HRY.out.symm.trans hrd)
          have HRD := Lib.hid hrdy
          clear hrd hrdy
          by_cases hm1 : m + 1 < l.length
          · have hce : (cc = m + 1) = False := by simp; omega
            have hm1' : m + 1 ≤ l.length := by omega
            go_wp2_with fail
            go_loopw [39] (fun i wr' => ∃ (j : Nat) (done' : T3 → T3 → Prop), j ≤ l.length - (m + 1) ∧ i = .int .i64 j ∧ J done' wr' ∧ Hid (DoneAt (net.take k) town τ f ch done') ∧ Hid (DoneIn l m j done') ∧ wr'.cell? ⟨w.heap.size, 0, none⟩ = some (.int .i64 town) ∧ w3.grownBy wr' (some gw)) (fun i _ => l.length - (m + 1) - (intOf i).toNat)
            case atStart => exact ⟨0, done, Nat.zero_le _, rfl, J3.out, HD, (by intro a b i _ h1 h2; omega), ct3, grownBy_refl _ _⟩
            case round =>
              obtain ⟨j, done', hjl, rfl, hJj, HD', HI, ctj, hgj⟩ := hrel
              have hzj := hgj.size
              by_cases hjlt : j < l.length - (m + 1)
              · have hjl' : m + 1 + j < l.length := by omega
                obtain ⟨b4, off4, e4, _, _, d0, d1, d2⟩ := (rd_grown hrk3 hgj hhi (by omega)).at3 (m + 1 + j) hjl'
                injection e4 with e4; injection e4 with e41 e42; subst e41 e42
                obtain ⟨y, hy⟩ : ∃ y, y = l[m + 1 + j] := ⟨_, rfl⟩
                have eo : off' + (m + 1 + j) * 3 = off' + (m + 1) * 3 + j * 3 := by omega
                rw [← hy, eo] at d0 d1 d2
                have HY := Lib.hid (show l[m + 1 + j]? = some y by rw [hy]; exact List.getElem?_eq_getElem hjl')
                have JJ := Lib.hid hJj
                clear hy eo hJj
                go_wp2_with fail
                ((with_reducible refine (HS.out done' _ x y (HK.out _ _ _ JJ.out ?_) (hop_mk (l := l) (by rw [HL.out]; exact List.getElem_mem hlt) (show m < m + 1 + j by omega) HXL.out HY.out) HM.out HRD.out ?_).mono ?_))
                · (repeat (first | exact Below.refl _ _ | assumption | apply below_alloc | apply below_drewN | apply Below.drew | refine Below.setCell ?_ (by simp; try omega) _))
                · simp; omega
                · rintro e w5 ⟨⟨v, rfl⟩, hJ5, hg5⟩
                  have hg35 := (hgj.trans (grown_of_below (below_alloc (Below.refl _ _) _) _)).trans hg5
                  have hz5 := hg5.size
                  have ct5 := (cell_grown (o := 0) hg5 (show w.heap.size < _ by simp; omega) (by omega)).trans ((cell_alloc1 (p := ⟨w.heap.size, 0, none⟩) _ (show w.heap.size < _ by omega)).trans ctj)
                  have HJ5 := Lib.hid hJ5
                  clear hJ5
                  go_wp2_with fail
                  go_roundw
                  case rel => exact ⟨j + 1, _, by omega, by go_num, HJ5.out, doneAt_mono HD'.out (fun a b h => .inl h), doneIn_next HI.out HXL.out HY.out, ct5, hg35⟩
                  case measure => simp [intOf]; omega
              · have hnx := Lib.hid (doneAt_next hlt HL.out HD'.out (fun i j' a b hij hi hj he hr => by
                  obtain ⟨rfl, rfl⟩ := HSAME.out i a hi he
                  have hjl2 : j' < l.length := (List.getElem?_eq_some_iff.1 hj).1
                  exact HI.out a b j' hi hij (by omega) hj))
                have JJ := Lib.hid hJj
                clear hJj
                go_wp2_with fail
                go_roundw
                case rel => exact ⟨k + 1, done', by omega, by go_num, JJ.out, hnx, ctj, by omega, hg3.trans hgj⟩
                case measure => simp [intOf]; omega
          · have hm1' : l.length = m + 1 := by omega
            have hnx := Lib.hid (doneAt_next hlt HL.out HD.out (fun i j a b hij hi hj he hr => by
              obtain ⟨rfl, rfl⟩ := HSAME.out i a hi he
              have hjl2 : j < l.length := (List.getElem?_eq_some_iff.1 hj).1
              omega))
            have hle : m + 1 ≤ l.length := by omega
            have hsub : l.length - (m + 1) = 0 := by omega
            clear hm1 hm1'
            go_wp2_with fail
            all_goals
              refine wp_loop_rounds 1 ?_
              rw [rounds_succ]
              go_wp2_with fail
              go_roundw
              case rel => exact ⟨k + 1, done, by omega, by go_num, J3.out, hnx, ct3, by omega, hg3⟩
              case measure => simp [intOf]; omega
    · have hall := Lib.hid (doneAt_all hlt HD.out)
      have JJ := Lib.hid hJk
      clear hJk
      go_wp2_with fail
      go_end0
      exact ⟨⟨_, rfl⟩, ⟨done, JJ.out, hall.out⟩, hg⟩

end Go.Proofs.Ytdiichfdffhdaaa

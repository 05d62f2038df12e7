/-
  Contract of the program's lastRide.
-/
import Derived.Test.YtdiichfdffhdaaaWayMath
import Derived.Test.YtdiichfdffhdaaaRides
namespace Go.Proofs.Ytdiichfdffhdaaa
open Go.RowKit

set_option maxHeartbeats 1000000 in
theorem cloTownR_any (s : T3) (b : Nat) (town : Int) (w : World) (hc : w.cell? ⟨b, 0, none⟩ = some (.int .i64 town)) (hb : b < w.heap.size) :
    Calls Try.prog 86 #[.agg #[.int .i64 s.1, .int .i64 s.2.1, .int .i64 s.2.2], .pointer (some ⟨b, 0, none⟩)] w fun e w' => e = .returned (.bool (decide (s.1 = town))) ∧ Below w.heap.size w w' := by
  have hd := Lib.hid (show (s.1 == town) = decide (s.1 = town) from rfl)
  go_enter Try.func86, Try.ntmps86
  go_wp2
  go_ret
  exact ⟨ret_bool hd.out, by (repeat (first | exact Below.refl _ _ | assumption | apply below_alloc | apply below_drewN | apply Below.drew | refine Below.setCell ?_ (by simp; try omega) _))⟩

set_option maxHeartbeats 2000000 in
theorem indexTownR_any (A : Option Addr) (c lo hi : Nat) (l : List T3) (b : Nat) (town : Int) (w : World) (hl : l.length ≤ 1048576) (hr : Rd w lo hi A (flat3 l)) (hh : hi ≤ w.heap.size) (hc : w.cell? ⟨b, 0, none⟩ = some (.int .i64 town)) (hb : b < w.heap.size) :
    Calls Try.prog 85 #[.slice A l.length c, .func (.func 86) #[] #[.pointer (some ⟨b, 0, none⟩)]] w fun e w' => e = .returned (.int .i64 (atL town l)) ∧ Below w.heap.size w w' := by
  go_enter Try.func85, Try.ntmps85
  go_wp2_with fail
  go_loopw [8] (fun i wr => ∃ k : Nat, k ≤ l.length ∧ i = .int .i64 k ∧ Hid (atL town l = atFrom town k (l.drop k)) ∧ Below w.heap.size w wr) (fun i _ => l.length - (intOf i).toNat)
  case atStart => exact ⟨0, Nat.zero_le _, rfl, by simp [Hid, atL], Below.refl _ _⟩
  case round =>
    obtain ⟨k, hk, rfl, H, hbl⟩ := hrel
    by_cases hlt : k < l.length
    · obtain ⟨b', off, rfl, hlo, hhi, c0, c1, c2⟩ := (hr.below hbl hh).at3 k hlt
      obtain ⟨x, hx⟩ : ∃ x, x = l[k] := ⟨_, rfl⟩
      rw [← hx] at c0 c1 c2
      have HX := Lib.hid hx
      have hcb := (hbl.cell (p := ⟨b, 0, none⟩) hb).trans hc
      have hbs := hbl.size
      clear hx hc
      go_wp2_with fail
      refine (cloTownR_any x b town _ hcb (by omega)).mono ?_
      rintro e w2 ⟨rfl, hb2⟩
      have hb12 := hbl.trans (hb2.mono hbs)
      by_cases hxt : x.1 = town
      · have hres := Lib.hid (show atL town l = k by rw [H.out, atFrom_here town l k hlt (by rw [← HX.out]; exact hxt)])
        have hd : decide (x.1 = town) = true := decide_eq_true hxt
        clear hxt
        go_wp2_with fail
        go_ret
        exact ⟨ret_int hres.out.symm, hb12⟩
      · have hres := Lib.hid (show atL town l = atFrom town (k + 1) (l.drop (k + 1)) by rw [H.out, atFrom_drop town l k hlt (by rw [← HX.out]; exact hxt)])
        have hd : decide (x.1 = town) = false := decide_eq_false hxt
        clear hxt
        go_wp2_with fail
        go_roundw
        case rel => exact ⟨k + 1, by omega, by go_num, hres, hb12⟩
        case measure => simp [intOf]; omega
    · have hres := Lib.hid (show atL town l = -1 by rw [H.out, List.drop_eq_nil_of_le (by omega)]; rfl)
      go_wp2_with fail
      go_ret
      exact ⟨ret_int hres.out.symm, hbl⟩

set_option maxHeartbeats 2000000 in
theorem indexTake_any {w : World} {P g cap hi : Nat} {A0 : Option Addr} {c0 : Nat} {net : Net} {n f ch : Int} {T : List Int} (hp : PTw w P g cap hi A0 c0 net n f ch T) (A : Option Addr) (c lo hi' : Nat) (l : List T3) (hn : n ≤ 8) (hc0 : 0 ≤ ch) (hc1 : ch ≤ 300) (hls : ∀ s ∈ l, StopR n s) (hl : l.length ≤ 1048576) (hr : Rd w lo hi' A (flat3 l)) (hh : hi' ≤ w.heap.size) :
    Calls Try.prog 85 #[.slice A l.length c, .func (.func 87) #[.pointer (some ⟨P, 0, none⟩)] #[]] w fun e w' => e = .returned (.int .i64 (firstIdx (rdyB T f ch) 0 l)) ∧ Below w.heap.size w w' := by
  have HP := Lib.hid hp
  have HLS := Lib.hid hls
  clear hp hls
  go_enter Try.func85, Try.ntmps85
  go_wp2_with fail
  go_loopw [8] (fun i wr => ∃ k : Nat, k ≤ l.length ∧ i = .int .i64 k ∧ Hid (firstIdx (rdyB T f ch) 0 l = firstIdx (rdyB T f ch) k (l.drop k)) ∧ Below w.heap.size w wr) (fun i _ => l.length - (intOf i).toNat)
  case atStart => exact ⟨0, Nat.zero_le _, rfl, by simp [Hid], Below.refl _ _⟩
  case round =>
    obtain ⟨k, hk, rfl, H, hbl⟩ := hrel
    by_cases hlt : k < l.length
    · obtain ⟨b', off, rfl, hlo, hhi, d0, d1, d2⟩ := (hr.below hbl hh).at3 k hlt
      have hst := HLS.out l[k] (List.getElem_mem hlt)
      obtain ⟨x, hx⟩ : ∃ x, x = l[k] := ⟨_, rfl⟩
      rw [← hx] at d0 d1 d2 hst
      have HX := Lib.hid hx
      have hbs := hbl.size
      obtain ⟨x0, x1, x2, x3, x4⟩ := hst
      clear hx
      go_wp2_with fail
      refine (canTake_any x (HP.out.below hbl) x0 x1 hn hc0 hc1).mono ?_
      rintro e w2 ⟨rfl, hb2⟩
      have hb12 := hbl.trans (hb2.mono hbs)
      cases hxt : rdyB T f ch x
      · have hres := Lib.hid (show firstIdx (rdyB T f ch) 0 l = firstIdx (rdyB T f ch) (k + 1) (l.drop (k + 1)) by rw [H.out, firstIdx_drop _ l k hlt (by rw [← HX.out]; exact hxt)])
        clear hxt
        go_wp2_with fail
        go_roundw
        case rel => exact ⟨k + 1, by omega, by go_num, hres, hb12⟩
        case measure => simp [intOf]; omega
      · have hres := Lib.hid (show firstIdx (rdyB T f ch) 0 l = k by rw [H.out, firstIdx_here _ l k hlt (by rw [← HX.out]; exact hxt)])
        clear hxt
        go_wp2_with fail
        go_ret
        exact ⟨ret_int hres.out.symm, hb12⟩
    · have hres := Lib.hid (show firstIdx (rdyB T f ch) 0 l = -1 by rw [H.out, List.drop_eq_nil_of_le (by omega)]; rfl)
      go_wp2_with fail
      go_ret
      exact ⟨ret_int hres.out.symm, hbl⟩

theorem flat3_take' (L : List T3) (m : Nat) : (flat3 L).take (m * 3) = flat3 (L.take m) := by
  induction L generalizing m with
  | nil => simp [flat3]
  | cons g r ih =>
    cases m with
    | zero => simp [flat3]
    | succ m =>
      have e : (m + 1) * 3 = m * 3 + 3 := by omega
      simp only [e, List.take_succ_cons, flat3, ← ih]
theorem rd_drewN' {w : World} {lo hi : Nat} {A : Option Addr} {xs : List Value} (h : Rd w lo hi A xs) (q : Nat) : Rd (w.drewN q) lo hi A xs := h
theorem PTw.drewN' {w : World} {P g cap hi : Nat} {A : Option Addr} {c : Nat} {net : Net} {n f ch : Int} {T : List Int} (h : PTw w P g cap hi A c net n f ch T) (q : Nat) : PTw (w.drewN q) P g cap hi A c net n f ch T := ⟨h.lt, h.c0, h.c1, h.c2, h.c3, h.own, h.rd, h.hg, h.hP, h.ok⟩
theorem set3_cells {w : World} {B : Nat} {a0 a1 a2 x y z : Value} (h0 : w.cell? ⟨B, 0, none⟩ = some a0) (h1 : w.cell? ⟨B, 1, none⟩ = some a1) (h2 : w.cell? ⟨B, 2, none⟩ = some a2) :
    (w.setCell ⟨B, 0, none⟩ x).cell? ⟨B, 0, none⟩ = some x ∧ ((w.setCell ⟨B, 0, none⟩ x).setCell ⟨B, 1, none⟩ y).cell? ⟨B, 0, none⟩ = some x ∧ ((w.setCell ⟨B, 0, none⟩ x).setCell ⟨B, 1, none⟩ y).cell? ⟨B, 1, none⟩ = some y ∧
    (((w.setCell ⟨B, 0, none⟩ x).setCell ⟨B, 1, none⟩ y).setCell ⟨B, 2, none⟩ z).cell? ⟨B, 0, none⟩ = some x ∧ (((w.setCell ⟨B, 0, none⟩ x).setCell ⟨B, 1, none⟩ y).setCell ⟨B, 2, none⟩ z).cell? ⟨B, 1, none⟩ = some y ∧ (((w.setCell ⟨B, 0, none⟩ x).setCell ⟨B, 1, none⟩ y).setCell ⟨B, 2, none⟩ z).cell? ⟨B, 2, none⟩ = some z := by
  have e0 : (w.setCell ⟨B, 0, none⟩ x).cell? ⟨B, 0, none⟩ = some x := World.cell?_setCell_same _ _ _ h0
  have e1 : (w.setCell ⟨B, 0, none⟩ x).cell? ⟨B, 1, none⟩ = some a1 := (World.cell?_setCell_other _ _ _ _ (by simp)).trans h1
  have e2 : (w.setCell ⟨B, 0, none⟩ x).cell? ⟨B, 2, none⟩ = some a2 := (World.cell?_setCell_other _ _ _ _ (by simp)).trans h2
  have f0 : ((w.setCell ⟨B, 0, none⟩ x).setCell ⟨B, 1, none⟩ y).cell? ⟨B, 0, none⟩ = some x := (World.cell?_setCell_other _ _ _ _ (by simp)).trans e0
  have f1 : ((w.setCell ⟨B, 0, none⟩ x).setCell ⟨B, 1, none⟩ y).cell? ⟨B, 1, none⟩ = some y := World.cell?_setCell_same _ _ _ e1
  have f2 : ((w.setCell ⟨B, 0, none⟩ x).setCell ⟨B, 1, none⟩ y).cell? ⟨B, 2, none⟩ = some a2 := (World.cell?_setCell_other _ _ _ _ (by simp)).trans e2
  exact ⟨e0, f0, f1, (World.cell?_setCell_other _ _ _ _ (by simp)).trans f0, (World.cell?_setCell_other _ _ _ _ (by simp)).trans f1, World.cell?_setCell_same _ _ _ f2⟩
def RetLast (o : Option T3) (w : World) (e : Ending) (w' : World) : Prop :=
  Below w.heap.size w w' ∧ ((∃ r, o = some r ∧ e = .returned (.tuple #[.agg #[.int .i64 r.1, .int .i64 r.2.1, .int .i64 r.2.2], .bool true])) ∨ (o = none ∧ e = .returned (.tuple #[.agg #[.int .i64 0, .int .i64 0, .int .i64 0], .bool false])))
set_option maxRecDepth 100000 in
set_option maxHeartbeats 4000000 in
theorem lastRide_any {w : World} {P g cap hi : Nat} {A : Option Addr} {c : Nat} {net : Net} {n f ch : Int} {T : List Int} (hp : PTw w P g cap hi A c net n f ch T) (town : Int) (hnet : netB n net = true) (hn : n ≤ 8) (hc0 : 0 ≤ ch) (hc1 : ch ≤ 300) (ht0 : 0 ≤ town) (ht1 : town < n) :
    Calls Try.prog 57 #[.pointer (some ⟨P, 0, none⟩), .int .i64 town] w (RetLast (lastR T f ch net town) w) := by
  have hln := (netB_and hnet).2.1
  have hr := hp.rd
  have hPl := hp.lt
  have hgl := hp.glt
  have hhg := hp.hg
  have c0 := hp.c0
  have HP := Lib.hid hp
  have HNET := Lib.hid hnet
  clear hp hnet
  have hbA := ((Below.refl w.heap.size w).alloc (Nat.le_refl _) (.cells #[.int .i64 town] 3)).alloc (by simp) (.cells #[.int .i64 0, .int .i64 0, .int .i64 0] 33)
  go_enter Try.func57, Try.ntmps57
  go_wp2_with fail
  go_loopw [15] (fun i wr => ∃ k : Nat, k ≤ net.length ∧ i = .int .i64 k ∧ Hid (lastR T f ch net town = lastFrom T f ch town k (net.drop k)) ∧ wr.cell? ⟨w.heap.size, 0, none⟩ = some (.int .i64 town) ∧ wr.cell? ⟨w.heap.size + 1, 0, none⟩ = some (.int .i64 0) ∧ wr.cell? ⟨w.heap.size + 1, 1, none⟩ = some (.int .i64 0) ∧ wr.cell? ⟨w.heap.size + 1, 2, none⟩ = some (.int .i64 0) ∧ wr.frozen? ⟨w.heap.size + 1, 0, none⟩ = false ∧ wr.frozen? ⟨w.heap.size + 1, 1, none⟩ = false ∧ wr.frozen? ⟨w.heap.size + 1, 2, none⟩ = false ∧ w.heap.size + 1 < wr.heap.size ∧ Below w.heap.size w wr) (fun i _ => net.length - (intOf i).toNat)
  case atStart => exact ⟨0, Nat.zero_le _, rfl, by simp [Hid, lastR], by simp [go_sem], by simp [go_sem], by simp [go_sem], by simp [go_sem], by simp [go_sem], by simp [go_sem], by simp [go_sem], by simp, hbA⟩
  case round =>
    obtain ⟨k, hk, rfl, H, ct, z0, z1, z2, f0, f1, f2, hsz, hb⟩ := hrel
    clear hbA
    have hbs := hb.size
    by_cases hlt : k < net.length
    · obtain ⟨b, off, B, cc, rfl, _, hbh, q0, hcc, hrk⟩ := (hr.below hb (by omega)) k hlt
      have hsv := netB_mem HNET.out (List.getElem_mem hlt)
      have hl8 := (stopsB_n hsv).2.2.2
      have hst := net_stops HNET.out (List.getElem_mem hlt)
      have HN1 := Lib.hid (fun hn' => last_next (T := T) (f := f) (ch := ch) (town := town) hlt hn')
      have HN2 := Lib.hid (fun x hn' => last_here (T := T) (f := f) (ch := ch) (town := town) (x := x) hlt hn')
      obtain ⟨l, hl⟩ : ∃ l, l = net[k] := ⟨_, rfl⟩
      rw [← hl] at q0 hcc hrk hl8 hsv hst HN1 HN2
      have HSV := Lib.hid hsv
      have HST := Lib.hid hst
      clear hl hsv hst
      go_wp2_with fail
      refine (indexTownR_any B cc _ _ l w.heap.size town _ (by omega) hrk (by omega) ct (by omega)).mono ?_
      rintro e w2 ⟨rfl, hb2⟩
      have hb12 := hb.trans (hb2.mono hbs)
      have hz2 := hb2.size
      have ct2 := (hb2.cell (p := ⟨w.heap.size, 0, none⟩) (show w.heap.size < _ by omega)).trans ct
      have z02 := (hb2.cell (p := ⟨w.heap.size + 1, 0, none⟩) (show w.heap.size + 1 < _ by omega)).trans z0
      have z12 := (hb2.cell (p := ⟨w.heap.size + 1, 1, none⟩) (show w.heap.size + 1 < _ by omega)).trans z1
      have z22 := (hb2.cell (p := ⟨w.heap.size + 1, 2, none⟩) (show w.heap.size + 1 < _ by omega)).trans z2
      have f02 := (hb2.frozen (p := ⟨w.heap.size + 1, 0, none⟩) (show w.heap.size + 1 < _ by omega)).trans f0
      have f12 := (hb2.frozen (p := ⟨w.heap.size + 1, 1, none⟩) (show w.heap.size + 1 < _ by omega)).trans f1
      have f22 := (hb2.frozen (p := ⟨w.heap.size + 1, 2, none⟩) (show w.heap.size + 1 < _ by omega)).trans f2
      clear ct z0 z1 z2 f0 f1 f2
      rcases atFrom_ge town 0 l with ha | ⟨m, hm, ha, hmt⟩
      · have ha' : atL town l = -1 := ha
        have hnx := Lib.hid (show lastR T f ch net town = lastFrom T f ch town (k + 1) (net.drop (k + 1)) by rw [H.out]; exact HN1.out (by unfold rideTo; rw [if_pos (by omega)]))
        rw [ha']
        clear ha ha'
        go_wp2_with fail
        go_quiet (fail)
        go_wp2_with fail
        go_roundw
        case rel => exact ⟨k + 1, by omega, by go_num, hnx, ct2, z02, z12, z22, f02, f12, f22, by simp; omega, below_drewN hb12 _⟩
        case measure => simp [intOf]; omega
      · have ha' : atL town l = (m : Int) := by rw [atL, ha]; simp
        obtain ⟨b', off', rfl, _, hb', a0, a1, a2⟩ := (hrk.below hb2 (by omega)).at3 m hm
        obtain ⟨x, hx⟩ : ∃ x, x = l[m] := ⟨_, rfl⟩
        rw [← hx] at a0 a1 a2
        have hgd : l.getD m (0, 0, 0) = x := by rw [List.getD_eq_getElem?_getD, List.getElem?_eq_getElem hm, hx]; rfl
        have HRT := Lib.hid (show rideTo T f ch town k l = if x.2.1 ≠ tg T town then none else if firstIdx (rdyB T f ch) 0 (l.take m) < 0 then none else some ((k : Int), firstIdx (rdyB T f ch) 0 (l.take m), (m : Int)) by
          unfold rideTo
          rw [ha', if_neg (by omega), Int.toNat_natCast, hgd])
        have hp2 := HP.out.below hb12
        have HP2 := Lib.hid hp2
        have c3 := hp2.c3
        have hPl2 := hp2.lt
        have hgl2 := hp2.glt
        have ctg := hp2.get ht0 ht1
        have hlt8 : town < ((n.toNat : Nat) : Int) := by omega
        have hm0 : ¬ ((m : Int) < 0) := by omega
        have hm0d : decide ((m : Int) < 0) = false := decide_eq_false hm0
        rw [ha']
        clear ha ha' hmt hx hgd hp2
        by_cases hne : x.2.1 = tg T town
        · have HRT2 := Lib.hid (show rideTo T f ch town k l = if firstIdx (rdyB T f ch) 0 (l.take m) < 0 then none else some ((k : Int), firstIdx (rdyB T f ch) 0 (l.take m), (m : Int)) by rw [HRT.out, if_neg (by simp [hne])])
          have hd : (x.2.1 != tg T town) = false := by simp [hne]
          have hmc : m ≤ cc := by omega
          have hlm : (l.take m).length = m := by rw [List.length_take]; omega
          have htk : (flat3 l).take (m * 3) = flat3 (l.take m) := flat3_take' l m
          have hrt := (hrk.below hb2 (by omega)).take (m * 3)
          rw [htk] at hrt
          have HTK := Lib.hid hlm
          have HRTK := Lib.hid hrt
          have HSS := Lib.hid (show ∀ s ∈ l.take m, StopR n s from fun s hs => HST.out s (List.mem_of_mem_take hs))
          clear hne htk hlm hrt HRT
          generalize tg T town = y at *
          go_wp2_with fail
          go_quiet (fail)
          go_wp2_with fail
          have hidx := indexTake_any (HP2.out.drewN' nq) (some ⟨b', off', none⟩) cc 0 hi (l.take m) hn hc0 hc1 HSS.out (by have := HTK.out; omega) (rd_drewN' HRTK.out _) (by simp; omega)
          rw [HTK.out] at hidx
          refine hidx.mono ?_
          rintro e w3 ⟨rfl, hb3⟩
          have hb13 := (below_drewN hb12 nq).trans (hb3.mono (by simp; omega))
          have hz3 : w2.heap.size ≤ w3.heap.size := hb3.size
          have ct3 := (hb3.cell (p := ⟨w.heap.size, 0, none⟩) (show w.heap.size < _ by simp; omega)).trans ct2
          have z03 := (hb3.cell (p := ⟨w.heap.size + 1, 0, none⟩) (show w.heap.size + 1 < _ by simp; omega)).trans z02
          have z13 := (hb3.cell (p := ⟨w.heap.size + 1, 1, none⟩) (show w.heap.size + 1 < _ by simp; omega)).trans z12
          have z23 := (hb3.cell (p := ⟨w.heap.size + 1, 2, none⟩) (show w.heap.size + 1 < _ by simp; omega)).trans z22
          have f03 := (hb3.frozen (p := ⟨w.heap.size + 1, 0, none⟩) (show w.heap.size + 1 < _ by simp; omega)).trans f02
          have f13 := (hb3.frozen (p := ⟨w.heap.size + 1, 1, none⟩) (show w.heap.size + 1 < _ by simp; omega)).trans f12
          have f23 := (hb3.frozen (p := ⟨w.heap.size + 1, 2, none⟩) (show w.heap.size + 1 < _ by simp; omega)).trans f22
          have hsz3 : w.heap.size + 1 < w3.heap.size := by omega
          clear ct2 z02 z12 z22 f02 f12 f22 hb3
          rcases firstIdx_spec (rdyB T f ch) (l.take m) with ⟨hi, _⟩ | ⟨i, hil, hi, hir⟩
          · have hnx := Lib.hid (show lastR T f ch net town = lastFrom T f ch town (k + 1) (net.drop (k + 1)) by rw [H.out]; exact HN1.out (by rw [HRT2.out, hi, if_pos (by omega)]))
            rw [hi]
            clear hi
            go_wp2_with fail
            go_roundw
            case rel => exact ⟨k + 1, by omega, by go_num, hnx, ct3, z03, z13, z23, f03, f13, f23, by omega, hb13⟩
            case measure => simp [intOf]; omega
          · have hfin := Lib.hid (show lastR T f ch net town = some ((k : Int), (i : Int), (m : Int)) by rw [H.out]; exact HN2.out _ (by rw [HRT2.out, hi, if_neg (by omega)]))
            rw [hi]
            have hi0 : ¬ ((i : Int) < 0) := by omega
            have Q := Lib.hid (set3_cells (x := .int .i64 (k : Int)) (y := .int .i64 (i : Int)) (z := .int .i64 (m : Int)) z03 z13 z23)
            clear hi hir hil hidx
            go_wp2_with fail
            obtain ⟨p0, p1, p2, p3, p4, p5⟩ := Q.out
            refine bodyPost_ret (v := .tuple #[.agg #[.int .i64 (k : Int), .int .i64 (i : Int), .int .i64 (m : Int)], .bool true]) (by simp [results, Try.results57, go_sem, p0, p1, p2, p3, p4, p5]) rfl ⟨?_, .inl ⟨_, hfin.out, rfl⟩⟩
            refine Below.setCell (Below.setCell (Below.setCell hb13 ?_ _) ?_ _) ?_ _ <;> (show w.heap.size ≤ _; simp)
        · have hnx := Lib.hid (show lastR T f ch net town = lastFrom T f ch town (k + 1) (net.drop (k + 1)) by rw [H.out]; exact HN1.out (by rw [HRT.out, if_pos hne]))
          have hd : (x.2.1 != tg T town) = true := by simp [hne]
          clear hne HRT
          generalize tg T town = y at *
          go_wp2_with fail
          go_quiet (fail)
          go_wp2_with fail
          go_roundw
          case rel => exact ⟨k + 1, by omega, by go_num, hnx, ct2, z02, z12, z22, f02, f12, f22, by simp; omega, below_drewN hb12 _⟩
          case measure => simp [intOf]; omega
    · have hres := Lib.hid (show lastR T f ch net town = none by rw [H.out, List.drop_eq_nil_of_le (by omega)]; rfl)
      have Q := Lib.hid (set3_cells (x := .int .i64 0) (y := .int .i64 0) (z := .int .i64 0) z0 z1 z2)
      go_wp2_with fail
      obtain ⟨q0, q1, q2, q3, q4, q5⟩ := Q.out
      refine bodyPost_ret (v := .tuple #[.agg #[.int .i64 0, .int .i64 0, .int .i64 0], .bool false]) (by simp [results, Try.results57, go_sem, q0, q1, q2, q3, q4, q5]) rfl ⟨?_, .inr ⟨hres.out, rfl⟩⟩
      (repeat (first | exact Below.refl _ _ | assumption | apply below_alloc | apply below_drewN | apply Below.drew | refine Below.setCell ?_ (by simp; try omega) _))

end Go.Proofs.Ytdiichfdffhdaaa

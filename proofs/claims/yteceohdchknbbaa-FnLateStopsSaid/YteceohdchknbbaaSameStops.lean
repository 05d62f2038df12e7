/-
  Contract of the laws' own comparison of timetables; plain laws of late timetables.
-/
import Derived.Test.YteceohdchknbbaaSlackLaws
import Derived.Test.YteceohdchknbbaaLateStops
import Derived.Laws.StructEq
namespace Go.Proofs.Yteceohdchknbbaa
open Go.RowKit

set_option maxHeartbeats 2000000 in
theorem sameStops_any (A B : Option Addr) (c d lo hi lo' hi' : Nat) (l m : List T3) (w : World) (hm : m.length ≤ 1048576) (hr : Rd w lo hi A (flat3 l)) (hr' : Rd w lo' hi' B (flat3 m)) :
    Calls Try.prog 53 #[.slice A l.length c, .slice B m.length d] w fun e w' => e = .returned (.bool (decide (l = m))) ∧ Below w.heap.size w w' := by
  have hp : Try.prog.stoodInHeld 31 = false := by kernel_rfl
  have hmm : Try.prog.eqGuardType Try.prog.depth 31 = false := by kernel_rfl
  by_cases hlen : l.length = m.length
  case neg =>
    have hres := Lib.hid (show decide (l = m) = false from decide_eq_false (fun h => hlen (by rw [h])))
    have hne : ((l.length : Int) != (m.length : Int)) = true := by simp; omega
    clear hlen
    go_enter Try.func53, Try.ntmps53
    go_wp2
    go_ret
    exact ⟨ret_bool hres.out.symm, by (repeat (first | exact Below.refl _ _ | assumption | apply below_alloc | apply below_drewN | apply Below.drew | refine Below.setCell ?_ (by simp; try omega) _))⟩
  case pos =>
    have hne : ((l.length : Int) != (m.length : Int)) = false := by simp; omega
    have hle : l.length ≤ m.length := by omega
    have HL := Lib.hid hlen
    clear hlen
    go_enter Try.func53, Try.ntmps53
    go_wp2
    go_loopw [5] (fun i wr => ∃ (k q : Nat), k ≤ l.length ∧ i = .int .i64 k ∧ Hid (l.take k = m.take k) ∧ wr = w.drewN q) (fun i _ => l.length - (intOf i).toNat)
    case atStart => exact ⟨0, 0, Nat.zero_le _, rfl, by simp [Hid], rfl⟩
    case round =>
      obtain ⟨k, q, hk, rfl, H, rfl⟩ := hrel
      by_cases hlt : k < l.length
      · have hlt' : k < m.length := by omega
        obtain ⟨b, off, rfl, hlo, hhi, c0, c1, c2⟩ := hr.at3 k hlt
        obtain ⟨b', off', rfl, hlo', hhi', d0, d1, d2⟩ := hr'.at3 k hlt'
        obtain ⟨x, hx⟩ : ∃ x, x = l[k] := ⟨_, rfl⟩
        obtain ⟨y, hy⟩ : ∃ y, y = m[k] := ⟨_, rfl⟩
        rw [← hx] at c0 c1 c2
        rw [← hy] at d0 d1 d2
        have HX := Lib.hid hx
        have HY := Lib.hid hy
        clear hx hy
        have hk0 : (0 : Int) ≤ (k : Int) := by omega
        have hk1 : (k : Int) < (l.length : Int) := by omega
        have hk2 : (k : Int) < (m.length : Int) := by omega
        by_cases hxy : x = y
        · have e1 : (x.1 == y.1) = true := by simp [hxy]
          have e2 : (x.2.1 == y.2.1) = true := by simp [hxy]
          have e3 : (x.2.2 == y.2.2) = true := by simp [hxy]
          have hres := Lib.hid (show l.take (k + 1) = m.take (k + 1) by
            rw [List.take_succ_eq_append_getElem hlt, List.take_succ_eq_append_getElem hlt', H.out, ← HX.out, ← HY.out, hxy])
          clear hxy
          go_wp2
          go_quiet (fail)
          go_wp2
          go_roundw
          case rel => exact ⟨k + 1, _, by omega, by go_num, hres, rfl⟩
          case measure => simp [intOf]; omega
        · have hres := Lib.hid (show decide (l = m) = false from decide_eq_false (fun h => hxy (by rw [HX.out, HY.out]; simp [h])))
          by_cases h1 : x.1 = y.1
          · have e1 : (x.1 == y.1) = true := by simp [h1]
            by_cases h2 : x.2.1 = y.2.1
            · have e2 : (x.2.1 == y.2.1) = true := by simp [h2]
              have e3 : (x.2.2 == y.2.2) = false := by
                rw [beq_eq_false_iff_ne]; intro h3; exact hxy (Prod.ext h1 (Prod.ext h2 h3))
              clear hxy h1 h2
              go_wp2
              go_quiet (fail)
              go_wp2
              go_ret
              exact ⟨ret_bool hres.out.symm, by (repeat (first | exact Below.refl _ _ | assumption | apply below_alloc | apply below_drewN | apply Below.drew | refine Below.setCell ?_ (by simp; try omega) _))⟩
            · have e2 : (x.2.1 == y.2.1) = false := by simp [h2]
              clear hxy h1 h2
              go_wp2
              go_quiet (fail)
              go_wp2
              go_ret
              exact ⟨ret_bool hres.out.symm, by (repeat (first | exact Below.refl _ _ | assumption | apply below_alloc | apply below_drewN | apply Below.drew | refine Below.setCell ?_ (by simp; try omega) _))⟩
          · have e1 : (x.1 == y.1) = false := by simp [h1]
            clear hxy h1
            go_wp2
            go_quiet (fail)
            go_wp2
            go_ret
            exact ⟨ret_bool hres.out.symm, by (repeat (first | exact Below.refl _ _ | assumption | apply below_alloc | apply below_drewN | apply Below.drew | refine Below.setCell ?_ (by simp; try omega) _))⟩
      · have hres := Lib.hid (show decide (l = m) = true from decide_eq_true (by
          have h := H.out
          have hl := HL.out
          have hkl : k = l.length := by omega
          subst hkl
          rw [hl, List.take_length] at h
          rw [← hl, List.take_length] at h
          exact h))
        go_wp2
        go_ret
        exact ⟨ret_bool hres.out.symm, by (repeat (first | exact Below.refl _ _ | assumption | apply below_alloc | apply below_drewN | apply Below.drew | refine Below.setCell ?_ (by simp; try omega) _))⟩

theorem lmoved_get (l : List T3) (a b : List Int) (i : Nat) (hi : i < l.length) : (lmoved l a b)[i]'(by rw [lmoved_len]; exact hi) = (l[i].1, l[i].2.1 + (if i = 0 then 0 else a.getD i 0), l[i].2.2 + b.getD i 0) := by
  simp only [lmoved, List.getElem_map, List.getElem_range, lmove, getD_of_lt l i _ hi]
theorem run_zero (S : List Int) (m : Nat) (hS : ∀ s ∈ S, 0 ≤ s) : (∀ x ∈ runA 0 S (List.replicate m 0), x = 0) ∧ ∀ x ∈ runL 0 S (List.replicate m 0), x = 0 := by
  induction m generalizing S with
  | zero => cases S <;> simp [runA, runL]
  | succ m ih =>
    cases S with
    | nil => simp [runA, runL, List.replicate_succ]
    | cons s ss =>
      have hs := hS s (by simp)
      have e : lstep 0 0 s = 0 := by unfold lstep; omega
      have := ih ss (fun z hz => hS z (by simp [hz]))
      simp only [List.replicate_succ, runA, runL, e, List.mem_cons]
      exact ⟨fun x hx => hx.elim (fun h => by rw [h]; rfl) (this.1 x), fun x hx => hx.elim id (this.2 x)⟩
theorem getD_zero {L : List Int} (h : ∀ x ∈ L, x = 0) (i : Nat) : L.getD i 0 = 0 := by
  rw [List.getD_eq_getElem?_getD]
  cases e : L[i]? with
  | none => rfl
  | some x => exact h x (List.mem_of_getElem? e)
/-- P69: a late coach runs by a later timetable. -/
theorem late_stops_law {n : Int} {l o : List T3} {least start en : Int} {ds : List Int} (h : lstopsOk n l least start ds = true) (ho : o = lstopsL n l least start ds) (he : en = endV n l least start ds) (hm : l.length - 1 < l.length) (hm' : l.length - 1 < o.length) :
    lateOk n l least start ds = true ∧ o.length = l.length ∧ stopsB n o = true ∧ stopsB n l = true ∧ 0 ≤ en ∧ en ≤ 2400 ∧ 0 ≤ start ∧ start ≤ 300 ∧
    (∀ i (hi : i < l.length) (hi' : i < o.length), o[i].1 = l[i].1 ∧ l[i].2.1 ≤ o[i].2.1 ∧ l[i].2.2 ≤ o[i].2.2) ∧
    lstopsOk n l least 0 (List.replicate ds.length 0) = true ∧ lstopsL n l least 0 (List.replicate ds.length 0) = l ∧
    o[l.length - 1].2.1 = l[l.length - 1].2.1 + en ∧ runS n o = runS n l + en - start := by
  have hoF : o = lmoved l (arrF l least start ds) (leaF l least start ds) := by rw [ho, lstopsL, if_pos h]
  simp only [lstopsOk, Bool.and_eq_true] at h
  obtain ⟨hok, hso⟩ := h
  have hs := (lateOk_and hok).1
  have hst := (lateOk_and hok).2.1
  have hv := (slackOk_and hs).1
  obtain ⟨_, _, hl2, hl8⟩ := stopsB_n hv
  obtain ⟨g1, g2, g3, g4, g5, g6, g7⟩ := late_arrive_law hok rfl rfl rfl
  have hlv := fun i hi => late_leave_law hok rfl rfl i hi
  have hen : en = (arrF l least start ds).getD (l.length - 1) 0 := by
    rw [he, endV, if_pos hok, lastD, g1]
  have hend := hlv (l.length - 1) hm
  have hol : o.length = l.length := by rw [hoF, lmoved_len]
  have hget : ∀ i (hi : i < l.length) (hi' : i < o.length), o[i] = (l[i].1, l[i].2.1 + (if i = 0 then 0 else (arrF l least start ds).getD i 0), l[i].2.2 + (leaF l least start ds).getD i 0) := by
    intro i hi hi'
    have := lmoved_get l (arrF l least start ds) (leaF l least start ds) i hi
    rw [← this]; congr 1
  have hsame : lmoved l (arrF l least 0 (List.replicate ds.length 0)) (leaF l least 0 (List.replicate ds.length 0)) = l := by
    have hz := run_zero ((slacks least l).drop 1) ds.length (fun s hs' => (mem_slacks1 hs s hs').1)
    apply List.ext_getElem (by rw [lmoved_len])
    intro i h1 h2
    have ha : (arrF l least 0 (List.replicate ds.length 0)).getD i 0 = 0 := getD_zero (fun x hx => by
      simp only [arrF, List.mem_cons] at hx
      exact hx.elim id (hz.1 x)) i
    have hb : (leaF l least 0 (List.replicate ds.length 0)).getD i 0 = 0 := getD_zero (fun x hx => by
      simp only [leaF, List.mem_cons] at hx
      exact hx.elim id (hz.2 x)) i
    rw [lmoved_get l _ _ i h2, ha, hb]
    simp
  have hok0 : lateOk n l least 0 (List.replicate ds.length 0) = true := lateOk_mk hs (by omega) (by simpa using g4) (fun d hd => by rw [List.mem_replicate] at hd; omega)
  have hok2 : lstopsOk n l least 0 (List.replicate ds.length 0) = true := by simp only [lstopsOk, hok0, Bool.true_and, hsame]; exact hv
  refine ⟨hok, hol, by rw [hoF]; exact hso, hv, by omega, by omega, hst.1, hst.2, ?_, hok2, by rw [lstopsL, if_pos hok2, hsame], ?_, ?_⟩
  · intro i hi hi'
    rw [hget i hi hi']
    have := hlv i hi
    refine ⟨rfl, ?_, ?_⟩
    · show l[i].2.1 ≤ l[i].2.1 + _
      split <;> omega
    · show l[i].2.2 ≤ l[i].2.2 + _
      omega
  · rw [hget _ hm hm', hen]
    dsimp only
    rw [if_neg (show ¬ l.length - 1 = 0 by omega)]
  · have hv2 : stopsB n o = true := by rw [hoF]; exact hso
    rw [runS, if_pos hv2, runS, if_pos hv, hol, getD_of_lt o _ _ hm', getD_of_lt o 0 _ (by omega), getD_of_lt l _ _ hm, getD_of_lt l 0 _ (by omega)]
    rw [hget _ hm hm', hget 0 (by omega) (by omega)]
    dsimp only
    rw [if_neg (show ¬ l.length - 1 = 0 by omega), g6, hen]
    omega

end Go.Proofs.Yteceohdchknbbaa

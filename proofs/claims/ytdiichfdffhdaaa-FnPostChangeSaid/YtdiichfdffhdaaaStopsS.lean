/-
  Contracts of the reference's functions on timetables: StopsValid, l2At, StopsAt.
-/
import Derived.Test.YtdiichfdffhdaaaStopsMath
namespace Go.Proofs.Ytdiichfdffhdaaa
open Go.RowKit

theorem sizes_inB {n : Int} {l : List T3} : sizesOk n l = (inB n 1 8 && inB (l.length : Int) 2 8) := by
  simp only [sizesOk, inB]
  rw [Bool.eq_iff_iff]
  simp only [decide_eq_true_eq, Bool.and_eq_true]
  omega
theorem stopOk_inB {n last : Int} {s : T3} : stopOk n last s = (inB s.1 0 (n - 1) && inB s.2.1 (last + 1) 10000 && inB s.2.2 s.2.1 10000) := by
  simp only [stopOk, inB]
  rw [Bool.eq_iff_iff]
  simp only [decide_eq_true_eq, Bool.and_eq_true]
  omega

set_option maxHeartbeats 2000000 in
theorem sStopsValid (n : Int) (A : Option Addr) (c lo hi : Nat) (l : List T3) (w : World) (hl : l.length ≤ 1048576) (hr : Rd w lo hi A (flat3 l)) (hh : hi ≤ w.heap.size) :
    Calls Try.prog 91 #[.int .i64 n, .slice A l.length c] w fun e w' => e = .returned (.bool (stopsB n l)) ∧ Below w.heap.size w w' := by
  cases hs : sizesOk n l
  · have hres := Lib.hid (show stopsB n l = false by simp [stopsB, hs])
    rw [sizes_inB] at hs
    cases h1 : inB n 1 8
    · clear hs
      go_enter Try.func91, Try.ntmps91
      go_wp2_with (go_at_call 65; refine (l6In_any _ _ _ _).mono ?_; rintro e w' ⟨rfl, rfl⟩)
      go_ret
      exact ⟨ret_bool hres.out.symm, Below.refl _ _⟩
    · rw [h1, Bool.true_and] at hs
      go_enter Try.func91, Try.ntmps91
      go_wp2_with (go_at_call 65; refine (l6In_any _ _ _ _).mono ?_; rintro e w' ⟨rfl, rfl⟩)
      go_ret
      exact ⟨ret_bool hres.out.symm, Below.refl _ _⟩
  · have HS := Lib.hid hs
    have hsz : 1 ≤ n ∧ n ≤ 8 ∧ 2 ≤ l.length ∧ l.length ≤ 8 := by simpa [sizesOk] using hs
    obtain ⟨hn1, hn2, hl1, hl2⟩ := hsz
    have h1 : inB n 1 8 = true := inB_true (by omega)
    have h2 : inB (l.length : Int) 2 8 = true := inB_true (by omega)
    clear hs
    go_enter Try.func91, Try.ntmps91
    go_wp2_with (go_at_call 65; refine (l6In_any _ _ _ _).mono ?_; rintro e w' ⟨rfl, rfl⟩)
    clear h1 h2
    go_loopw [5, 6] (fun p i wr => ∃ (k : Nat) (last : Int), k ≤ l.length ∧ i = .int .i64 k ∧ p = .int .i64 last ∧ -1 ≤ last ∧ last ≤ 10000 ∧ Hid (stopsFrom n (-1) [] l = stopsFrom n last (l.take k) (l.drop k)) ∧ Below w.heap.size w wr) (fun _ i _ => l.length - (intOf i).toNat)
    case atStart => exact ⟨0, -1, Nat.zero_le _, rfl, rfl, by omega, by omega, by simp [Hid], Below.refl _ _⟩
    case round =>
      obtain ⟨k, last, hk, rfl, rfl, hl3, hl4, H, hb⟩ := hrel
      by_cases hlt : k < l.length
      · obtain ⟨b, off, rfl, hlo, hhi, c0, c1, c2⟩ := (hr.below hb hh).at3 k hlt
        obtain ⟨x, hx⟩ : ∃ x, x = l[k] := ⟨_, rfl⟩
        rw [← hx] at c0 c1 c2
        have HX := Lib.hid hx
        clear hx
        cases hok : stopOk n last x
        · have hres := Lib.hid (stops_stop H.out hlt HX.out (.inl hok))
          rw [stopOk_inB] at hok
          cases h1 : inB x.1 0 (n - 1)
          · clear hok
            go_wp2_with (go_at_call 65; refine (l6In_any _ _ _ _).mono ?_; rintro e w' ⟨rfl, rfl⟩)
            go_ret
            exact ⟨ret_bool hres.out.symm, below_alloc hb _⟩
          · cases h2 : inB x.2.1 (last + 1) 10000
            · clear hok
              go_wp2_with (go_at_call 65; refine (l6In_any _ _ _ _).mono ?_; rintro e w' ⟨rfl, rfl⟩)
              go_ret
              exact ⟨ret_bool hres.out.symm, below_alloc hb _⟩
            · rw [h1, h2, Bool.true_and, Bool.true_and] at hok
              go_wp2_with (go_at_call 65; refine (l6In_any _ _ _ _).mono ?_; rintro e w' ⟨rfl, rfl⟩)
              go_ret
              exact ⟨ret_bool hres.out.symm, below_alloc hb _⟩
        · have HOK := Lib.hid hok
          have hq : 0 ≤ x.1 ∧ x.1 ≤ n - 1 ∧ last + 1 ≤ x.2.1 ∧ x.2.1 ≤ 10000 ∧ x.2.1 ≤ x.2.2 ∧ x.2.2 ≤ 10000 := of_decide_eq_true hok
          clear hok
          obtain ⟨q1, q2, q3, q4, q5, q6⟩ := hq
          have h1 : inB x.1 0 (n - 1) = true := inB_true (by omega)
          have h2 : inB x.2.1 (last + 1) 10000 = true := inB_true (by omega)
          have h3 : inB x.2.2 x.2.1 10000 = true := inB_true (by omega)
          obtain ⟨wo, rfl⟩ : ∃ wo : World, wo = wr := ⟨_, rfl⟩
          go_wp2_with (go_at_call 65; refine (l6In_any _ _ _ _).mono ?_; rintro e w' ⟨rfl, rfl⟩)
          clear h1 h2 h3
          go_loopw [8] (fun j wi => ∃ (m q : Nat), m ≤ k ∧ j = .int .i64 m ∧ Hid (hasTown x.1 (l.take m) = false) ∧ wi = (wo.alloc (.cells #[.int .i64 x.1, .int .i64 x.2.1, .int .i64 x.2.2] 30)).drewN q) (fun j _ => k - (intOf j).toNat)
          case atStart => exact ⟨0, 0, Nat.zero_le _, rfl, by simp [Hid, hasTown], rfl⟩
          case round =>
            obtain ⟨m, q, hm, rfl, HT, rfl⟩ := hrel
            by_cases hmk : m < k
            · obtain ⟨b', off', e, _, _, d0, _, _⟩ := (hr.below hb hh).at3 m (by omega)
              injection e with e; injection e with e1 e2; subst e1 e2
              have hts := hasTown_take_succ x.1 l m (by omega)
              rw [HT.out, Bool.false_or] at hts
              obtain ⟨y, hy⟩ : ∃ y, y = l[m].1 := ⟨_, rfl⟩
              rw [← hy] at d0 hts
              clear hy
              have hbw : b < wo.heap.size := by have := hb.size; omega
              have hm0 : (0 : Int) ≤ (m : Int) := by omega
              have hm1 : (m : Int) < (l.length : Int) := by omega
              by_cases hyx : y = x.1
              · have hd : (y == x.1) = true := by simp [hyx]
                have hres := Lib.hid (stops_stop H.out hlt HX.out (.inr (by
                  have : hasTown x.1 (l.take (m + 1)) = true := by rw [hts]; simp [hyx]
                  simp only [hasTown, List.any_eq_true] at this ⊢
                  obtain ⟨p, hp, hp2⟩ := this
                  refine ⟨p, ?_, hp2⟩
                  have hsub : l.take (m + 1) = (l.take k).take (m + 1) := by rw [List.take_take]; congr 1; omega
                  rw [hsub] at hp
                  exact List.mem_of_mem_take hp)))
                clear hyx hts
                go_wp2
                go_quiet (fail)
                go_wp2
                go_ret
                exact ⟨ret_bool hres.out.symm, by (repeat (first | exact Below.refl _ _ | assumption | apply below_alloc | apply below_drewN | apply Below.drew | refine Below.setCell ?_ (by simp; try omega) _))⟩
              · have hd : (y == x.1) = false := by simp [hyx]
                have HT2 := Lib.hid (show hasTown x.1 (l.take (m + 1)) = false by rw [hts]; simp [hyx])
                clear hyx hts
                go_wp2
                go_quiet (fail)
                go_wp2
                go_roundw
                case rel => exact ⟨m + 1, _, by omega, by go_num, HT2, rfl⟩
                case measure => simp [intOf]; omega
            · obtain rfl : m = k := by omega
              have hres := Lib.hid (stops_go H.out hlt HX.out HOK.out HT.out)
              go_wp2
              go_roundw
              case rel => exact ⟨m + 1, x.2.2, by omega, by go_num, rfl, by omega, by omega, hres, below_drewN (below_alloc hb _) _⟩
              case measure => simp [intOf]; omega
      · have hres := Lib.hid (stops_end H.out hlt HS.out)
        go_wp2
        go_ret
        exact ⟨ret_bool hres.out.symm, hb⟩

set_option maxHeartbeats 1000000 in
theorem l2At_any (A : Option Addr) (c lo hi : Nat) (l : List T3) (t : Int) (w : World) (hl : l.length ≤ 1048576) (hr : Rd w lo hi A (flat3 l)) :
    Calls Try.prog 79 #[.slice A l.length c, .int .i64 t] w fun e w' => e = .returned (.int .i64 (atL t l)) ∧ Below w.heap.size w w' := by
  go_enter Try.func79, Try.ntmps79
  go_wp2
  go_loopw [5] (fun i wr => ∃ (k q : Nat), k ≤ l.length ∧ i = .int .i64 k ∧ Hid (atL t l = atFrom t k (l.drop k)) ∧ wr = w.drewN q) (fun i _ => l.length - (intOf i).toNat)
  case atStart => exact ⟨0, 0, Nat.zero_le _, rfl, by simp [Hid, atL], rfl⟩
  case round =>
    obtain ⟨k, q, hk, rfl, H, rfl⟩ := hrel
    by_cases hlt : k < l.length
    · obtain ⟨b, off, rfl, hlo, hhi, c0, _, _⟩ := hr.at3 k hlt
      obtain ⟨x, hx⟩ : ∃ x, x = l[k].1 := ⟨_, rfl⟩
      rw [← hx] at c0
      have hk0 : (0 : Int) ≤ (k : Int) := by omega
      have hk1 : (k : Int) < (l.length : Int) := by omega
      by_cases hxt : x = t
      · have hres := Lib.hid (show atL t l = k by rw [H.out, atFrom_here t l k hlt (by rw [← hx]; exact hxt)])
        have hd : (x == t) = true := by simp [hxt]
        clear hx hxt
        go_wp2
        try (go_quiet (fail); go_wp2)
        go_ret
        exact ⟨ret_int hres.out.symm, by (repeat (first | exact Below.refl _ _ | assumption | apply below_alloc | apply below_drewN | apply Below.drew | refine Below.setCell ?_ (by simp; try omega) _))⟩
      · have hres := Lib.hid (show atL t l = atFrom t (k + 1) (l.drop (k + 1)) by rw [H.out, atFrom_drop t l k hlt (by rw [← hx]; exact hxt)])
        have hd : (x == t) = false := by simp [hxt]
        clear hx hxt
        go_wp2
        try (go_quiet (fail); go_wp2)
        go_roundw
        case rel => exact ⟨k + 1, _, by omega, by go_num, hres, rfl⟩
        case measure => simp [intOf]; omega
    · have hres := Lib.hid (show atL t l = -1 by rw [H.out, List.drop_eq_nil_of_le (by omega)]; rfl)
      go_wp2
      go_ret
      exact ⟨ret_int hres.out.symm, by (repeat (first | exact Below.refl _ _ | assumption | apply below_alloc | apply below_drewN | apply Below.drew | refine Below.setCell ?_ (by simp; try omega) _))⟩

end Go.Proofs.Ytdiichfdffhdaaa

/-
  Contracts of connections: the reference's and the program's.
-/
import Derived.Test.YteceohdchknbbaaStopsS
import Derived.Test.YteceohdchknbbaaStopsI
import Derived.Test.YteceohdchknbbaaDelay
namespace Go.Proofs.Yteceohdchknbbaa
open Go.RowKit

def stopAt (l : List T3) (i : Int) : T3 := l.getD i.toNat (0, 0, 0)
def waitOk (n : Int) (a b : List T3) (t late change : Int) : Bool := decide (0 ≤ stopsAt n a t) && decide (0 ≤ stopsAt n b t) && inB late 0 300 && inB change 0 300
def waitR (n : Int) (a b : List T3) (t : Int) : Int := (stopAt a (stopsAt n a t)).2.1 - (stopAt b (stopsAt n b t)).2.2
def waitV (n : Int) (a b : List T3) (t late change : Int) : Int := if waitOk n a b t late change then waitR n a b t + late + change else 0
theorem stopsAt_get {n : Int} {l : List T3} {t : Int} (h : 0 ≤ stopsAt n l t) : ∃ i : Nat, ∃ hi : i < l.length, stopsAt n l t = i ∧ stopsB n l = true ∧ stopAt l (stopsAt n l t) = l[i] ∧ l[i].1 = t ∧ i ≤ 7 ∧ 0 ≤ l[i].2.1 ∧ l[i].2.1 ≤ l[i].2.2 ∧ l[i].2.2 ≤ 10000 := by
  unfold stopsAt at h ⊢
  cases hv : stopsB n l
  · rw [hv] at h; simp at h
  · simp only [hv, if_true] at h ⊢
    rcases atFrom_ge t 0 l with h1 | ⟨j, hj, h1, h2⟩
    · rw [atL, h1] at h; omega
    · have hg := stopsB_get hv j hj
      have := (stopsB_n hv).2.2.2
      refine ⟨j, hj, by rw [atL, h1]; simp, trivial, ?_, h2, by omega, by omega, by omega, by omega⟩
      simp [stopAt, atL, h1, hj]
theorem waitR_bd (n : Int) (a b : List T3) (t : Int) (ha : 0 ≤ stopsAt n a t) (hb : 0 ≤ stopsAt n b t) : -10000 ≤ waitR n a b t ∧ waitR n a b t ≤ 10000 := by
  obtain ⟨i, hi, _, _, e1, _, _, h1⟩ := stopsAt_get ha
  obtain ⟨j, hj, _, _, e2, _, _, h2⟩ := stopsAt_get hb
  unfold waitR
  rw [e1, e2]
  omega
theorem waitV_bd (n : Int) (a b : List T3) (t late change : Int) : -10000 ≤ waitV n a b t late change ∧ waitV n a b t late change ≤ 10600 := by
  unfold waitV
  split
  · rename_i h
    simp only [waitOk, Bool.and_eq_true, decide_eq_true_eq] at h
    have := waitR_bd n a b t h.1.1.1 h.1.1.2
    have := of_inB h.1.2
    have := of_inB h.2
    omega
  · omega

def RetIB (x : Int) (b : Bool) (w : World) (e : Ending) (w' : World) : Prop := e = .returned (.tuple #[.int .i64 x, .bool b]) ∧ Below w.heap.size w w'
theorem retIB {x y : Int} {b c : Bool} {w w' : World} (h1 : x = y) (h2 : b = c) (hb : Below w.heap.size w w') : RetIB x b w (.returned (.tuple #[.int .i64 y, .bool c])) w' := by
  subst h1 h2; exact ⟨rfl, hb⟩

set_option maxHeartbeats 2000000 in
theorem sWait_any (n : Int) (A B : Option Addr) (c d lo hi lo' hi' : Nat) (a b : List T3) (t late change : Int) (w : World) (hla : a.length ≤ 1048576) (hlb : b.length ≤ 1048576) (hra : Rd w lo hi A (flat3 a)) (hha : hi ≤ w.heap.size) (hrb : Rd w lo' hi' B (flat3 b)) (hhb : hi' ≤ w.heap.size) :
    Calls Try.prog 66 #[.int .i64 n, .slice A a.length c, .slice B b.length d, .int .i64 t, .int .i64 late, .int .i64 change] w (RetIB (waitV n a b t late change) (waitOk n a b t late change) w) := by
  have hV : waitOk n a b t late change = false → waitV n a b t late change = 0 := fun h => by simp [waitV, h]
  have HV := Lib.hid hV
  clear hV
  go_enter Try.func66, Try.ntmps66
  go_wp2_with fail
  refine (sStopsAt n _ _ _ _ a t _ hla hra hha).mono ?_
  rintro e w1 ⟨rfl, hb1⟩
  go_wp2_with fail
  refine (sStopsAt n _ _ _ _ b t _ hlb (hrb.below hb1 hhb) (Nat.le_trans hhb hb1.size)).mono ?_
  rintro e w2 ⟨rfl, hb2⟩
  have hb12 := hb1.trans (hb2.mono hb1.size)
  by_cases h1 : 0 ≤ stopsAt n a t
  · by_cases h2 : 0 ≤ stopsAt n b t
    · cases h3 : inB late 0 300
      · have hno := Lib.hid (show waitOk n a b t late change = false by simp [waitOk, h3])
        generalize stopsAt n a t = i at *
        generalize stopsAt n b t = j at *
        go_wp2_with (go_at_call 61; refine (l6In_any _ _ _ _).mono ?_; rintro e w' ⟨rfl, rfl⟩)
        all_goals (go_ret2; exact retIB (HV.out hno.out) hno.out hb12)
      · cases h4 : inB change 0 300
        · have hno := Lib.hid (show waitOk n a b t late change = false by simp [waitOk, h4])
          generalize stopsAt n a t = i at *
          generalize stopsAt n b t = j at *
          go_wp2_with (go_at_call 61; refine (l6In_any _ _ _ _).mono ?_; rintro e w' ⟨rfl, rfl⟩)
          all_goals (go_ret2; exact retIB (HV.out hno.out) hno.out hb12)
        · have hyes := Lib.hid (show waitOk n a b t late change = true by simp [waitOk, h1, h2, h3, h4])
          obtain ⟨i, hi, ei, _, e1, _, hi7, p1, p2, p3⟩ := stopsAt_get h1
          obtain ⟨j, hj, ej, _, e2, _, hj7, q1, q2, q3⟩ := stopsAt_get h2
          have hval := Lib.hid (show waitV n a b t late change = a[i].2.1 + late + change - b[j].2.2 by
            rw [waitV, if_pos hyes.out, waitR, e1, e2]; omega)
          have hla' := of_inB h3
          have hch' := of_inB h4
          obtain ⟨r1, r2⟩ := hla'
          obtain ⟨s1, s2⟩ := hch'
          clear e1 e2 h1 h2
          rw [ei, ej]
          clear ei ej
          obtain ⟨ba, oa, rfl, _, _, _, ca, _⟩ := (hra.below hb12 hha).at3 i hi
          obtain ⟨bb, ob, rfl, _, _, _, _, cb⟩ := (hrb.below hb12 hhb).at3 j hj
          generalize a[i].2.1 = x at *
          generalize b[j].2.2 = y at *
          have hi0 : (0 : Int) ≤ (i : Int) := by omega
          have hj0 : (0 : Int) ≤ (j : Int) := by omega
          have hi1 : (i : Int) < (a.length : Int) := by omega
          have hj1 : (j : Int) < (b.length : Int) := by omega
          have w1 : IntKind.i64.wrap (x + late) = x + late := IntWalk.i64_in _ (by omega)
          have w2 : IntKind.i64.wrap (x + late + change) = x + late + change := IntWalk.i64_in _ (by omega)
          have w3 : IntKind.i64.wrap (x + late + change - y) = x + late + change - y := IntWalk.i64_in _ (by omega)
          go_wp2_with (go_at_call 61; refine (l6In_any _ _ _ _).mono ?_; rintro e w' ⟨rfl, rfl⟩)
          go_quiet (fail)
          clear w1 w2 w3
          go_wp2
          go_ret2
          exact retIB hval.out hyes.out (below_drewN hb12 _)
    · have hno := Lib.hid (show waitOk n a b t late change = false by simp [waitOk, h2])
      have h2' : stopsAt n b t < 0 := by omega
      clear h2
      generalize stopsAt n a t = i at *
      generalize stopsAt n b t = j at *
      go_wp2
      all_goals (go_ret2; exact retIB (HV.out hno.out) hno.out hb12)
  · have hno := Lib.hid (show waitOk n a b t late change = false by simp [waitOk, h1])
    have h1' : stopsAt n a t < 0 := by omega
    clear h1
    generalize stopsAt n a t = i at *
    go_wp2
    all_goals (go_ret2; exact retIB (HV.out hno.out) hno.out hb12)

def iwOk (n : Int) (a b : List T3) (t late change most : Int) : Bool := waitOk n a b t late change && inB most 0 300
def iwV (n : Int) (a b : List T3) (t late change most : Int) : Int := if iwOk n a b t late change most then waitV n a b t late change else 0

set_option maxHeartbeats 2000000 in
theorem iWait_any (n : Int) (A B : Option Addr) (c d lo hi lo' hi' : Nat) (a b : List T3) (t late change most : Int) (w : World) (hla : a.length ≤ 1048576) (hlb : b.length ≤ 1048576) (hra : Rd w lo hi A (flat3 a)) (hha : hi ≤ w.heap.size) (hrb : Rd w lo' hi' B (flat3 b)) (hhb : hi' ≤ w.heap.size) :
    Calls Try.prog 65 #[.int .i64 n, .slice A a.length c, .slice B b.length d, .int .i64 t, .int .i64 late, .int .i64 change, .int .i64 most] w (RetIB (iwV n a b t late change most) (iwOk n a b t late change most) w) := by
  have hV : iwOk n a b t late change most = false → iwV n a b t late change most = 0 := fun h => by simp [iwV, h]
  have HV := Lib.hid hV
  clear hV
  go_enter Try.func65, Try.ntmps65
  go_wp2_with fail
  refine (iStopsAt n _ _ _ _ a t _ hla hra hha).mono ?_
  rintro e w1 ⟨rfl, hb1⟩
  go_wp2_with fail
  refine (iStopsAt n _ _ _ _ b t _ hlb (hrb.below hb1 hhb) (Nat.le_trans hhb hb1.size)).mono ?_
  rintro e w2 ⟨rfl, hb2⟩
  have hb12 := hb1.trans (hb2.mono hb1.size)
  by_cases h1 : 0 ≤ stopsAt n a t
  · by_cases h2 : 0 ≤ stopsAt n b t
    · cases h3 : inB late 0 300
      · have hno := Lib.hid (show iwOk n a b t late change most = false by simp [iwOk, waitOk, h3])
        generalize stopsAt n a t = i at *
        generalize stopsAt n b t = j at *
        go_wp2_with (go_at_call 59; refine (delayValid_any _ _).mono ?_; rintro e w' ⟨rfl, rfl⟩)
        all_goals (go_ret2; exact retIB (HV.out hno.out) hno.out hb12)
      · cases h4 : inB change 0 300
        · have hno := Lib.hid (show iwOk n a b t late change most = false by simp [iwOk, waitOk, h4])
          generalize stopsAt n a t = i at *
          generalize stopsAt n b t = j at *
          go_wp2_with (go_at_call 59; refine (delayValid_any _ _).mono ?_; rintro e w' ⟨rfl, rfl⟩)
          all_goals (go_ret2; exact retIB (HV.out hno.out) hno.out hb12)
        · cases h5 : inB most 0 300
          · have hno := Lib.hid (show iwOk n a b t late change most = false by simp [iwOk, h5])
            generalize stopsAt n a t = i at *
            generalize stopsAt n b t = j at *
            go_wp2_with (go_at_call 59; refine (delayValid_any _ _).mono ?_; rintro e w' ⟨rfl, rfl⟩)
            all_goals (go_ret2; exact retIB (HV.out hno.out) hno.out hb12)
          · have hyes0 := Lib.hid (show waitOk n a b t late change = true by simp [waitOk, h1, h2, h3, h4])
            have hyes := Lib.hid (show iwOk n a b t late change most = true by simp [iwOk, hyes0.out, h5])
            obtain ⟨i, hi, ei, _, e1, _, hi7, p1, p2, p3⟩ := stopsAt_get h1
            obtain ⟨j, hj, ej, _, e2, _, hj7, q1, q2, q3⟩ := stopsAt_get h2
            have hval := Lib.hid (show iwV n a b t late change most = a[i].2.1 + late + change - b[j].2.2 by
              rw [iwV, if_pos hyes.out, waitV, if_pos hyes0.out, waitR, e1, e2]; omega)
            have hla' := of_inB h3
            have hch' := of_inB h4
            obtain ⟨r1, r2⟩ := hla'
            obtain ⟨s1, s2⟩ := hch'
            clear e1 e2 h1 h2
            rw [ei, ej]
            clear ei ej
            obtain ⟨ba, oa, rfl, _, _, _, ca, _⟩ := (hra.below hb12 hha).at3 i hi
            obtain ⟨bb, ob, rfl, _, _, _, _, cb⟩ := (hrb.below hb12 hhb).at3 j hj
            generalize a[i].2.1 = x at *
            generalize b[j].2.2 = y at *
            have hi0 : (0 : Int) ≤ (i : Int) := by omega
            have hj0 : (0 : Int) ≤ (j : Int) := by omega
            have hi1 : (i : Int) < (a.length : Int) := by omega
            have hj1 : (j : Int) < (b.length : Int) := by omega
            have w1 : IntKind.i64.wrap (x + late) = x + late := IntWalk.i64_in _ (by omega)
            have w2 : IntKind.i64.wrap (x + late + change) = x + late + change := IntWalk.i64_in _ (by omega)
            have w3 : IntKind.i64.wrap (x + late + change - y) = x + late + change - y := IntWalk.i64_in _ (by omega)
            go_wp2_with (go_at_call 59; refine (delayValid_any _ _).mono ?_; rintro e w' ⟨rfl, rfl⟩)
            go_quiet (fail)
            clear w1 w2 w3
            go_wp2
            go_ret2
            exact retIB hval.out hyes.out (below_drewN hb12 _)
    · have hno := Lib.hid (show iwOk n a b t late change most = false by simp [iwOk, waitOk, h2])
      have h2' : stopsAt n b t < 0 := by omega
      clear h2
      generalize stopsAt n a t = i at *
      generalize stopsAt n b t = j at *
      go_wp2
      all_goals (go_ret2; exact retIB (HV.out hno.out) hno.out hb12)
  · have hno := Lib.hid (show iwOk n a b t late change most = false by simp [iwOk, waitOk, h1])
    have h1' : stopsAt n a t < 0 := by omega
    clear h1
    generalize stopsAt n a t = i at *
    go_wp2
    all_goals (go_ret2; exact retIB (HV.out hno.out) hno.out hb12)

end Go.Proofs.Yteceohdchknbbaa

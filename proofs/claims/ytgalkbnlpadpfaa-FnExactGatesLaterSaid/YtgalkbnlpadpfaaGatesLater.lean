/-
  Contracts of GatesLater, the reference's and the program's.
-/
import Derived.Test.YtgalkbnlpadpfaaGates
import Derived.Test.YtgalkbnlpadpfaaTri
import Derived.Test.YtgalkbnlpadpfaaOwn
namespace Go.Proofs.Ytgalkbnlpadpfaa
open Go.RowKit

def shift (k : Int) (g : T3) : T3 := (g.1 + k, g.2.1, g.2.2)
def laterOk (l : List T3) (k : Int) : Bool := gatesB l && (l.isEmpty || inB k (-999) 999) && gatesB (l.map (shift k))
def laterL (l : List T3) (k : Int) : List T3 := if laterOk l k then l.map (shift k) else []
/-- A slice of triples in new memory, and a bool. -/
def RetSB (E : TypeId) (l : List T3) (b : Bool) (w : World) (e : Ending) (w' : World) : Prop :=
  ∃ A c, e = .returned (.tuple #[.slice A l.length c, .bool b]) ∧ w'.ownsRow w.heap.size E 3 (.slice A l.length c) l.length (flat3 l) ∧ Below w.heap.size w w'
theorem gatesB_le {l : List T3} (h : gatesB l = true) : l.length ≤ 10 := by
  simp only [gatesB, Bool.and_eq_true, decide_eq_true_eq] at h; exact h.1
theorem gatesFrom_get {l : List T3} {last : Int} (h : gatesFrom last l = true) (h0 : -1 ≤ last) (k : Nat) (hk : k < l.length) : 0 ≤ l[k].1 ∧ l[k].1 ≤ 999 := by
  induction l generalizing last k with
  | nil => simp at hk
  | cons g r ih =>
    simp only [gatesFrom, Bool.and_eq_true, gOk, decide_eq_true_eq] at h
    cases k with
    | zero => simp only [List.getElem_cons_zero]; omega
    | succ k => simp only [List.getElem_cons_succ]; exact ih h.2 (by omega) k _
theorem gatesB_get {l : List T3} (h : gatesB l = true) (k : Nat) (hk : k < l.length) : 0 ≤ l[k].1 ∧ l[k].1 ≤ 999 := by
  simp only [gatesB, Bool.and_eq_true] at h; exact gatesFrom_get h.2 (by omega) k hk
theorem retSB_no {E : TypeId} {l : List T3} {k : Int} {w w1 : World} {n : Nat} (h : laterOk l k = false) (hb : Below w.heap.size w w1) (hn : w1.heap.size = n) :
    RetSB E (laterL l k) (laterOk l k) w (.returned (.tuple #[.slice (some ⟨n, 0, none⟩) 0 0, .bool false])) (w1.alloc (.cells #[] E)) := by
  subst hn
  have e : laterL l k = [] := by simp [laterL, h]
  rw [e, h]
  exact ⟨_, _, rfl, own_lit0 w1 _ E 3 hb.size, below_alloc hb _⟩
def laterRel (B : Nat) (E : TypeId) (l : List T3) (k : Int) (j : Nat) (v : Value) (wr : World) : Prop :=
  ∃ g cap, v = .slice (some ⟨g, 0, none⟩) (((l.take j).map (shift k)).length) cap ∧ wr.ownsRow B E 3 v ((l.take j).map (shift k)).length (flat3 ((l.take j).map (shift k)))
theorem later_step (l : List T3) (k : Int) (j : Nat) (h : j < l.length) : (l.take (j + 1)).map (shift k) = (l.take j).map (shift k) ++ [(l[j].1 + k, l[j].2.1, l[j].2.2)] := by
  rw [List.take_succ_eq_append_getElem h, List.map_append]; rfl

set_option maxHeartbeats 1000000 in
theorem iGatesLater (A : Option Addr) (c lo hi : Nat) (l : List T3) (k : Int) (w : World) (hl : l.length ≤ 1048576) (hr : Rd w lo hi A (flat3 l)) (hh : hi ≤ w.heap.size) :
    Calls Try.prog 21 #[.slice A l.length c, .int .i64 k] w (RetSB 37 (laterL l k) (laterOk l k) w) := by
  obtain ⟨i0, hi0, hz0, hz1, hz2⟩ := info_parts infoGate
  cases hv : gatesB l
  · have hres := Lib.hid (show laterOk l k = false by simp [laterOk, hv])
    have HV := Lib.hid hv
    clear hv
    go_enter Try.func21, Try.ntmps21
    go_wp2_with fail
    refine (iGatesValid A c lo hi l _ hl hr hh).mono ?_
    rintro e w1 ⟨rfl, hb1⟩
    rw [HV.out]
    go_wp2_with fail
    go_ret2
    exact retSB_no hres.out hb1 rfl
  · have HV := Lib.hid hv
    have hl10 := gatesB_le hv
    clear hv
    go_enter Try.func21, Try.ntmps21
    go_wp2_with fail
    refine (iGatesValid A c lo hi l _ hl hr hh).mono ?_
    rintro e w1 ⟨rfl, hb1⟩
    rw [HV.out]
    go_wp2_with fail
    go_loopw [6, 16] (fun v i wr => ∃ j : Nat, j ≤ l.length ∧ i = .int .i64 j ∧ (0 < j → -999 ≤ k ∧ k ≤ 999) ∧ laterRel w.heap.size 37 l k j v wr ∧ Below w.heap.size w wr) (fun _ i _ => l.length - (intOf i).toNat)
    case atStart => exact ⟨0, Nat.zero_le _, rfl, by omega, ⟨_, _, rfl, own_lit0 w1 _ _ 3 hb1.size⟩, below_alloc hb1 _⟩
    case round =>
      obtain ⟨j, hj, rfl, hkj, ⟨g, cap, rfl, hown⟩, hb⟩ := hrel
      clear hb1
      by_cases hlt : j < l.length
      · obtain ⟨b, off, rfl, hlo, hhi, c0, c1, c2⟩ := (hr.below hb hh).at3 j hlt
        have hx1 := gatesB_get HV.out j hlt
        have hstep := Lib.hid (later_step l k j hlt)
        obtain ⟨x, hx⟩ : ∃ x, x = l[j] := ⟨_, rfl⟩
        rw [← hx] at c0 c1 c2 hx1 hstep
        have HX := Lib.hid hx
        clear hx
        have hlj : ((l.take j).map (shift k)).length ≤ 10 := by rw [List.length_map, List.length_take]; omega
        obtain ⟨L, hL⟩ : ∃ L, L = (l.take j).map (shift k) := ⟨_, rfl⟩
        rw [← hL] at hown hlj hstep
        have HL := Lib.hid hL
        rw [← hL]
        clear hL
        have hbs := hb.size
        by_cases hk : -999 ≤ k ∧ k ≤ 999
        · obtain ⟨hk1, hk2⟩ := hk
          go_wp2_with (at_builtin; go_must (refine wpList_append3 rfl _ _ 25 rfl w.heap.size 37 i0 _ Try.underlying25 hi0 hz0 hz1 hz2 rfl _ L rfl ((hown.alloc _).alloc _) (wr.heap.size + 1) _ _ _ (nb2 _ _ _) rfl (by omega) (ls2 hbs _ _) ?_); intro g2 cap2 w2 hown2 hg2 _ _)
          have hb2 := below_grown (below_alloc (below_alloc hb _) _) (ls2 hbs _ _) ((hown.alloc _).alloc _) (Nat.le_refl _) hg2
          go_roundw
          case rel => exact ⟨j + 1, by omega, by go_num, fun _ => ⟨hk1, hk2⟩, ⟨g2, cap2, by rw [hstep.out]; simp, by rw [hstep.out]; simpa using hown2⟩, hb2⟩
          case measure => simp [intOf]; omega
        · have hres := Lib.hid (show laterOk l k = false by
            have hne : l.isEmpty = false := by cases l with | nil => simp at hlt | cons _ _ => rfl
            simp only [laterOk, HV.out, hne, inB, Bool.false_or, Bool.true_and]
            have : (decide (-999 ≤ k) && decide (k ≤ 999)) = false := by simp; omega
            rw [this]; rfl)
          go_wp2_with fail
          all_goals first
            | (go_ret2; exact retSB_no hres.out (below_alloc hb _) (by simp))
            | (exfalso; omega)
      · obtain rfl : j = l.length := by omega
        have hbs := hb.size
        have hin : (l.isEmpty || inB k (-999) 999) = true := by
          cases l with
          | nil => rfl
          | cons a r =>
            obtain ⟨h1, h2⟩ := hkj (by simp)
            simp [inB, h1, h2]
        have hok := Lib.hid (show laterOk l k = gatesB (l.map (shift k)) by simp only [laterOk, HV.out, hin, Bool.true_and])
        clear hin hkj
        simp only [List.take_length] at hown
        obtain ⟨L, hL⟩ : ∃ L, L = l.map (shift k) := ⟨_, rfl⟩
        have hlj : L.length ≤ 10 := by rw [hL, List.length_map]; exact hl10
        rw [← hL] at hown hok
        have HL := Lib.hid hL
        simp only [List.take_length]
        rw [← hL]
        clear hL
        go_wp2_with fail
        refine (iGatesValid _ _ _ _ L _ (by omega) (Rd.of_own hown) (Nat.le_refl _)).mono ?_
        rintro e w2 ⟨rfl, hb2⟩
        have hb12 := hb.trans (hb2.mono hbs)
        cases hg : gatesB L
        · have HG := Lib.hid (hok.out.trans hg)
          clear hg
          go_wp2_with fail
          go_ret2
          exact retSB_no HG.out hb12 rfl
        · have HG := Lib.hid (hok.out.trans hg)
          clear hg
          go_wp2_with fail
          go_ret2
          have e : laterL l k = L := by rw [laterL, HG.out, if_pos rfl, HL.out]
          rw [e, HG.out]
          exact ⟨_, _, rfl, own_below hown hb2, hb12⟩

set_option maxHeartbeats 1000000 in
theorem sGatesLater (A : Option Addr) (c lo hi : Nat) (l : List T3) (k : Int) (w : World) (hl : l.length ≤ 1048576) (hr : Rd w lo hi A (flat3 l)) (hh : hi ≤ w.heap.size) :
    Calls Try.prog 20 #[.slice A l.length c, .int .i64 k] w (RetSB 37 (laterL l k) (laterOk l k) w) := by
  obtain ⟨i0, hi0, hz0, hz1, hz2⟩ := info_parts infoGate
  by_cases hgo : gatesB l = true ∧ inB k (-999) 999 = true
  · obtain ⟨hv, hk⟩ := hgo
    have HV := Lib.hid hv
    have HK := Lib.hid hk
    have hl10 := gatesB_le hv
    have hkb : -999 ≤ k ∧ k ≤ 999 := by simpa [inB] using hk
    obtain ⟨hk1, hk2⟩ := hkb
    have hok := Lib.hid (show laterOk l k = gatesB (l.map (shift k)) by simp only [laterOk, hv, hk, Bool.or_true, Bool.true_and])
    clear hv hk
    go_enter Try.func20, Try.ntmps20
    go_wp2_with fail
    go_loopw [6, 7] (fun v i wr => ∃ j : Nat, j ≤ l.length ∧ i = .int .i64 j ∧ laterRel w.heap.size 37 l k j v wr ∧ Below w.heap.size w wr) (fun _ i _ => l.length - (intOf i).toNat)
    case atStart => exact ⟨0, Nat.zero_le _, rfl, ⟨_, _, rfl, own_lit0 w _ _ 3 (Nat.le_refl _)⟩, below_alloc (Below.refl _ _) _⟩
    case round =>
      obtain ⟨j, hj, rfl, ⟨g, cap, rfl, hown⟩, hb⟩ := hrel
      by_cases hlt : j < l.length
      · have hx1 := gatesB_get HV.out j hlt
        have hstep := Lib.hid (later_step l k j hlt)
        have hlj : ((l.take j).map (shift k)).length ≤ 10 := by rw [List.length_map, List.length_take]; omega
        obtain ⟨L, hL⟩ : ∃ L, L = (l.take j).map (shift k) := ⟨_, rfl⟩
        rw [← hL] at hown hlj hstep
        have HL := Lib.hid hL
        rw [← hL]
        clear hL
        have hbs := hb.size
        go_wp2_with fail
        refine (sGatesValid _ _ _ _ l _ hl (hr.below hb hh) (Nat.le_trans hh hbs)).mono ?_
        rintro e w2 ⟨rfl, hb2⟩
        rw [HV.out]
        have hb12 := hb.trans (hb2.mono hbs)
        have hown2 := own_below hown hb2
        have hbs2 := hb12.size
        go_wp2_with fail
        refine (l6In_any _ _ _ _).mono ?_
        rintro e w3 ⟨rfl, rfl⟩
        rw [HK.out]
        obtain ⟨b, off, rfl, hlo, hhi, c0, c1, c2⟩ := (hr.below hb12 hh).at3 j hlt
        obtain ⟨x, hx⟩ : ∃ x, x = l[j] := ⟨_, rfl⟩
        rw [← hx] at c0 c1 c2 hx1 hstep
        have HX := Lib.hid hx
        have hbw : b < w2.heap.size := by omega
        have hbw0 : b < w.heap.size := by omega
        have hj0 : (0 : Int) ≤ (j : Int) := by omega
        have hj1 : (j : Int) < (l.length : Int) := by omega
        have hw1 : IntKind.i64.wrap (x.1 + k) = x.1 + k := IntWalk.i64_in _ (by omega)
        clear hx hown hb hb2
        go_wp2_with fail
        go_region_held3 (fun w' => w'.cell? ⟨b, off + j * 3, none⟩ = some (.int .i64 x.1) ∧ w'.cell? ⟨b, off + j * 3 + 1, none⟩ = some (.int .i64 x.2.1) ∧ w'.cell? ⟨b, off + j * 3 + 2, none⟩ = some (.int .i64 x.2.2)) (go_keep)
          ((refine step_append3 (by rfl) _ _ 25 (by rfl) w.heap.size 37 i0 _ Try.underlying25 hi0 hz0 hz1 hz2 rfl _ L (by rfl) (hown2.drew.alloc _) w2.heap.size _ _ _ (nb1 _ _) (by rfl) (by omega) (ls1 hbs2 _) ?_; intro g2 cap2 w3 hown3 hg3 _ _; have hb3 := below_grown (below_alloc hb12.drew _) (ls1 hbs2 _) (hown2.drew.alloc _) (Nat.le_refl _) hg3; have e0 := cell_two hb12 hb3 hbw0 c0; have e1 := cell_two hb12 hb3 hbw0 c1; have e2 := cell_two hb12 hb3 hbw0 c2))
        clear hw1 e0 e1 e2
        go_wp2
        go_roundw
        case rel => exact ⟨j + 1, by omega, by go_num, ⟨g2, cap2, by rw [hstep.out]; simp, by rw [hstep.out]; simpa using hown3⟩, hb3⟩
        case measure => simp [intOf]; omega
      · obtain rfl : j = l.length := by omega
        have hbs := hb.size
        simp only [List.take_length] at hown
        obtain ⟨L, hL⟩ : ∃ L, L = l.map (shift k) := ⟨_, rfl⟩
        have hlj : L.length ≤ 10 := by rw [hL, List.length_map]; exact hl10
        have hne : ((L.length : Int) != (l.length : Int)) = false := by rw [hL, List.length_map]; simp
        rw [← hL] at hown hok
        have HL := Lib.hid hL
        simp only [List.take_length]
        rw [← hL]
        clear hL
        go_wp2_with fail
        refine (sGatesValid _ _ _ _ L _ (by omega) (Rd.of_own hown) (Nat.le_refl _)).mono ?_
        rintro e w2 ⟨rfl, hb2⟩
        have hb12 := hb.trans (hb2.mono hbs)
        cases hg : gatesB L
        · have HG := Lib.hid (hok.out.trans hg)
          clear hg
          go_wp2_with fail
          go_ret2
          exact retSB_no HG.out hb12 rfl
        · have HG := Lib.hid (hok.out.trans hg)
          clear hg
          go_wp2_with fail
          go_ret2
          have e : laterL l k = L := by rw [laterL, HG.out, if_pos rfl, HL.out]
          rw [e, HG.out]
          exact ⟨_, _, rfl, own_below hown hb2, hb12⟩
  · rcases Nat.eq_zero_or_pos l.length with hz | hz
    · have hgn : gatesB ([] : List T3) = true := by decide
      have hfin : laterOk l k = true ∧ laterL l k = [] := by
        have e : l = [] := List.length_eq_zero_iff.1 hz
        subst e
        simp [laterOk, laterL, hgn]
      have HF := Lib.hid hfin
      have hz3 : decide (0 < l.length) = false := decide_eq_false (by omega)
      have hne : ((0 : Int) != (l.length : Int)) = false := by simp; omega
      clear hz hfin hgo
      generalize hn : l.length = n at *
      go_enter Try.func20, Try.ntmps20
      go_wp2_with fail
      refine wp_loop_rounds 1 ?_
      rw [rounds_succ]
      go_wp2_with fail
      refine (sGatesValid _ 0 0 0 [] _ (by simp) Rd.nil (Nat.zero_le _)).mono ?_
      rintro e w2 ⟨rfl, hb2⟩
      rw [hgn]
      clear hgn
      go_wp2_with fail
      go_ret2
      rw [HF.out.1, HF.out.2]
      have hb1 : Below w.heap.size w (w.alloc (.cells #[] 37)) := below_alloc (Below.refl _ _) _
      exact ⟨_, _, rfl, own_below (own_lit0 w _ _ 3 (Nat.le_refl _)) hb2, hb1.trans (hb2.mono hb1.size)⟩
    · have hres := Lib.hid (show laterOk l k = false by
        have hne : l.isEmpty = false := by cases l with | nil => simp at hz | cons _ _ => rfl
        simp only [laterOk, hne, Bool.false_or]
        cases hv : gatesB l
        · rfl
        · cases hk : inB k (-999) 999
          · rfl
          · exact absurd ⟨hv, hk⟩ hgo)
      have hne : ((0 : Int) != (l.length : Int)) = true := by simp; omega
      have hlt : decide (0 < l.length) = true := decide_eq_true hz
      cases hv : gatesB l
      · have HV := Lib.hid hv
        clear hv hgo
        go_enter Try.func20, Try.ntmps20
        go_wp2_with fail
        refine wp_loop_rounds 1 ?_
        rw [rounds_succ]
        go_wp2_with fail
        have hb1 : Below w.heap.size w (w.alloc (.cells #[] 37)) := below_alloc (Below.refl _ _) _
        refine (sGatesValid _ _ _ _ l _ hl (hr.below hb1 hh) (Nat.le_trans hh hb1.size)).mono ?_
        rintro e w2 ⟨rfl, hb2⟩
        rw [HV.out]
        have hb12 := hb1.trans (hb2.mono hb1.size)
        go_wp2_with fail
        go_ret2
        exact retSB_no hres.out hb12 rfl
      · have HV := Lib.hid hv
        have HK := Lib.hid (show inB k (-999) 999 = false by
          cases hk : inB k (-999) 999
          · rfl
          · exact absurd ⟨hv, hk⟩ hgo)
        clear hv hgo
        go_enter Try.func20, Try.ntmps20
        go_wp2_with fail
        refine wp_loop_rounds 1 ?_
        rw [rounds_succ]
        go_wp2_with fail
        have hb1 : Below w.heap.size w (w.alloc (.cells #[] 37)) := below_alloc (Below.refl _ _) _
        refine (sGatesValid _ _ _ _ l _ hl (hr.below hb1 hh) (Nat.le_trans hh hb1.size)).mono ?_
        rintro e w2 ⟨rfl, hb2⟩
        rw [HV.out]
        have hb12 := hb1.trans (hb2.mono hb1.size)
        go_wp2_with fail
        refine (l6In_any _ _ _ _).mono ?_
        rintro e w3 ⟨rfl, rfl⟩
        rw [HK.out]
        go_wp2_with fail
        go_ret2
        exact retSB_no hres.out hb12 rfl

end Go.Proofs.Ytgalkbnlpadpfaa

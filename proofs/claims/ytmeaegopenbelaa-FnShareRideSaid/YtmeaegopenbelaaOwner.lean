/-
  The program's PartsMiles and PartsOwner.
-/
import Derived.Test.YtmeaegopenbelaaWorked
import Derived.Test.YtmeaegopenbelaaPartsI
import Derived.Test.YtmeaegopenbelaaOwn
namespace Go.Proofs.Ytmeaegopenbelaa
open Go.RowKit Go.Shelf

attribute [local go_sem] Oper.semAt_some

theorem worked_any (A : Option Addr) (c lo hi : Nat) (ps : List T2) (a b : Int) (w : World) (hok : partsB ps = true) (ha : 0 ≤ a) (hr : Rd w lo hi A (flat2 ps)) (hh : hi ≤ w.heap.size) :
    Calls Try.prog 43 #[.slice A ps.length c, .int .i64 a, .int .i64 b] w (RetI 3 (cntL (stretchL ps a b)) w) :=
  (callsIn_wide (n := 3)).1 (worked_in Fence.wide 3 trivial trivial trivial rfl (Nat.le_refl _) A c lo hi ps a b w hok ha hr hh)
set_option maxHeartbeats 1000000 in
theorem iPartsMiles_any (A : Option Addr) (c lo hi : Nat) (ps : List T2) (w : World) (hl : ps.length ≤ 1048576) (hr : Rd w lo hi A (flat2 ps)) (hh : hi ≤ w.heap.size) :
    Calls Try.prog 14 #[.slice A ps.length c] w (RetLB 3 (milesV ps) (partsB ps) w) := by
  cases hok : partsB ps
  · have HV := Lib.hid hok
    have hnl := Lib.hid (show milesV ps = [] by unfold milesV; rw [hok]; rfl)
    clear hok
    go_enter Try.func14, Try.ntmps14
    go_wp2_with fail
    refine (iPartsValid_any _ _ _ _ ps _ hl hr hh).mono ?_
    rintro e w1 ⟨rfl, hb⟩
    rw [HV.out]
    go_wp2_with fail
    go_ret2
    exact retLB_no rfl hnl.out hb rfl
  · have HV := Lib.hid hok
    have hs := stretch_all hok
    have hnl := Lib.hid (show milesV ps = cntL (stretchL ps 0 (lenV ps)) by unfold milesV lenV; rw [hok]; simp only [if_true]; rw [hs.2])
    clear hok hs
    go_enter Try.func14, Try.ntmps14
    go_wp2_with fail
    refine (iPartsValid_any _ _ _ _ ps _ hl hr hh).mono ?_
    rintro e w1 ⟨rfl, hb1⟩
    rw [HV.out]
    have hr1 := hr.below hb1 hh
    have hh1 := Nat.le_trans hh hb1.size
    clear hr
    go_wp2_with fail
    refine (iPartsLength_any _ _ _ _ ps _ hl hr1 hh1).mono ?_
    rintro e w2 ⟨rfl, hb2⟩
    have hr2 := hr1.below hb2 hh1
    have hb12 := hb1.trans (hb2.mono hb1.size)
    have hh2 := Nat.le_trans hh1 hb2.size
    clear hr1
    generalize lenV ps = V at *
    go_wp2_with fail
    refine (worked_any _ _ _ _ ps 0 V _ HV.out (Int.le_refl 0) hr2 hh2).mono ?_
    rintro e w3 ⟨A3, c3, rfl, ho3, hb3⟩
    go_wp2_with fail
    go_ret2
    rw [hnl.out]
    exact ⟨A3, c3, rfl, own_mono ho3 hb12.size, hb12.trans (hb3.mono hb12.size)⟩
theorem upTo_last {own : List Int} {k : Nat} {ini : List Mo} {x : Mo} (h : ini ++ [x] = upTo own k) : ∃ j, k = j + 1 ∧ x = mile own j := by
  cases k with
  | zero => simp [upTo] at h
  | succ j =>
    rw [upTo_succ] at h
    obtain ⟨_, e⟩ := List.append_inj' h rfl
    exact ⟨j, rfl, by simpa using e⟩
set_option maxRecDepth 100000 in
set_option maxHeartbeats 4000000 in
theorem iPartsOwner_any (A : Option Addr) (c lo hi : Nat) (ps : List T2) (m : Int) (w : World) (hl : ps.length ≤ 1048576) (hok : partsB ps = true) (hm0 : 0 ≤ m) (hm1 : m < (ownersL ps).length) (hr : Rd w lo hi A (flat2 ps)) (hh : hi ≤ w.heap.size) :
    Calls Try.prog 31 #[.slice A ps.length c, .int .i64 m] w fun e w' => e = .returned (.tuple #[.int .i64 ((ownersL ps).getD m.toNat 0), .bool true]) ∧ Below w.heap.size w w' := by
  refine (callsIn_wide (n := 5)).1 ?_
  have HOK := Lib.hid hok
  have hin := (parts_pos hok).2.2.2.2
  have HV := Lib.hid (show ∀ j : Nat, (j : Int) = m → ((((mile (ownersL ps) j).2).val : Nat) : Int) = (ownersL ps).getD m.toNat 0 from fun j hj => by
    obtain rfl : j = m.toNat := by omega
    have hlt : m.toNat < (ownersL ps).length := by omega
    have ho := hin (ownersL ps)[m.toNat] (List.getElem_mem hlt)
    unfold mile
    rw [List.getD_eq_getElem?_getD, List.getElem?_eq_getElem hlt]
    exact toFin_val ho.1 ho.2)
  have HNO := Lib.hid (show (∀ x ∈ upTo (ownersL ps) (ownersL ps).length, ((x.1 : Nat) : Int) ≠ m) → False from fun h => by
    refine h (mile (ownersL ps) m.toNat) (List.mem_map.2 ⟨m.toNat, List.mem_range.2 (by omega), rfl⟩) ?_
    show ((m.toNat : Nat) : Int) = m
    omega)
  have HLB := Lib.hid hm1
  have hro : Fence.wide.round = none := rfl
  have hfm : Fence.wide.fn 51 := trivial
  have h1 : 1 ≤ 5 := by omega
  clear hin hok hm1
  refine callsIn_of_wp_marks Try.func31 rfl trivial ?_ hro
  simp only [Try.ntmps31, List.size_toArray, List.length_cons, List.length_nil, Nat.reduceAdd, Nat.reduceSub, Array.replicate_succ, Array.replicate_zero, List.push_toArray, List.append_toArray, List.nil_append, List.cons_append]
  have hbA : Below w.heap.size w (((w.alloc (.cells #[.int .i64 m] 3)).alloc (.cells #[.int .i64 0] 3)).alloc (.cells #[.bool false] 4)) := below_alloc (below_alloc (below_alloc (Below.refl _ _) _) _) _
  have HRA := Lib.hid (hr.below hbA hh)
  have hhA : hi ≤ (((w.alloc (.cells #[.int .i64 m] 3)).alloc (.cells #[.int .i64 0] 3)).alloc (.cells #[.bool false] 4)).heap.size := Nat.le_trans hh hbA.size
  gi_wp2
  refine ⟨trivial, ?_⟩
  refine (callsIn_wide.2 (iPartsValid_any _ _ _ _ ps _ hl HRA.out hhA)).mono ?_
  rintro e w1 ⟨rfl, hb1⟩
  rw [HOK.out]
  generalize hWA : (((w.alloc (.cells #[.int .i64 m] 3)).alloc (.cells #[.int .i64 0] 3)).alloc (.cells #[.bool false] 4)) = WA at *
  have hzA : WA.heap.size = w.heap.size + 3 := by rw [← hWA]; simp
  have a0 : WA.cell? ⟨w.heap.size, 0, none⟩ = some (.int .i64 m) := by rw [← hWA]; simp [go_sem]
  have a1 : WA.cell? ⟨w.heap.size + 1, 0, none⟩ = some (.int .i64 0) := by rw [← hWA]; simp [go_sem]
  have a2 : WA.cell? ⟨w.heap.size + 1 + 1, 0, none⟩ = some (.bool false) := by rw [← hWA]; simp [go_sem]
  have g1 : WA.frozen? ⟨w.heap.size + 1, 0, none⟩ = false := by rw [← hWA]; simp [go_sem]
  have g2 : WA.frozen? ⟨w.heap.size + 1 + 1, 0, none⟩ = false := by rw [← hWA]; simp [go_sem]
  have hz1 := hb1.size
  have b0 := (hb1.cell (p := ⟨w.heap.size, 0, none⟩) (show w.heap.size < _ by omega)).trans a0
  have b1 := (hb1.cell (p := ⟨w.heap.size + 1, 0, none⟩) (show w.heap.size + 1 < _ by omega)).trans a1
  have b2 := (hb1.cell (p := ⟨w.heap.size + 1 + 1, 0, none⟩) (show w.heap.size + 1 + 1 < _ by omega)).trans a2
  have k1 := (hb1.frozen (p := ⟨w.heap.size + 1, 0, none⟩) (show w.heap.size + 1 < _ by omega)).trans g1
  have k2 := (hb1.frozen (p := ⟨w.heap.size + 1 + 1, 0, none⟩) (show w.heap.size + 1 + 1 < _ by omega)).trans g2
  have hB1 := hbA.trans (hb1.mono hbA.size)
  have hr1 := HRA.out.below hb1 hhA
  clear hWA a0 a1 a2 g1 g2 hb1 HRA hr
  gi_wp2
  refine (milesOf_in Fence.wide 4 trivial hro A ps.length c _).mono ?_
  rintro e w2 ⟨rfl, rfl⟩
  have c0 := (cell_alloc1 (w := w1) (p := ⟨w.heap.size, 0, none⟩) (.cells #[.slice A ps.length c] 23) (show w.heap.size < _ by omega)).trans b0
  have c1 := (cell_alloc1 (w := w1) (p := ⟨w.heap.size + 1, 0, none⟩) (.cells #[.slice A ps.length c] 23) (show w.heap.size + 1 < _ by omega)).trans b1
  have c2 := (cell_alloc1 (w := w1) (p := ⟨w.heap.size + 1 + 1, 0, none⟩) (.cells #[.slice A ps.length c] 23) (show w.heap.size + 1 + 1 < _ by omega)).trans b2
  have j1 := (frozen_alloc1 (w := w1) (p := ⟨w.heap.size + 1, 0, none⟩) (.cells #[.slice A ps.length c] 23) (show w.heap.size + 1 < _ by omega)).trans k1
  have j2 := (frozen_alloc1 (w := w1) (p := ⟨w.heap.size + 1 + 1, 0, none⟩) (.cells #[.slice A ps.length c] 23) (show w.heap.size + 1 + 1 < _ by omega)).trans k2
  have hB0 := below_alloc hB1 (.cells #[.slice A ps.length c] 23)
  have cP : (w1.alloc (.cells #[.slice A ps.length c] 23)).cell? ⟨w1.heap.size, 0, none⟩ = some (.slice A ps.length c) := by simp [go_sem]
  have hrP := (hr1.alloc (Nat.le_trans hhA hz1) (.cells #[.slice A ps.length c] 23)).more (Nat.zero_le lo) (Nat.le_refl _)
  have hsz : (w1.alloc (.cells #[.slice A ps.length c] 23)).heap.size = w1.heap.size + 1 := by simp
  generalize w1.alloc (.cells #[.slice A ps.length c] 23) = W0 at *
  clear b0 b1 b2 k1 k2 hB1 hr1
  gi_wp2
  refine wpIn_rangeFunc_ownG hro h1 (gf := 56) (lb := #[.pointer (some ⟨w1.heap.size, 0, none⟩)]) rfl trivial (enters_of Try.func56 (by kernel_rfl) rfl)
    (miles_stops Fence.wide 4 trivial hro (by omega) w1.heap.size w.heap.size hi c A ps HOK.out hh W0 (by omega) hB0.size cP hrP) (fun h k => h.trans k) (keepC_b hB0.size) (Below.refl _ _) (fun _ => rfl)
    (fun pre W => ((∀ x ∈ pre, ((x.1 : Nat) : Int) ≠ m) ∧ W.cell? ⟨w.heap.size, 0, none⟩ = some (.int .i64 m) ∧ W.cell? ⟨w.heap.size + 1, 0, none⟩ = some (.int .i64 0) ∧ W.frozen? ⟨w.heap.size + 1, 0, none⟩ = false ∧ W.cell? ⟨w.heap.size + 1 + 1, 0, none⟩ = some (.bool false) ∧ W.frozen? ⟨w.heap.size + 1 + 1, 0, none⟩ = false) ∧ Below w.heap.size w W)
    (fun cc pre W => (cc = .ret ∧ ∃ ini x, pre = ini ++ [x] ∧ ((x.1 : Nat) : Int) = m ∧ W.cell? ⟨w.heap.size + 1, 0, none⟩ = some (.int .i64 ((x.2.val : Nat) : Int)) ∧ W.cell? ⟨w.heap.size + 1 + 1, 0, none⟩ = some (.bool true)) ∧ Below w.heap.size w W)
    (OwnFrom.and (Own.from (fun s X Y row hs hg hr => ⟨hs.1, cell_kept hs.2.1 hg hr, cell_kept hs.2.2.1 hg hr, (frozen_kept hs.2.2.1 hg hr).trans hs.2.2.2.1, cell_kept hs.2.2.2.2.1 hg hr, (frozen_kept hs.2.2.2.2.1 hg hr).trans hs.2.2.2.2.2⟩) _) (ownFrom_below (Nat.le_refl _) hB0.size))
    (fun cc => OwnFrom.and (Own.from (fun s X Y row hs hg hr => by obtain ⟨e1, ini, x, e2, e3, e4, e5⟩ := hs; exact ⟨e1, ini, x, e2, e3, cell_kept e4 hg hr, cell_kept e5 hg hr⟩) _) (ownFrom_below (Nat.le_refl _) hB0.size))
    ⟨⟨by simp, c0, c1, j1, c2, j2⟩, hB0⟩
    (fun x => { tmps := #[.slice A ps.length c, .int .i64 m, undef, .pointer (some ⟨w.heap.size, 0, none⟩), .pointer (some ⟨w.heap.size + 1, 0, none⟩), .pointer (some ⟨w.heap.size + 1 + 1, 0, none⟩), .int .i64 (x.1 : Int), .int .i64 ((x.2.val : Nat) : Int), .slice A ps.length c, .bool true, .bool false, .slice A ps.length c, .func (.func 56) #[] #[.pointer (some ⟨w1.heap.size, 0, none⟩)], .int .i64 (x.1 : Int), .int .i64 ((x.2.val : Nat) : Int), undef, undef, undef, undef], defers := [] }) ?assign ?body ?done ?stop
  case assign =>
    intro l x W K hK
    simp only [moE]
    gi_wp2
    exact hK
  case body =>
    rintro l pre x W ⟨⟨hp, q0, q1, r1, q2, r2⟩, hB⟩ hlen
    have HP := Lib.hid hp
    clear hp
    have hx6 := x.2.isLt
    by_cases hx : ((x.1 : Nat) : Int) = m
    · have e1 : (((x.1 : Nat) : Int) == m) = true := by simp [hx]
      have HX := Lib.hid hx
      clear hx
      gi_wp2
      refine ⟨((KeepsOthers.setCell _ _ _).trans (KeepsOthers.setCell _ _ _)).from _, ⟨rfl, pre, x, rfl, HX.out, ?_, ?_⟩, (hB.setCell (p := ⟨w.heap.size + 1, 0, none⟩) (show w.heap.size ≤ w.heap.size + 1 by omega) _).setCell (p := ⟨w.heap.size + 1 + 1, 0, none⟩) (show w.heap.size ≤ w.heap.size + 1 + 1 by omega) _⟩
      · rw [cell_set_ne (.inl (by omega))]; exact cell_set_same q1
      · refine cell_set_same (v := .bool false) ?_
        rw [cell_set_ne (.inl (by omega))]; exact q2
    · have e1 : (((x.1 : Nat) : Int) == m) = false := by simp [hx]
      have HX := Lib.hid hx
      clear hx
      gi_wp2
      refine ⟨KeepsFrom.refl _ _, ⟨Below.refl _ _, fun _ _ _ ho' _ => ho'⟩, ⟨fun y hy => ?_, q0, q1, r1, q2, r2⟩, hB⟩
      rcases List.mem_append.1 hy with hy | hy
      · exact HP.out y hy
      · rw [List.mem_singleton] at hy; subst hy; exact HX.out
  case done =>
    rintro D ys W hD rfl ⟨⟨hp, _⟩, _⟩ _
    exact (HNO.out hp).elim
  case stop =>
    rintro D cc pre W hD ⟨k, hk, rfl⟩ ⟨⟨rfl, ini, x, e1, e2, q1, q2⟩, hB⟩ hK
    obtain ⟨j, rfl, rfl⟩ := upTo_last e1.symm
    have hv := HV.out j e2
    rw [hv] at q1
    have HQ := Lib.hid q1
    clear e1 e2 hv
    gi_wp2
    refine ⟨by simp, .inl ⟨_, _, rfl, run_takeDeferred hK, ?_⟩⟩
    have hc4 := cell_kept q1 (grownBy_putObj' _ D (.deferred none)) (fun r e => by cases e; exact ⟨_, hK, rfl⟩)
    have hc5 := cell_kept q2 (grownBy_putObj' _ D (.deferred none)) (fun r e => by cases e; exact ⟨_, hK, rfl⟩)
    refine ⟨_, ?_, rfl, hB.trans (belowK_b (w := w) (Nat.le_refl _) W D _ _ (by have := hB0.size; omega) hK rfl rfl)⟩
    simp [results, Try.f31, go_sem, hc4, hc5]

end Go.Proofs.Ytmeaegopenbelaa

/-
  The program's worked: how many miles each proprietor works on a stretch.
-/
import Derived.RangeFuncWrites
import Derived.Test.YtmeaegopenbelaaMilesI
import Derived.Test.YtmeaegopenbelaaPartsS
namespace Go.Proofs.Ytmeaegopenbelaa
open Go.RowKit Go.Shelf

attribute [local go_sem] Oper.semAt_some

theorem milesOf_in (F : Fence) (n : Nat) (hf : F.fn 51) (hro : F.round = none) (A : Option Addr) (m c : Nat) (w : World) :
    CallsIn F n Try.prog 51 #[.slice A m c] w fun e w' => e = .returned (.func (.func 56) #[] #[.pointer (some ⟨w.heap.size, 0, none⟩)]) ∧ w' = w.alloc (.cells #[.slice A m c] 23) := by
  refine callsIn_of_wp Try.func51 rfl hf ?_ hro
  simp only [Try.ntmps51, List.size_toArray, List.length_cons, List.length_nil, Nat.reduceAdd, Nat.reduceSub, Array.replicate_succ, Array.replicate_zero, List.push_toArray, List.append_toArray, List.nil_append, List.cons_append]
  gi_wp2
  go_ret
  exact ⟨rfl, rfl⟩
theorem miles_stops (F : Fence) (n : Nat) (hf : F.fn 56) (hro : F.round = none) (hn : 1 ≤ n) (Bs n₀ hi c : Nat) (A : Option Addr) (ps : List T2) (hok : partsB ps = true) (hhi : hi ≤ n₀) (w : World) (hBs : Bs < w.heap.size) (hn0 : n₀ ≤ w.heap.size)
    (hc : w.cell? ⟨Bs, 0, none⟩ = some (.slice A ps.length c)) (hr : Rd w 0 hi A (flat2 ps)) :
    SeqStopsK F n Try.prog 56 #[.pointer (some ⟨Bs, 0, none⟩)] moE (KeepC n₀ w.heap.size) (fun ys => ys = upTo (ownersL ps) (ownersL ps).length) (fun pre => ∃ k, k ≤ (ownersL ps).length ∧ pre = upTo (ownersL ps) k) (ownersL ps).length w := fun l J Jx W hW hJ _ hY h0 =>
  miles1_in F n hf hro hn l Bs n₀ w.heap.size hi c A ps hok hhi hn0 J Jx W hW.size (Nat.le_trans hn0 hW.size) hJ (hr.below hW (Nat.le_trans hhi hn0)) hY ((hW.cell (p := ⟨Bs, 0, none⟩) hBs).trans hc) h0
/-- What has been counted of a stretch. -/
def cntM (a b : Int) (pre : List Mo) : List Int := cntL ((pre.filter fun x => decide (a ≤ (x.1 : Int)) && decide ((x.1 : Int) < b)).map fun x => ((x.2.val : Nat) : Int))
theorem cntM_nil (a b : Int) : cntM a b [] = List.replicate 6 0 := by unfold cntM; rw [List.filter_nil, List.map_nil, cntL_nil]
theorem cntM_len (a b : Int) (pre : List Mo) : (cntM a b pre).length = 6 := cntL_len _
theorem cntM_yes {a b : Int} {pre : List Mo} {x : Mo} (h1 : a ≤ (x.1 : Int)) (h2 : (x.1 : Int) < b) : cntM a b (pre ++ [x]) = (cntM a b pre).set x.2.val ((cntM a b pre).getD x.2.val 0 + 1) := by
  have hx := x.2.isLt
  unfold cntM
  rw [List.filter_append, List.filter_cons, if_pos (by simp [h1, h2]), List.filter_nil, List.map_append, List.map_cons, List.map_nil, cntL_snoc _ (by omega) (by omega), Int.toNat_natCast]
theorem cntM_no {a b : Int} {pre : List Mo} {x : Mo} (h : ¬ (a ≤ (x.1 : Int) ∧ (x.1 : Int) < b)) : cntM a b (pre ++ [x]) = cntM a b pre := by
  unfold cntM
  rw [List.filter_append, List.filter_cons, if_neg (by simp; omega), List.filter_nil, List.append_nil]
theorem cntM_bd (a b : Int) (pre : List Mo) : ∀ x ∈ cntM a b pre, 0 ≤ x ∧ x ≤ pre.length := by
  intro x hx
  have h1 := cntL_bd _ x hx
  have h2 := List.length_filter_le (fun x : Mo => decide (a ≤ (x.1 : Int)) && decide ((x.1 : Int) < b)) pre
  rw [List.length_map] at h1
  omega
theorem upTo_filter {own : List Int} (hin : ∀ o ∈ own, 0 ≤ o ∧ o ≤ 5) {a b : Int} (ha : 0 ≤ a) (M : Nat) (hM : M ≤ own.length) :
    ((upTo own M).filter fun x => decide (a ≤ (x.1 : Int)) && decide ((x.1 : Int) < b)).map (fun x => ((x.2.val : Nat) : Int)) = ((own.take M).take b.toNat).drop a.toNat := by
  induction M with
  | zero => simp [upTo]
  | succ M ih =>
    have ih := ih (by omega)
    have hlt : M < own.length := by omega
    have ho := hin own[M] (List.getElem_mem hlt)
    have hv : (((mile own M).2.val : Nat) : Int) = own[M] := by
      unfold mile
      rw [List.getD_eq_getElem?_getD, List.getElem?_eq_getElem hlt]
      exact toFin_val ho.1 ho.2
    have hl : (own.take M).length = M := by rw [List.length_take]; omega
    rw [upTo_succ, List.filter_append, List.map_append, ih, List.take_succ_eq_append_getElem hlt]
    by_cases hb : (M : Int) < b
    · rw [List.take_of_length_le (l := own.take M ++ [own[M]]) (by simp [hl]; omega), List.take_of_length_le (l := own.take M) (by omega)]
      by_cases h1 : a ≤ (M : Int)
      · rw [List.filter_cons, if_pos (by simp [mile, h1, hb]), List.filter_nil, List.map_cons, List.map_nil, hv, List.drop_append_of_le_length (by omega)]
      · rw [List.filter_cons, if_neg (by simp [mile]; omega), List.filter_nil, List.map_nil, List.append_nil, List.drop_eq_nil_of_le (by omega), List.drop_eq_nil_of_le (by simp [hl]; omega)]
    · rw [List.filter_cons, if_neg (by simp [mile]; omega), List.filter_nil, List.map_nil, List.append_nil]
      rw [List.take_append_of_le_length (by omega)]
theorem cntM_all {ps : List T2} (hok : partsB ps = true) {a b : Int} (ha : 0 ≤ a) : cntM a b (upTo (ownersL ps) (ownersL ps).length) = cntL (stretchL ps a b) := by
  unfold cntM stretchL
  rw [upTo_filter (parts_pos hok).2.2.2.2 ha _ (Nat.le_refl _), List.take_length]

set_option maxRecDepth 100000 in
set_option maxHeartbeats 4000000 in
theorem worked_in (F : Fence) (n : Nat) (hk0 : F.fn 43) (hk1 : F.fn 51) (hk2 : F.fn 56) (hro : F.round = none) (hn : 3 ≤ n) (A : Option Addr) (c lo hi : Nat) (ps : List T2) (a b : Int) (w : World) (hok : partsB ps = true) (ha : 0 ≤ a) (hr : Rd w lo hi A (flat2 ps)) (hh : hi ≤ w.heap.size) :
    CallsIn F n Try.prog 43 #[.slice A ps.length c, .int .i64 a, .int .i64 b] w (RetI 3 (cntL (stretchL ps a b)) w) := by
  have h1 : 1 ≤ n := by omega
  obtain ⟨hpos, hsum, hNb, hN1, hNin⟩ := parts_pos hok
  have HFIN := Lib.hid (cntM_all hok (b := b) ha)
  have HOK := Lib.hid hok
  have hmk : ∀ w : World, (Instr.makeSlice 26 (.int .i64 6) (.int .i64 6)).run Try.prog w = .ok (.slice (some ⟨w.heap.size, 0, none⟩) 6 6) (w.alloc (.cells #[.int .i64 0, .int .i64 0, .int .i64 0, .int .i64 0, .int .i64 0, .int .i64 0] 3)) := fun _ => by kernel_rfl
  clear hpos hsum hok hNin
  refine callsIn_of_wp_marks Try.func43 rfl hk0 ?_ hro
  simp only [Try.ntmps43, List.size_toArray, List.length_cons, List.length_nil, Nat.reduceAdd, Nat.reduceSub, Array.replicate_succ, Array.replicate_zero, List.push_toArray, List.append_toArray, List.nil_append, List.cons_append]
  gi_wp2_with (gi_at_call 51; refine (milesOf_in F _ hk1 hro _ _ _ _).mono ?_; rintro e w' ⟨rfl, rfl⟩)
  generalize hW0 : ((((w.alloc (.cells #[.int .i64 a] 3)).alloc (.cells #[.int .i64 b] 3)).alloc (.cells #[.int .i64 0, .int .i64 0, .int .i64 0, .int .i64 0, .int .i64 0, .int .i64 0] 3)).alloc (.cells #[.slice (some ⟨w.heap.size + 1 + 1, 0, none⟩) 6 6] 26)).alloc (.cells #[.slice A ps.length c] 23) = W0
  have hsz : W0.heap.size = w.heap.size + 5 := by rw [← hW0]; simp
  have hB0 : Below w.heap.size w W0 := by rw [← hW0]; exact below_alloc (below_alloc (below_alloc (below_alloc (below_alloc (Below.refl _ _) _) _) _) _) _
  have c0 : W0.cell? ⟨w.heap.size, 0, none⟩ = some (.int .i64 a) := by rw [← hW0]; simp [go_sem]
  have c1 : W0.cell? ⟨w.heap.size + 1, 0, none⟩ = some (.int .i64 b) := by rw [← hW0]; simp [go_sem]
  have c3 : W0.cell? ⟨w.heap.size + 1 + 1 + 1, 0, none⟩ = some (.slice (some ⟨w.heap.size + 1 + 1, 0, none⟩) 6 6) := by rw [← hW0]; simp [go_sem]
  have c4 : W0.cell? ⟨w.heap.size + 1 + 1 + 1 + 1, 0, none⟩ = some (.slice A ps.length c) := by rw [← hW0]; simp [go_sem]
  have hrow0 : mRel w.heap.size 3 (w.heap.size + 1 + 1) 6 (cntM a b []) W0 := by
    have h := World.ownsRow_lit (base := w.heap.size) (e := 3) (size := 1) ((w.alloc (.cells #[.int .i64 a] 3)).alloc (.cells #[.int .i64 b] 3)) #[.int .i64 0, .int .i64 0, .int .i64 0, .int .i64 0, .int .i64 0, .int .i64 0] 6 (by simp; omega) (by simp [maxLen]) (by simp)
    have h2 := (h.alloc (.cells #[.slice (some ⟨w.heap.size + 1 + 1, 0, none⟩) 6 6] 26)).alloc (.cells #[.slice A ps.length c] 23)
    rw [hW0] at h2
    rw [mRel, cntM_nil]
    simpa [ints] using h2
  have hr0 := (hr.below hB0 hh).more (Nat.zero_le _) (Nat.le_refl _)
  clear hW0
  refine wpIn_rangeFunc_ownG hro h1 (gf := 56) (lb := #[.pointer (some ⟨w.heap.size + 1 + 1 + 1 + 1, 0, none⟩)]) rfl hk2 (enters_of Try.func56 (by kernel_rfl) rfl)
    (miles_stops F (n - 1) hk2 hro (by omega) (w.heap.size + 1 + 1 + 1 + 1) w.heap.size hi c A ps HOK.out hh W0 (by omega) (by omega) c4 hr0) (fun h k => h.trans k) (keepC_b (by omega)) (Below.refl _ _) (fun _ => rfl)
    (fun pre W => ((W.cell? ⟨w.heap.size, 0, none⟩ = some (.int .i64 a) ∧ W.cell? ⟨w.heap.size + 1, 0, none⟩ = some (.int .i64 b) ∧ W.cell? ⟨w.heap.size + 1 + 1 + 1, 0, none⟩ = some (.slice (some ⟨w.heap.size + 1 + 1, 0, none⟩) 6 6)) ∧ mRel w.heap.size 3 (w.heap.size + 1 + 1) 6 (cntM a b pre) W) ∧ Below w.heap.size w W)
    (fun _ _ _ => False)
    (OwnFrom.and (OwnFrom.and (Own.from (fun s X Y row hs hg hr => ⟨cell_kept hs.1 hg hr, cell_kept hs.2.1 hg hr, cell_kept hs.2.2 hg hr⟩) _) (fun s X Y row hs hg hr => hs.kept hg (.inr (fun e => by have h2 : W0.heap.size ≤ w.heap.size + 1 + 1 := (hr _ e.symm).1; omega)))) (ownFrom_below (Nat.le_refl _) (by omega)))
    (fun _ _ _ _ _ hs _ _ => hs)
    ⟨⟨⟨c0, c1, c3⟩, hrow0⟩, hB0⟩
    (fun x => { tmps := #[.slice A ps.length c, .int .i64 a, .int .i64 b, undef, .pointer (some ⟨w.heap.size, 0, none⟩), .pointer (some ⟨w.heap.size + 1, 0, none⟩), .slice none 0 0, .pointer (some ⟨w.heap.size + 1 + 1 + 1, 0, none⟩), .int .i64 (x.1 : Int), .int .i64 ((x.2.val : Nat) : Int), .slice (some ⟨w.heap.size + 1 + 1, 0, none⟩) 6 6, .slice A ps.length c, .func (.func 56) #[] #[.pointer (some ⟨w.heap.size + 1 + 1 + 1 + 1, 0, none⟩)], .int .i64 (x.1 : Int), .int .i64 ((x.2.val : Nat) : Int), undef, undef, undef, undef, undef, undef, undef, undef, undef, undef, undef, undef, undef, undef, undef], defers := [] }) ?assign ?body ?done ?stop
  case assign =>
    intro l x W K hK
    simp only [moE]
    gi_wp2
    exact hK
  case body =>
    rintro l pre x W ⟨⟨⟨hc0, hc1, hc3⟩, hrow⟩, hB⟩ hlen
    have hx6 := x.2.isLt
    have HY := Lib.hid (fun h1 h2 => cntM_yes (a := a) (b := b) (pre := pre) (x := x) h1 h2)
    have HN := Lib.hid (fun h => cntM_no (a := a) (b := b) (pre := pre) (x := x) h)
    have hl6 : x.2.val < (cntM a b pre).length := by rw [cntM_len]; exact hx6
    have hbd := cntM_bd a b pre _ (List.getElem_mem hl6)
    have d0 := own1_cell hrow x.2.val hl6
    have f0 := hrow.frozenAt x.2.val
    have hst := own1_store hrow x.2.val ((cntM a b pre)[x.2.val] + 1)
    rw [List.getD_eq_getElem?_getD, List.getElem?_eq_getElem hl6] at HY
    simp only [Option.getD_some] at HY
    have HST := Lib.hid hst
    have HR := Lib.hid hrow
    clear hst hrow
    obtain ⟨M, o⟩ := x
    simp only at hx6 hl6 d0 f0 HY HN HST hbd ⊢
    have hbs := hB.size
    have hgw := (own_lt HR.out).2
    generalize (cntM a b pre)[o.val] = y at *
    obtain ⟨hy0, hy1⟩ := hbd
    have hy2 : y ≤ 1188 := by omega
    by_cases h1 : a ≤ (M : Int)
    · by_cases h2 : (M : Int) < b
      · have e1 := decide_eq_true h1
        have e2 := decide_eq_true h2
        have HY2 := Lib.hid (HY.out h1 h2)
        clear h1 h2 HY HN
        gi_wp2
        refine ⟨(KeepsOthers.setCell _ _ _).from _, ⟨(Below.refl w.heap.size W).setCell (p := ⟨w.heap.size + 1 + 1, o.val, none⟩) (by show w.heap.size ≤ w.heap.size + 1 + 1; omega) _, fun b' hb' o' ho' _ => by rw [Below.heap_setCell _ _ _ _ (by show b' ≠ w.heap.size + 1 + 1; omega)]; exact ho'⟩, ⟨⟨?_, ?_, ?_⟩, ?_⟩, hB.setCell (p := ⟨w.heap.size + 1 + 1, o.val, none⟩) (by show w.heap.size ≤ w.heap.size + 1 + 1; omega) _⟩
        · rw [cell_set_ne (.inl (by omega))]; exact hc0
        · rw [cell_set_ne (.inl (by omega))]; exact hc1
        · rw [cell_set_ne (.inl (by omega))]; exact hc3
        · rw [HY2.out]; exact HST.out
      · have e1 := decide_eq_true h1
        have e2 := decide_eq_false h2
        have HN2 := Lib.hid (HN.out (fun h => h2 h.2))
        clear h1 h2 HY HN
        gi_wp2
        exact ⟨KeepsFrom.refl _ _, ⟨Below.refl _ _, fun _ _ _ ho' _ => ho'⟩, ⟨⟨hc0, hc1, hc3⟩, by rw [HN2.out]; exact HR.out⟩, hB⟩
    · have e1 := decide_eq_false h1
      have HN2 := Lib.hid (HN.out (fun h => h1 h.1))
      clear h1 HY HN
      gi_wp2
      exact ⟨KeepsFrom.refl _ _, ⟨Below.refl _ _, fun _ _ _ ho' _ => ho'⟩, ⟨⟨hc0, hc1, hc3⟩, by rw [HN2.out]; exact HR.out⟩, hB⟩
  case done =>
    rintro D ys W hD rfl ⟨⟨⟨_, _, hc3⟩, hrow⟩, hB⟩ hK
    have HR := Lib.hid hrow
    clear hrow
    gi_wp2
    refine ⟨by simp, .inl ⟨_, _, rfl, run_takeDeferred hK, ?_⟩⟩
    refine ⟨_, results_tmp rfl _ _ _, some ⟨w.heap.size + 1 + 1, 0, none⟩, 6, by rw [cntL_len]; rfl, ?_, hB.trans (belowK_b (w := w) (Nat.le_refl _) W D _ _ (by omega) hK rfl rfl)⟩
    have h := ownsRow_putObj HR.out (.deferred none) hK rfl
    rw [HFIN.out] at h
    rw [cntL_len]
    exact h
  case stop =>
    rintro D c pre W _ _ h _
    exact h.elim

end Go.Proofs.Ytmeaegopenbelaa

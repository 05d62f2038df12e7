/-
  The drawers of roads in parts, amounts, stretches.
-/
import Derived.Test.YtmeaegopenbelaaPick
import Derived.Test.YtmeaegopenbelaaDrawWords
import Derived.Test.YtmeaegopenbelaaDrawArgs
import Derived.Test.YtmeaegopenbelaaPartsS2
namespace Go.Proofs.Ytmeaegopenbelaa
open Go.RowKit

section
variable {P : Program} {w : World} {ops : Array Oper} {rest : List Oper} {o : Oper} {a : Act} {Q : Exit → Act → World → Prop}
theorem wpList_append2 (hgd : o.guard = none) (s x : Operand) (t : TypeId) (ho : o.op = .call { callee := .builtin .append, args := #[s, x], argTypes := #[t, t] })
    (base : Nat) (e : TypeId) (i : TypeInfo) (z : Value) (ht : P.underlying t = some (.slice e)) (hi : P.info? e = some i) (hz : i.zero = some z) (hsize : i.size = 2) (hby : i.bytes = 16) (hzs : z.cells.size = 2)
    (v : Value) (l : List T2) (hs : a.eval s = v) (hown : w.ownsRow base e 2 v l.length (flat2 l)) (B : Nat) (x0 x1 : Int) (hB : w.heap[B]? = some (.cells #[.int .i64 x0, .int .i64 x1] e (0, 0)))
    (hx : a.eval x = .slice (some ⟨B, 0, none⟩) 1 1) (hl : l.length ≤ 8388608) (hbase : base ≤ w.heap.size)
    (h : ∀ g cap w', w'.ownsRow base e 2 (.slice (some ⟨g, 0, none⟩) (l.length + 1) cap) (l.length + 1) (flat2 (l ++ [(x0, x1)])) → w.grownBy w' v.ownBlock → (v.ownBlock = some g ∨ g = w.heap.size) → g < w'.heap.size → wpList P ops Q rest (a.put o.dst (.slice (some ⟨g, 0, none⟩) (l.length + 1) cap)) w') : wpList P ops Q (o :: rest) a w := by
  refine wpList_append_lies (w := w) hgd s x t ho base e i z 2 16 ht hi hz hsize hby hzs (by omega) v l.length (flat2 l) hs hown ⟨B, 0, none⟩ 1 1 [.int .i64 x0, .int .i64 x1] hx rfl (World.news_of_block hB) (by simp [Value.oneCell']) (by omega) (by unfold maxLen; omega) (by omega) hbase _ rfl ?_
  intro g cap w' h2 h3 h4 h5
  refine h g cap w' ?_ h3 h4 h5
  rw [flat2_append]
  exact h2
end
theorem flat2_set_any (L : List T2) (j : Nat) (n : Int) (hj : j < L.length * 2) : ∃ L' : List T2, L'.length = L.length ∧ (flat2 L).set j (.int .i64 n) = flat2 L' := by
  induction L generalizing j with
  | nil => simp at hj
  | cons g r ih =>
    match j with
    | 0 => exact ⟨(n, g.2) :: r, rfl, rfl⟩
    | 1 => exact ⟨(g.1, n) :: r, rfl, rfl⟩
    | j + 2 =>
      obtain ⟨L', h1, h2⟩ := ih j (by simp only [List.length_cons] at hj; omega)
      exact ⟨g :: L', by simp [h1], by simp only [flat2, List.set_cons_succ, h2]⟩
theorem own_write2 {w : World} {B g n cap j : Nat} {E : TypeId} {xs ys : List Value} {u : Value} (h : w.ownsRow B E 2 (.slice (some ⟨g, 0, none⟩) n cap) n xs) (he : xs.set j u = ys) : (w.setCell ⟨g, j, none⟩ u).ownsRow B E 2 (.slice (some ⟨g, 0, none⟩) n cap) n ys := by
  rw [← he]; exact (h.stored j u).1
def DrewP (R p : Nat) (f : Nat → Int → Int) (w : World) (e : Ending) (w' : World) : Prop :=
  ∃ (A : Option Addr) (c : Nat) (ps : List T2) (p' : Nat), e = .returned (.slice A ps.length c) ∧ ps.length ≤ 6 ∧ Rd w' w.heap.size w'.heap.size A (flat2 ps) ∧ p ≤ p' ∧ p' ≤ p + 100 ∧ IsRdr w' R p' f ∧ w.grownBy w' (some R)
theorem drewP_mk {R p p' : Nat} {f : Nat → Int → Int} {w w' : World} {g cap n : Nat} {E : TypeId} {L : List T2} (hn : L.length = n) (hl : n ≤ 6) (ho : w'.ownsRow w.heap.size E 2 (.slice (some ⟨g, 0, none⟩) n cap) n (flat2 L)) (h1 : p ≤ p') (h2 : p' ≤ p + 100) (hr : IsRdr w' R p' f) (hg : w.grownBy w' (some R)) :
    DrewP R p f w (.returned (.slice (some ⟨g, 0, none⟩) n cap)) w' := by
  subst hn
  exact ⟨_, _, L, p', rfl, hl, Rd.of_own ho, h1, h2, hr, hg⟩
set_option maxRecDepth 100000 in
set_option maxHeartbeats 4000000 in
theorem parts_any (R p : Nat) (f : Nat → Int → Int) (w : World) (h : IsRdr w R p f) (hp : p ≤ 900000) :
    Calls Try.prog 34 #[.pointer (some ⟨R, 0, none⟩)] w (DrewP R p f w) := by
  obtain ⟨i0, hi0, hz0, hz1, hz2⟩ := info_parts infoPart
  have hR := h.lt
  have hown0 := own_lit0 w w.heap.size 63 2 (Nat.le_refl _)
  have b1 := drawF_bd (n := 6) h (p := p) (by omega) (by omega)
  go_enter Try.func34, Try.ntmps34
  go_wp2_with fail
  refine (pick_any 6 R p f _ (h.alloc _) (by omega) (by omega) (by omega)).mono ?_
  rintro e w1 ⟨rfl, hs1⟩
  have hr1 := hs1.rdr (h.alloc _)
  have hg1 := (gr_alloc (gr_refl w (some R)) (.cells #[] 63)).trans hs1.grown
  have hown1 := hs1.own hown0 hR
  generalize f p 6 = n at *
  obtain ⟨b10, b11⟩ := b1
  clear hs1 hown0 h
  go_wp2_with fail
  go_loopw [3, 5] (fun v i wr => ∃ (k g cap : Nat) (L : List T2), (k : Int) ≤ 1 + n ∧ i = .int .i64 k ∧ v = .slice (some ⟨g, 0, none⟩) L.length cap ∧ Hid (L.length = k) ∧ wr.ownsRow w.heap.size 63 2 (.slice (some ⟨g, 0, none⟩) L.length cap) L.length (flat2 L) ∧ IsRdr wr R (p + 1 + 2 * k) f ∧ w.grownBy wr (some R)) (fun _ i _ => (1 + n - intOf i).toNat)
  case atStart => exact ⟨0, _, _, [], by omega, rfl, rfl, rfl, hown1, hr1, hg1⟩
  case round =>
    obtain ⟨k, g, cap, L, hk, rfl, rfl, HL, hown, hr, hg⟩ := hrel
    clear hown1 hr1 hg1
    have hL10 : L.length ≤ 10 := by have := HL.out; omega
    have hgl := own_lt hown
    have hz := hg.size
    by_cases hlt : (k : Int) < 1 + n
    · go_wp2_with fail
      refine (pick_any 4 R (p + 1 + 2 * k) f _ hr (by omega) (by omega) (by omega)).mono ?_
      rintro e w2 ⟨rfl, hs2⟩
      have hr2 := hs2.rdr hr
      have hown2 := hs2.own hown hR
      have hg2 := hg.trans hs2.grown
      clear hs2 hown hg
      go_wp2_with fail
      refine (pick_any 9 R (p + 1 + 2 * k + 1) f _ hr2 (by omega) (by omega) (by omega)).mono ?_
      rintro e w3 ⟨rfl, hs3⟩
      have b4 := drawF_bd (n := 9) hr2 (p := p + 1 + 2 * k + 1) (by omega) (by omega)
      have hr3 := hs3.rdr hr2
      have hown3 := hs3.own hown2 hR
      have hg3 := hg2.trans hs3.grown
      have hz3 := hg3.size
      have hgl3 := own_lt hown3
      generalize f (p + 1 + 2 * k) 4 = x at *
      generalize f (p + 1 + 2 * k + 1) 9 = y at *
      obtain ⟨b40, b41⟩ := b4
      have HL2 := Lib.hid (show (L ++ [(x, 1 + y)]).length = k + 1 by rw [List.length_append, HL.out]; rfl)
      clear hs3 hown2 hg2 hr2 hr
      go_wp2_with (at_builtin; go_must (refine wpList_append2 rfl _ _ 23 rfl w.heap.size 63 i0 _ Try.underlying23 hi0 hz0 hz1 hz2 rfl (.slice (some ⟨g, 0, none⟩) L.length cap) L rfl (hown3.alloc _) w3.heap.size _ _ (nb1 _ _) rfl (by omega) (ls1 hz3 _) ?_); intro g4 cap4 w4 hown4 hg4 hor4 hltg4)
      have hr4 := (hr3.alloc (.cells #[.int .i64 x, .int .i64 (1 + y)] 63)).grown hg4 (by omega)
      have hg44 := draw_grown (gr_alloc hg3 _) hg4 hgl3.1
      go_roundw
      case rel => exact ⟨k + 1, g4, cap4, L ++ [(x, 1 + y)], by omega, by go_num, by simp, HL2, by simpa using hown4, hr4, hg44⟩
      case measure => simp [intOf]; omega
    · have hkn : (k : Int) = 1 + n := by omega
      have hk1 : 1 ≤ k := by omega
      have hk6 : k ≤ 6 := by omega
      have HLP := Lib.hid (show 0 < L.length by have := HL.out; omega)
      have hL6 : L.length ≤ 6 := by have := HL.out; omega
      clear hkn
      have b5 := drawF_bd (n := 40) hr (p := p + 1 + 2 * k) (by omega) (by omega)
      go_wp2_with fail
      clear hlt
      refine (pick_any 40 R (p + 1 + 2 * k) f _ hr (by omega) (by omega) (by omega)).mono ?_
      rintro e w2 ⟨rfl, hs2⟩
      have hr2 := hs2.rdr hr
      have hown2 := hs2.own hown hR
      have hg2 := hg.trans hs2.grown
      have hz2 := hg2.size
      generalize f (p + 1 + 2 * k) 40 = v at *
      clear hs2 hown hg hr hgl
      have hgl := own_lt hown2
      by_cases h0 : v = 0
      · have d0 : (v == 0) = true := by simp [h0]
        clear h0
        go_wp2_with fail
        have b6 := drawF_bd (n := 3) hr2 (p := p + 1 + 2 * k + 1) (by omega) (by omega)
        refine (pick_any 3 R (p + 1 + 2 * k + 1) f _ (hr2.alloc _) (by omega) (by omega) (by omega)).mono ?_
        rintro e w3 ⟨rfl, hs3⟩
        have hr3 := hs3.rdr (hr2.alloc _)
        have hown3 := hs3.own (hown2.alloc _) hR
        have hg3 := (gr_alloc hg2 _).trans hs3.grown
        obtain ⟨j, hj⟩ := Int.eq_ofNat_of_zero_le b6.1
        have hj3 : j < 3 := by omega
        rw [hj]
        have hlc := (hs3.cell (b := w2.heap.size) (o := j) (by omega)).trans (lit_cell w2 [0, 100, 99] 3 j hj3)
        generalize [(0 : Int), 100, 99][j] = val at hlc
        have hj0 : (0 : Int) ≤ (j : Int) := by omega
        have hj1 : (j : Int) < 3 := by omega
        have hgl3 := own_lt hown3
        obtain ⟨c0, c1⟩ := own2_cells hown3 0 HLP.out
        simp only [Nat.zero_mul, Nat.zero_add] at c1
        have c1' := c1
        have f1 := hown3.frozenAt 1
        obtain ⟨L', hL1, hL2⟩ := flat2_set_any L 1 val (by have := HLP.out; omega)
        have HOW := Lib.hid (own_write2 hown3 hL2)
        have HL1 := Lib.hid hL1
        have HLPi := Lib.hid HLP.out
        have hLp : (0 : Int) < (L.length : Int) := by have := HLP.out; omega
        have hr4 := hr3.setCell (S := g) (o := 1) (u := .int .i64 val) (by omega)
        have hg4 := draw_set (o := 1) (u := .int .i64 val) hg3 hgl3.1
        generalize L[0].2 = z0 at *
        clear hj b6 hs3 c0 c1 hL1 hL2 hown2 hown3
        go_wp2_with fail
        go_ret
        exact drewP_mk HL1.out hL6 HOW.out (by omega) (by omega) hr4 hg4
      · have d0 : (v == 0) = false := by simp [h0]
        clear h0
        by_cases h1 : v = 1
        · have d1 : (v == 1) = true := by simp [h1]
          clear h1
          go_wp2_with fail
          have b6 := drawF_bd (n := 2) hr2 (p := p + 1 + 2 * k + 1) (by omega) (by omega)
          refine (pick_any 2 R (p + 1 + 2 * k + 1) f _ (hr2.alloc _) (by omega) (by omega) (by omega)).mono ?_
          rintro e w3 ⟨rfl, hs3⟩
          have hr3 := hs3.rdr (hr2.alloc _)
          have hown3 := hs3.own (hown2.alloc _) hR
          have hg3 := (gr_alloc hg2 _).trans hs3.grown
          obtain ⟨j, hj⟩ := Int.eq_ofNat_of_zero_le b6.1
          have hj3 : j < 2 := by omega
          rw [hj]
          have hlc := (hs3.cell (b := w2.heap.size) (o := j) (by omega)).trans (lit_cell w2 [-1, 6] 3 j hj3)
          generalize [(-1 : Int), 6][j] = val at hlc
          have hj0 : (0 : Int) ≤ (j : Int) := by omega
          have hj1 : (j : Int) < 2 := by omega
          have hgl3 := own_lt hown3
          obtain ⟨c0, c1⟩ := own2_cells hown3 0 HLP.out
          simp only [Nat.zero_mul] at c0
          have c0' := c0
          have f0 := hown3.frozenAt 0
          obtain ⟨L', hL1, hL2⟩ := flat2_set_any L 0 val (by have := HLP.out; omega)
          have HOW := Lib.hid (own_write2 hown3 hL2)
          have HL1 := Lib.hid hL1
          have hLp : (0 : Int) < (L.length : Int) := by have := HLP.out; omega
          have hr4 := hr3.setCell (S := g) (o := 0) (u := .int .i64 val) (by omega)
          have hg4 := draw_set (o := 0) (u := .int .i64 val) hg3 hgl3.1
          generalize L[0].1 = z0 at *
          clear hj b6 hs3 c0 c1 hL1 hL2 hown2 hown3
          go_wp2_with fail
          go_ret
          exact drewP_mk HL1.out hL6 HOW.out (by omega) (by omega) hr4 hg4
        · have d1 : (v == 1) = false := by simp [h1]
          clear h1
          by_cases h2 : v = 2
          · have d2 : (v == 2) = true := by simp [h2]
            clear h2
            have hoz := own_lit0 w2 w.heap.size 63 2 hz2
            have hrz := hr2.alloc (.cells #[] 63)
            have hgz := gr_alloc hg2 (.cells #[] 63)
            go_wp2_with fail
            go_ret
            exact ⟨some ⟨w2.heap.size, 0, none⟩, 0, [], p + 1 + 2 * k + 1, rfl, by simp, Rd.nil, by omega, by omega, hrz, hgz⟩
          · have d2 : (v == 2) = false := by simp [h2]
            clear h2
            go_wp2_with fail
            go_ret
            exact drewP_mk rfl hL6 hown2 (by omega) (by omega) hr2 hg2

/-- One number in a range is drawn. -/
def DrewIn (R p : Nat) (f : Nat → Int → Int) (lo hi : Int) (w : World) (e : Ending) (w' : World) : Prop :=
  ∃ (v : Int) (p' : Nat), e = .returned (.int .i64 v) ∧ lo ≤ v ∧ v ≤ hi ∧ p ≤ p' ∧ p' ≤ p + 10 ∧ IsRdr w' R p' f ∧ w.grownBy w' (some R)
set_option maxRecDepth 100000 in
set_option maxHeartbeats 2000000 in
theorem amt_any (R p : Nat) (f : Nat → Int → Int) (w : World) (h : IsRdr w R p f) (hp : p ≤ 900000) :
    Calls Try.prog 35 #[.pointer (some ⟨R, 0, none⟩)] w (DrewIn R p f (-1) 1000001 w) := by
  have b1 := drawF_bd (n := 16) h (p := p) (by omega) (by omega)
  have hR := h.lt
  go_enter Try.func35, Try.ntmps35
  go_wp2_with fail
  refine (pick_any 16 R p f _ h (by omega) (by omega) (by omega)).mono ?_
  rintro e w1 ⟨rfl, hs1⟩
  have hr1 := hs1.rdr h
  have hg1 := hs1.grown
  have hz1 := hg1.size
  generalize f p 16 = v1 at *
  by_cases hv : v1 = 0
  · have d : (v1 == 0) = true := by simp [hv]
    have b2 := drawF_bd (n := 4) hr1 (p := p + 1) (by omega) (by omega)
    clear hv
    go_wp2_with fail
    refine (pick_any 4 R (p + 1) f _ (hr1.alloc _) (by omega) (by omega) (by omega)).mono ?_
    rintro e w2 ⟨rfl, hs2⟩
    have hr2 := hs2.rdr (hr1.alloc _)
    have hg2 := (gr_alloc hg1 _).trans hs2.grown
    obtain ⟨j, hj⟩ := Int.eq_ofNat_of_zero_le b2.1
    have hj3 : j < 4 := by omega
    rw [hj]
    have hlc := (hs2.cell (b := w1.heap.size) (o := j) (by omega)).trans (lit_cell w1 [-1, 0, 1000000, 1000001] 3 j hj3)
    have hval : -1 ≤ [(-1 : Int), 0, 1000000, 1000001][j] ∧ [(-1 : Int), 0, 1000000, 1000001][j] ≤ 1000001 := by
      have : j = 0 ∨ j = 1 ∨ j = 2 ∨ j = 3 := by omega
      rcases this with rfl | rfl | rfl | rfl <;> simp
    generalize [(-1 : Int), 0, 1000000, 1000001][j] = val at hlc hval
    have hj0 : (0 : Int) ≤ (j : Int) := by omega
    have hj1 : (j : Int) < 4 := by omega
    clear hj b2 hs2
    go_wp2_with fail
    go_ret
    exact ⟨val, p + 1 + 1, rfl, hval.1, hval.2, by omega, by omega, hr2, hg2⟩
  · have d : (v1 == 0) = false := by simp [hv]
    have b2 := drawF_bd (n := 200) hr1 (p := p + 1) (by omega) (by omega)
    clear hv
    go_wp2_with fail
    refine (pick_any 200 R (p + 1) f _ hr1 (by omega) (by omega) (by omega)).mono ?_
    rintro e w2 ⟨rfl, hs2⟩
    have hr2 := hs2.rdr hr1
    have hg2 := hg1.trans hs2.grown
    generalize f (p + 1) 200 = v2 at *
    go_wp2_with fail
    go_ret
    exact ⟨v2, p + 1 + 1, rfl, by omega, by omega, by omega, by omega, hr2, hg2⟩

end Go.Proofs.Ytmeaegopenbelaa

/-
  Contracts of the program's step and PostFewest.
-/
import Derived.Test.YtdiichfdffhdaaaFewMath
import Derived.Test.YtdiichfdffhdaaaPostI
import Derived.Lib.SliceRun
namespace Go.Proofs.Ytdiichfdffhdaaa
open Go.RowKit

theorem infoIntC : (Try.prog.info? 3).map (fun i => (i.zero, i.size, i.bytes)) = some (some (.int .i64 0), 1, 8) := by kernel_rfl
def RetClone (T : List Int) (w : World) (e : Ending) (w' : World) : Prop :=
  ∃ g c, e = .returned (.slice (some ⟨g, 0, none⟩) T.length c) ∧ w'.ownsRow w.heap.size 3 1 (.slice (some ⟨g, 0, none⟩) T.length c) T.length (ints T) ∧ Below w.heap.size w w'
set_option maxRecDepth 100000 in
set_option maxHeartbeats 1000000 in
theorem cloneI_any (b off c lo hi : Nat) (T : List Int) (w : World) (hl : T.length ≤ 1048576) (h0 : 0 < T.length) (hr : Rd w lo hi (some ⟨b, off, none⟩) (ints T)) (hh : hi ≤ w.heap.size) :
    Calls Try.prog 89 #[.slice (some ⟨b, off, none⟩) T.length c] w (RetClone T w) := by
  obtain ⟨i0, hi0, hz0, hz1, hz2⟩ := info_parts infoIntC
  have hbA := below_alloc (Below.refl w.heap.size w) (.cells #[] 3)
  have ho := own_lit0 w w.heap.size 3 1 (Nat.le_refl _)
  have ho' : (w.alloc (.cells #[] 3)).ownsRow w.heap.size 3 1 (.slice (some ⟨w.heap.size, 0, none⟩) 0 0) ([] : List Int).length (ints []) := ho
  have hrA := hr.below hbA hh
  have qT : ∀ (w : World) (a : Option Addr) (n c n' c' : Nat), (binOp .eql 48 (.slice a n c) (.slice none n' c')).run Try.prog w = .ok (.bool a.isNone) w := fun w a n c n' c' => Lib.run_eql_slice_nil w _ _ a n c n' c' Try.underlying48
  go_enter Try.func89, Try.ntmps89
  go_wp2_with (at_builtin; go_must (refine wpList_appendR1 rfl _ _ 48 rfl w.heap.size 3 i0 _ Try.underlying48 hi0 hz0 hz1 hz2 rfl (.slice (some ⟨w.heap.size, 0, none⟩) 0 0) [] rfl ho' (some ⟨b, off, none⟩) T c lo hi hrA rfl h0 (by simp) (by omega) (by simp) ?_); intro g2 cap2 w2 hown2 hg2 _ _)
  have hb2 := below_grown hbA hbA.size ho' (Nat.le_refl _) hg2
  have hown2' : w2.ownsRow w.heap.size 3 1 (.slice (some ⟨g2, 0, none⟩) T.length cap2) T.length (ints T) := by simpa using hown2
  have HO := Lib.hid hown2'
  clear hown2 hown2' hg2 ho ho'
  go_ret
  refine ⟨g2, cap2, ?_, HO.out, hb2⟩
  simp

theorem PTw.other {w w' : World} {P g cap hi g2 : Nat} {A : Option Addr} {c : Nat} {net : Net} {n f ch : Int} {T : List Int} (h : PTw w P g cap hi A c net n f ch T) (hg : w.grownBy w' (some g2)) (h1 : g2 ≠ g) (h2 : g2 ≠ P) (h3 : hi ≤ g2) : PTw w' P g cap hi A c net n f ch T := by
  have hc : ∀ o, w'.cell? ⟨P, o, none⟩ = w.cell? ⟨P, o, none⟩ := fun o => cell_grown hg h.lt (Ne.symm h2)
  refine ⟨Nat.lt_of_lt_of_le h.lt hg.size, (hc _).trans h.c0, (hc _).trans h.c1, (hc _).trans h.c2, (hc _).trans h.c3, h.own.kept hg (.inr (by simp [Value.ownBlock]; exact fun e => h1 e.symm)), h.rd.keep fun p _ hp => World.cell?_of_block (hg.block p.block (by have := h.glt; have := h.hg; omega) (fun e => by injection e with e; omega)), h.hg, h.hP, h.ok⟩
/-- The next table in the middle of a step: rides from some towns, and some from one more, have been noted. -/
def NextT (net : Net) (n f ch t0 : Int) (k : Nat) (T : List Int) (town : Int) (done : T3 → T3 → Prop) (T2 : List Int) : Prop :=
  LeT T2 T ∧ SndT n (Rk (EdF net f ch) f t0 (k + 1)) T2 ∧ (∀ a b, Hop net a b → a.1 < town → rdyB T f ch a = true → keyF T2 b.1 ≤ b.2.1) ∧ (∀ a b, done a b → keyF T2 b.1 ≤ b.2.1)
def StepJ (P g cap P2 g2 cap2 hi : Nat) (A : Option Addr) (c : Nat) (net : Net) (n f ch t0 : Int) (k : Nat) (T : List Int) (town : Int) (bx : Nat) (done : T3 → T3 → Prop) (w' : World) : Prop :=
  PTw w' P g cap hi A c net n f ch T ∧ ∃ T2, PTw w' P2 g2 cap2 hi A c net n f ch T2 ∧ NextT net n f ch t0 k T town done T2 ∧ w'.cell? ⟨bx, 0, none⟩ = some (.pointer (some ⟨P2, 0, none⟩)) ∧ bx < w'.heap.size
theorem stepJ_below {P g cap P2 g2 cap2 hi : Nat} {A : Option Addr} {c : Nat} {net : Net} {n f ch t0 : Int} {k : Nat} {T : List Int} {town : Int} {bx : Nat} {done : T3 → T3 → Prop} {w' w'' : World} (h : StepJ P g cap P2 g2 cap2 hi A c net n f ch t0 k T town bx done w') (hb : Below w'.heap.size w' w'') : StepJ P g cap P2 g2 cap2 hi A c net n f ch t0 k T town bx done w'' := by
  obtain ⟨h0, T', h1, h2, h3, h4⟩ := h
  exact ⟨h0.below hb, T', h1.below hb, h2, (hb.cell (p := ⟨bx, 0, none⟩) h4).trans h3, Nat.lt_of_lt_of_le h4 hb.size⟩
set_option maxHeartbeats 2000000 in
theorem cstep_any {P g cap P2 g2 cap2 hi : Nat} {A : Option Addr} {c : Nat} {net : Net} {n f ch t0 : Int} {k : Nat} {T : List Int} {town : Int} {bx : Nat} (hnet : netB n net = true) (hch : 0 ≤ ch) (hn : n ≤ 8) (hT : IsTabK n net f t0 ch k T) (hbg : bx ≠ g2) (hgg : g2 ≠ g) (hgP : g2 ≠ P) (hhi : hi ≤ g2)
    (done : T3 → T3 → Prop) (w : World) (a b : T3) (hJ : StepJ P g cap P2 g2 cap2 hi A c net n f ch t0 k T town bx done w) (hh : Hop net a b) (hr : 0 ≤ tg T a.1 ∧ tg T a.1 + chg f ch a.1 ≤ a.2.2) :
    Calls Try.prog 90 #[.agg #[.int .i64 b.1, .int .i64 b.2.1, .int .i64 b.2.2], .pointer (some ⟨bx, 0, none⟩)] w fun e w' => (∃ v, e = .returned v) ∧ StepJ P g cap P2 g2 cap2 hi A c net n f ch t0 k T town bx (fun x y => done x y ∨ (x = a ∧ y = b)) w' ∧ w.grownBy w' (some g2) := by
  have ho := hop_ok hnet hh
  obtain ⟨hp0, T2, hp, ⟨n1, n2, n3, n4⟩, hcx, hbx⟩ := hJ
  have hbA := below_alloc (Below.refl w.heap.size w) (.cells #[.int .i64 b.1, .int .i64 b.2.1, .int .i64 b.2.2] 30)
  have hpA := hp.below hbA
  have hpA0 := hp0.below hbA
  have hb0 : 0 ≤ b.1 ∧ b.1 < n := by omega
  have hcx1 : (w.alloc (.cells #[.int .i64 b.1, .int .i64 b.2.1, .int .i64 b.2.2] 30)).cell? ⟨bx, 0, none⟩ = some (.pointer (some ⟨P2, 0, none⟩)) := (hbA.cell (p := ⟨bx, 0, none⟩) hbx).trans hcx
  by_cases hbt : tg T2 b.1 < 0 ∨ b.2.1 < tg T2 b.1
  · have hlt : b.1.toNat < T2.length := by rw [hp.ok.1]; omega
    have hset := keyF_set (T := T2) (w := b.1) (x := b.2.1) hb0.1 hlt (by omega)
    have hps := hpA.set b.1.toNat (x := b.2.1) (by omega)
    have hgs := hpA.grown b.1.toNat (.int .i64 b.2.1)
    have hp0s := hpA0.other hgs hgg hgP hhi
    have hkl : ∀ v, keyF (T2.set b.1.toNat b.2.1) v ≤ keyF T2 v := fun v => by
      rw [hset]; unfold Go.Proofs.Ytdiichfdffhdaaa.put
      by_cases e : v = b.1
      · rw [if_pos e]; subst e; unfold keyF; split <;> omega
      · rw [if_neg e]; exact Int.le_refl _
    have hq : Rk (EdF net f ch) f t0 k a.1 (tg T a.1) := by
      have := (hT.2 a.1 (by omega) (by omega)).2.1 (by rw [keyF_nn hr.1]; have := hT.1.tg (v := a.1) (by omega) (by omega); omega)
      rwa [keyF_nn hr.1] at this
    have hnx := Lib.hid (show NextT net n f ch t0 k T town (fun x y => done x y ∨ (x = a ∧ y = b)) (T2.set b.1.toNat b.2.1) from
      ⟨fun v => Int.le_trans (hkl v) (n1 v), sndT_set n2 hb0.1 hlt (.inr ⟨a.1, tg T a.1, a.2.2 - chg f ch a.1, hq, ⟨a, b, hh, rfl, rfl, rfl, rfl⟩, by omega⟩), fun x y h1 h2 h3 => Int.le_trans (hkl _) (n3 x y h1 h2 h3), by
        rintro x y (hd | ⟨rfl, rfl⟩)
        · exact Int.le_trans (hkl _) (n4 x y hd)
        · rw [hset]; unfold Go.Proofs.Ytdiichfdffhdaaa.put; rw [if_pos rfl]; exact Int.le_refl _⟩)
    have hcx2 : ((w.alloc (.cells #[.int .i64 b.1, .int .i64 b.2.1, .int .i64 b.2.2] 30)).setCell ⟨g2, b.1.toNat, none⟩ (.int .i64 b.2.1)).cell? ⟨bx, 0, none⟩ = some (.pointer (some ⟨P2, 0, none⟩)) := (World.cell?_setCell_other _ _ _ _ (fun e => by injection e with e1; exact hbg e1.symm)).trans hcx1
    have HPS := Lib.hid hps
    have HP0 := Lib.hid hp0s
    have HG := Lib.hid hgs
    have hz := Lib.hid (show bx < ((w.alloc (.cells #[.int .i64 b.1, .int .i64 b.2.1, .int .i64 b.2.2] 30)).setCell ⟨g2, b.1.toNat, none⟩ (.int .i64 b.2.1)).heap.size by simp; omega)
    clear hset hps hgs hp0s hkl hq hh hr n1 n2 n3 n4
    go_enter Try.func90, Try.ntmps90
    go_wp2_with fail
    ((with_reducible refine (reach_yes b.1 b.2.1 hpA hb0.1 hb0.2 hn hbt).mono ?_); rintro e w1 ⟨rfl, hw1⟩)
    have HPS2 := HPS.out
    have HP02 := HP0.out
    have HG2 := HG.out
    have hz2 := hz.out
    rw [hw1] at HPS2 HP02 HG2 hz2 hcx2
    have H1 := Lib.hid HPS2
    have H2 := Lib.hid HP02
    clear hw1 HPS HP0 HG hz HPS2 HP02
    go_wp2_with fail
    go_end0
    exact ⟨⟨_, rfl⟩, ⟨H2.out, _, H1.out, hnx.out, hcx2, hz2⟩, (grown_of_below hbA _).trans HG2⟩
  · have hle : keyF T2 b.1 ≤ b.2.1 := by unfold keyF; split <;> omega
    have hn0 : 0 ≤ tg T2 b.1 := by omega
    have hn1 : tg T2 b.1 ≤ b.2.1 := by omega
    have hnx := Lib.hid (show NextT net n f ch t0 k T town (fun x y => done x y ∨ (x = a ∧ y = b)) T2 from ⟨n1, n2, n3, by
        rintro x y (hd | ⟨rfl, rfl⟩)
        · exact n4 x y hd
        · exact hle⟩)
    clear hh hr n1 n2 n3 n4 hbt hle
    go_enter Try.func90, Try.ntmps90
    go_wp2_with fail
    ((with_reducible refine (reach_no b.1 b.2.1 hpA hb0.1 hb0.2 hn hn0 hn1).mono ?_); rintro e w1 ⟨rfl, rfl⟩)
    go_wp2_with fail
    go_end0
    exact ⟨⟨_, rfl⟩, ⟨hpA0, T2, hpA, hnx.out, hcx1, by simp; omega⟩, grown_of_below hbA _⟩

end Go.Proofs.Ytdiichfdffhdaaa

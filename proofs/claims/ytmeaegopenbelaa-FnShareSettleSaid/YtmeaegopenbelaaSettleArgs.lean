/-
  What the law on settlements draws: a road in parts, and what each has taken.
-/
import Derived.Test.YtmeaegopenbelaaPartsArgs
namespace Go.Proofs.Ytmeaegopenbelaa
open Go.RowKit

def RetMT (w : World) (e : Ending) (w' : World) : Prop :=
  ∃ (A : Option Addr) (c : Nat) (ps : List T2) (B : Option Addr) (d : Nat) (tk : List Int), e = .returned (.tuple #[.slice A ps.length c, .slice B tk.length d]) ∧ ps.length ≤ 6 ∧ Rd w' 0 w'.heap.size A (flat2 ps) ∧ tk.length ≤ 6 ∧ Rd w' 0 w'.heap.size B (ints tk) ∧ Below w.heap.size w w'
theorem ints_dropS (l : List Int) (k : Nat) : ints (l.drop k) = (ints l).drop (k * 1) := by simp [ints, List.map_drop]
theorem ints_set1 (l : List Int) (j : Nat) (x : Int) : (ints l).set j (.int .i64 x) = ints (l.set j x) := by simp [ints, List.map_set]
set_option maxRecDepth 100000 in
set_option maxHeartbeats 4000000 in
theorem dSettle_any (A : Option Addr) (n c : Nat) (bs : Nat → Int) (w : World) (h : Byt w w.heap.size A n bs) (hn : n ≤ 1048576) (hc : n ≤ c) :
    Calls Try.prog 27 #[.slice A n c] w (RetMT w) := by
  obtain ⟨i0, hi0, hz0, hz1, hz2⟩ := info_parts infoInt
  go_enter Try.func27, Try.ntmps27
  go_wp2_with fail
  refine (open_any A n c bs _ h hn hc).mono ?_
  rintro e w1 ⟨f, rfl, hr1, hb1, hs1⟩
  have hb1 := Lib.hid hb1
  have hsz := Lib.hid hs1
  have hs1 : w.heap.size < w1.heap.size := by omega
  go_wp2_with fail
  refine (parts_any w.heap.size 0 f _ hr1 (by omega)).mono ?_
  rintro e w2 ⟨A, c, ps, p2, rfl, hl6, hrd, -, hp2, hr2, hg2⟩
  have HBW := Lib.hid (below_draw hb1.out hg2 (Nat.le_refl _))
  have HPS := Lib.hid (show ∀ wq, w2.grownBy wq (some w.heap.size) → Rd wq 0 wq.heap.size A (flat2 ps) from fun wq hq => (hrd.draw (Nat.le_refl _) hq hs1).more (Nat.zero_le _) (Nat.le_refl _))
  have HFIN := Lib.hid (show ∀ wq, w2.grownBy wq (some w.heap.size) → Below w.heap.size w wq from fun wq hq => HBW.out.grown hq HBW.out.size (fun k hk => by injection hk with hk; omega))
  have hRw : w.heap.size < w2.heap.size := hr2.lt
  have hown0 := own_lit0 w2 w2.heap.size 3 1 (Nat.le_refl _)
  have hrA := hr2.alloc (.cells #[] 3)
  have hgA := gr_alloc (gr_refl w2 (some w.heap.size)) (.cells #[] 3)
  clear hr1 hrd hg2 hr2 hs1
  go_wp2_with fail
  go_loopw [6, 7] (fun v i wr => ∃ (k g cap : Nat) (L : List Int), (k : Int) ≤ 6 ∧ i = .int .i64 k ∧ v = .slice (some ⟨g, 0, none⟩) L.length cap ∧ Hid (L.length = k) ∧ wr.ownsRow w2.heap.size 3 1 (.slice (some ⟨g, 0, none⟩) L.length cap) L.length (ints L) ∧ IsRdr wr w.heap.size (p2 + 2 * k) f ∧ w2.grownBy wr (some w.heap.size)) (fun _ i _ => (6 - intOf i).toNat)
  case atStart => exact ⟨0, _, _, [], by omega, rfl, rfl, rfl, hown0, hrA, hgA⟩
  case round =>
    obtain ⟨k, g, cap, L, hk, rfl, rfl, HL, hown, hr, hg⟩ := hrel
    clear hown0 hrA hgA
    have hL10 : L.length ≤ 10 := by have := HL.out; omega
    have hgl := own_lt hown
    have hz := hg.size
    by_cases hlt : k < 6
    · have hlt2 : (k : Int) < 6 := by omega
      have b3 := drawF_bd (n := 3) hr (p := p2 + 2 * k) (by omega) (by omega)
      go_wp2_with fail
      refine (pick_any 3 w.heap.size (p2 + 2 * k) f _ hr (by omega) (by omega) (by omega)).mono ?_
      rintro e w3 ⟨rfl, hs3⟩
      have hr3 := hs3.rdr hr
      have hown3 := hs3.own hown hRw
      have hg3 := hg.trans hs3.grown
      have b4 := drawF_bd (n := 60) hr3 (p := p2 + 2 * k + 1) (by omega) (by omega)
      clear hs3 hown hg
      go_wp2_with fail
      refine (pick_any 60 w.heap.size (p2 + 2 * k + 1) f _ hr3 (by omega) (by omega) (by omega)).mono ?_
      rintro e w4 ⟨rfl, hs4⟩
      have hr4 := hs4.rdr hr3
      have hown4 := hs4.own hown3 hRw
      have hg4 := hg3.trans hs4.grown
      have hz4 := hg4.size
      have hgl4 := own_lt hown4
      generalize f (p2 + 2 * k) 3 = x at *
      generalize f (p2 + 2 * k + 1) 60 = y at *
      obtain ⟨b30, b31⟩ := b3
      obtain ⟨b40, b41⟩ := b4
      obtain ⟨z, hz⟩ : ∃ z, z = x * y := ⟨_, rfl⟩
      have hzb : 0 ≤ z ∧ z ≤ 200 := by
        rw [hz]
        refine ⟨Int.mul_nonneg b30 b40, ?_⟩
        have : x * y ≤ 3 * 60 := Int.mul_le_mul (by omega) (by omega) b40 (by omega)
        omega
      have wz : IntKind.i64.wrap (x * y) = z := by rw [← hz]; exact IntWalk.i64_in _ (by omega)
      have HL2 := Lib.hid (show (L ++ [z]).length = k + 1 by rw [List.length_append, HL.out]; rfl)
      clear hs4 hown3 hg3 hr3 hr hz hzb
      go_wp2_with (at_builtin; go_must (refine wpList_append1 rfl _ _ 26 rfl w2.heap.size 3 i0 _ Try.underlying26 hi0 hz0 hz1 hz2 rfl (.slice (some ⟨g, 0, none⟩) L.length cap) L rfl (hown4.alloc _) w4.heap.size _ (nb1 _ _) rfl (by omega) (ls1 hz4 _) ?_); intro g5 cap5 w5 hown5 hg5 hor5 hltg5)
      have hr5 := (hr4.alloc (.cells #[.int .i64 z] 3)).grown hg5 (by omega)
      have hg55 := draw_grown (gr_alloc hg4 _) hg5 hgl4.1
      go_roundw
      case rel => exact ⟨k + 1, g5, cap5, L ++ [z], by omega, by go_num, by simp, HL2, by simpa using hown5, hr5, hg55⟩
      case measure => simp [intOf]; omega
    · have hk6 : k = 6 := by omega
      have HL6 := Lib.hid (show L.length = 6 by have := HL.out; omega)
      have hL6' : L.length ≤ 6 := by have := HL6.out; omega
      have hL6g : 6 ≤ L.length := by have := HL6.out; omega
      have hcp := own_cap hown
      clear hk6
      have hlt2 : ¬ (k : Int) < 6 := by omega
      go_wp2_with fail
      clear hlt hlt2
      refine (pick_any 24 w.heap.size (p2 + 2 * k) f _ hr (by omega) (by omega) (by omega)).mono ?_
      rintro e w3 ⟨rfl, hs3⟩
      have hr3 := hs3.rdr hr
      have hown3 := hs3.own hown hRw
      have hg3 := hg.trans hs3.grown
      have hz3 := hg3.size
      generalize f (p2 + 2 * k) 24 = v at *
      clear hs3 hown hg hr hgl
      have hgl3 := own_lt hown3
      by_cases h0 : v = 0
      · have d0 : (v == 0) = true := by simp [h0]
        have b6 := drawF_bd (n := 3) hr3 (p := p2 + 2 * k + 1) (by omega) (by omega)
        clear h0
        go_wp2_with fail
        refine (pick_any 3 w.heap.size (p2 + 2 * k + 1) f _ (hr3.alloc _) (by omega) (by omega) (by omega)).mono ?_
        rintro e w4 ⟨rfl, hs4⟩
        have hown4 := hs4.own (hown3.alloc _) hRw
        have hg4 := (gr_alloc hg3 _).trans hs4.grown
        obtain ⟨j, hj⟩ := Int.eq_ofNat_of_zero_le b6.1
        have hj3 : j < 3 := by omega
        rw [hj]
        have hlc := (hs4.cell (b := w3.heap.size) (o := j) (by omega)).trans (lit_cell w3 [-1, 1000000, 1000001] 3 j hj3)
        generalize [(-1 : Int), 1000000, 1000001][j] = val at hlc
        have hj0 : (0 : Int) ≤ (j : Int) := by omega
        have hj1 : (j : Int) < 3 := by omega
        have hgl4 := own_lt hown4
        have hLp : 0 < L.length := by have := HL6.out; omega
        have hLp2 : (0 : Int) < (L.length : Int) := by omega
        have c0 := own1_cell hown4 0 hLp
        have f0 := hown4.frozenAt 0
        have HOW := Lib.hid (own1_store hown4 0 val)
        have HG5 := Lib.hid (draw_set (o := 0) (u := .int .i64 val) hg4 hgl4.1)
        generalize L[0] = z0 at *
        clear hj b6 hs4 hown3 hown4
        go_wp2_with fail
        go_ret2
        exact ⟨A, c, ps, some ⟨g, 0, none⟩, cap, L.set 0 val, by rw [List.length_set]; rfl, hl6, HPS.out _ HG5.out, by rw [List.length_set]; exact hL6', (Rd.of_own HOW.out).more (Nat.zero_le _) (Nat.le_refl _), HFIN.out _ HG5.out⟩
      · have d0 : (v == 0) = false := by simp [h0]
        clear h0
        by_cases h1 : v = 1
        · have d1 : (v == 1) = true := by simp [h1]
          clear h1
          have RDc := (Rd.of_own hown3).cut (k := 1) (n := L.length) (cap := cap) (size := 1) (by rw [ints_length]; omega) (by omega) hcp
          have hce : (cap = 1) = False := by simp; omega
          rw [if_neg (by omega), ← ints_dropS] at RDc
          simp only [Option.map_some, Addr.add_lit, Nat.zero_add, Nat.mul_one] at RDc
          have hDe : L.length - 1 = (L.drop 1).length := by simp
          have hDl : (L.drop 1).length ≤ 6 := by rw [← hDe]; omega
          have h1L : 1 ≤ L.length := by omega
          have h1L2 : (1 : Int) ≤ (L.length : Int) := by omega
          have HRES := Lib.hid (show RetMT w (.returned (.tuple #[.slice A ps.length c, .slice (some ⟨g, 1, none⟩) (L.length - 1) (cap - 1)])) w3 from
            ⟨A, c, ps, some ⟨g, 1, none⟩, cap - 1, L.drop 1, by rw [hDe], hl6, HPS.out _ hg3, hDl, RDc.more (Nat.zero_le _) (Nat.le_refl _), HFIN.out _ hg3⟩)
          clear RDc hDe hDl
          go_wp2_with fail
          go_ret2
          exact HRES.out
        · have d1 : (v == 1) = false := by simp [h1]
          clear h1
          go_wp2_with fail
          go_ret2
          exact ⟨A, c, ps, some ⟨g, 0, none⟩, cap, L, rfl, hl6, HPS.out _ hg3, hL6', (Rd.of_own hown3).more (Nat.zero_le _) (Nat.le_refl _), HFIN.out _ hg3⟩

end Go.Proofs.Ytmeaegopenbelaa

/-
  Contracts of LateStops, the reference's and the program's.
-/
import Derived.Test.YteceohdchknbbaaLate2
import Derived.Test.YteceohdchknbbaaTri
import Derived.Deep.RegionLaw
namespace Go.Proofs.Yteceohdchknbbaa
open Go.RowKit

theorem infoStopL : (Try.prog.info? 31).map (fun i => (i.zero, i.size, i.bytes)) = some (some (.agg #[.int .i64 0, .int .i64 0, .int .i64 0]), 3, 24) := by kernel_rfl
def RetTB (E : TypeId) (l : List T3) (b : Bool) (w : World) (e : Ending) (w' : World) : Prop :=
  ∃ A c, e = .returned (.tuple #[.slice A l.length c, .bool b]) ∧ w'.ownsRow w.heap.size E 3 (.slice A l.length c) l.length (flat3 l) ∧ Below w.heap.size w w'
theorem retTB_no {E : TypeId} {l : List T3} {b : Bool} {w w1 : World} {n : Nat} (h : b = false) (hl : l = []) (hb : Below w.heap.size w w1) (hn : w1.heap.size = n) :
    RetTB E l b w (.returned (.tuple #[.slice (some ⟨n, 0, none⟩) 0 0, .bool false])) (w1.alloc (.cells #[] E)) := by
  subst hn h hl
  exact ⟨_, _, rfl, own_lit0 w1 _ E 3 hb.size, below_alloc hb _⟩

theorem go_of_or {g g2 lo hi N n c : Nat} (h : (Value.slice (some ⟨g, 0, none⟩) n c).ownBlock = some g2 ∨ g2 = N) (hgo : g < lo ∨ hi ≤ g) (hN : hi ≤ N) : g2 < lo ∨ hi ≤ g2 := by
  rcases h with h | h
  · simp only [Value.ownBlock, Option.some.injEq] at h; subst h; exact hgo
  · right; omega

set_option maxRecDepth 100000 in
set_option maxHeartbeats 4000000 in
theorem sStops_any (n : Int) (A : Option Addr) (c lo hi : Nat) (l : List T3) (least start : Int) (B : Option Addr) (d lo' hi' : Nat) (ds : List Int) (w : World) (hl : l.length ≤ 1048576) (hr : Rd w lo hi A (flat3 l)) (hh : hi ≤ w.heap.size) (hld : ds.length ≤ 1048576) (hrd : Rd w lo' hi' B (ints ds)) (hhd : hi' ≤ w.heap.size) :
    Calls Try.prog 52 #[.int .i64 n, .slice A l.length c, .int .i64 least, .int .i64 start, .slice B ds.length d] w (RetTB 31 (lstopsL n l least start ds) (lstopsOk n l least start ds) w) := by
  obtain ⟨i0, hi0, hz0, hz1, hz2⟩ := info_parts infoStopL
  have hno : lstopsOk n l least start ds = false → lstopsL n l least start ds = [] := fun h => by simp [lstopsL, h]
  have HNO := Lib.hid hno
  clear hno
  have hb0 : Below w.heap.size w (w.alloc (.cells #[] 31)) := below_alloc (Below.refl _ _) _
  have hown0 := own_lit0 w w.heap.size 31 3 (Nat.le_refl _)
  go_enter Try.func52, Try.ntmps52
  go_wp2_with fail
  refine (sOk_any n _ _ _ _ l least start _ _ _ _ ds _ hl (hr.below hb0 hh) (Nat.le_trans hh hb0.size) hld (hrd.below hb0 hhd) (Nat.le_trans hhd hb0.size)).mono ?_
  rintro e w1 ⟨rfl, hb1⟩
  have hb01 := hb0.trans (hb1.mono hb0.size)
  have hown1 := own_below hown0 hb1
  have hsz1 := hb1.size
  simp only [World.size_alloc] at hsz1
  cases hok : lateOk n l least start ds
  · have hres := Lib.hid (show lstopsOk n l least start ds = false by simp [lstopsOk, hok])
    clear hok
    go_wp2_with fail
    go_ret2
    rw [HNO.out hres.out, hres.out]
    exact ⟨_, _, rfl, hown1, hb01⟩
  go_wp2_with fail
  refine (sRun_any n _ _ _ _ l least start _ _ _ _ ds _ hok (hr.below hb01 hh) (Nat.le_trans hh hb01.size) (hrd.below hb01 hhd) (Nat.le_trans hhd hb01.size)).mono ?_
  rintro e w2 ⟨A1, c1, A2, c2, rfl, hoa, hol, hb2⟩
  have hb02 := hb01.trans (hb2.mono hb01.size)
  have hownR := own_below hown1 hb2
  have hra := Rd.of_own hoa
  have hrl := Rd.of_own hol
  have hsz2 := hb2.size
  have HV := Lib.hid (slackOk_and (lateOk_and hok).1).1
  obtain ⟨_, _, hl2, hl8⟩ := stopsB_n HV.out
  have HAB := Lib.hid (arrF_bd hok).1
  have HLB := Lib.hid (leaF_bd hok)
  have hal := arrF_len hok
  have hll := leaF_len hok
  rw [hal, hll]
  have HAL := Lib.hid hal
  have HLL := Lib.hid hll
  have HRES := Lib.hid (show lstopsOk n l least start ds = stopsB n (lmoved l (arrF l least start ds) (leaF l least start ds)) by simp [lstopsOk, hok])
  have HRESL : Hid (lstopsOk n l least start ds = true → lstopsL n l least start ds = lmoved l (arrF l least start ds) (leaF l least start ds)) := fun h => by simp [lstopsL, h]
  clear hok hal hll hoa hol
  generalize arrF l least start ds = a at *
  generalize leaF l least start ds = b at *
  go_wp2_with fail
  go_loopw [12, 15] (fun v i wr => ∃ (k g cap : Nat) (L : List T3), k ≤ l.length ∧ i = .int .i64 k ∧ Hid (L = (List.range k).map (lmove l a b)) ∧ L.length ≤ 8 ∧ v = .slice (some ⟨g, 0, none⟩) L.length cap ∧ wr.ownsRow w.heap.size 31 3 (.slice (some ⟨g, 0, none⟩) L.length cap) L.length (flat3 L) ∧ (g < w1.heap.size ∨ w2.heap.size ≤ g) ∧ w2.heap.size ≤ wr.heap.size ∧ Rd wr w1.heap.size w2.heap.size A1 (ints a) ∧ Rd wr w1.heap.size w2.heap.size A2 (ints b) ∧ Below w.heap.size w wr) (fun _ i _ => l.length - (intOf i).toNat)
  case atStart => exact ⟨0, w.heap.size, _, [], Nat.zero_le _, rfl, by simp [Hid], by simp, rfl, hownR, by omega, by simp, hra, hrl, hb02⟩
  case round =>
    obtain ⟨k, g, cap, L, hk, rfl, HT, hL8, rfl, hown, hgo, hszr, hrra, hrrl, hb⟩ := hrel
    clear hra hrl hownR hb02
    have hbs := hb.size
    by_cases hlt : k < l.length
    · have hka : k < a.length := by have := HAL.out; omega
      have hkb : k < b.length := by have := HLL.out; omega
      obtain ⟨bx, off, rfl, hlo, hhi, c0, c1, c2⟩ := (hr.below hb hh).at3 k hlt
      obtain ⟨ga, oa, rfl, hga1, hga2, ca⟩ := hrra.at1 k hka
      obtain ⟨gb, ob, rfl, hgb1, hgb2, cb⟩ := hrrl.at1 k hkb
      have hq := stopsB_get HV.out k hlt
      have hqa := HAB.out a[k] (List.getElem_mem hka)
      have hqb := HLB.out b[k] (List.getElem_mem hkb)
      have hmv := Lib.hid (show lmove l a b k = (l[k].1, l[k].2.1 + (if k = 0 then 0 else a[k]), l[k].2.2 + b[k]) by simp only [lmove, getD_of_lt l k _ hlt, getD_of_lt a k _ hka, getD_of_lt b k _ hkb])
      have hstep := Lib.hid (show L ++ [lmove l a b k] = (List.range (k + 1)).map (lmove l a b) by rw [range_map_succ, ← HT.out])
      have hLk := Lib.hid (show L.length = k by rw [HT.out]; simp)
      obtain ⟨x, hx⟩ : ∃ x, x = l[k] := ⟨_, rfl⟩
      rw [← hx] at c0 c1 c2 hq hmv
      clear hx
      generalize a[k] = y at *
      generalize b[k] = z at *
      obtain ⟨q1, q2, q3, q4, q5⟩ := hq
      obtain ⟨p1, p2⟩ := hqa
      obtain ⟨r1, r2⟩ := hqb
      have hk0 : (0 : Int) ≤ (k : Int) := by omega
      have hk1 : (k : Int) < (l.length : Int) := by omega
      have hbxw : bx < wr.heap.size := by omega
      have hgaw : ga < wr.heap.size := by omega
      have hgbw : gb < wr.heap.size := by omega
      have hw1 : IntKind.i64.wrap (x.2.1 + y) = x.2.1 + y := IntWalk.i64_in _ (by omega)
      have hw2 : IntKind.i64.wrap (x.2.2 + z) = x.2.2 + z := IntWalk.i64_in _ (by omega)
      obtain ⟨S, hS⟩ : ∃ S, S = wr.heap.size := ⟨_, rfl⟩
      rcases Nat.eq_zero_or_pos k with hkz | hkp
      · have hkb0 : decide (0 < k) = false := decide_eq_false (by omega)
        have hmv0 := Lib.hid (show lmove l a b k = (x.1, x.2.1, x.2.2 + z) by rw [hmv.out, if_pos hkz]; simp)
        rw [hmv0.out] at hstep
        clear hkz
        go_wp2_with fail
        obtain ⟨W, hW⟩ : ∃ W, W = wr.alloc (.cells #[.int .i64 x.1, .int .i64 x.2.1, .int .i64 x.2.2] 31) := ⟨_, rfl⟩
        have hbox : Box3 W S x := by rw [hW, hS]; exact Box3.new wr x _
        have hownW : W.ownsRow w.heap.size 31 3 (.slice (some ⟨g, 0, none⟩) L.length cap) L.length (flat3 L) := by rw [hW]; exact hown.alloc _
        have hraW : Rd W w1.heap.size w2.heap.size (some ⟨ga, oa, none⟩) (ints a) := by rw [hW]; exact hrra.alloc hszr _
        have hrlW : Rd W w1.heap.size w2.heap.size (some ⟨gb, ob, none⟩) (ints b) := by rw [hW]; exact hrrl.alloc hszr _
        have hbW : Below w.heap.size w W := by rw [hW]; exact below_alloc hb _
        have caW : W.cell? ⟨ga, oa + k, none⟩ = some (.int .i64 y) := by rw [hW]; exact (cell_alloc1 (p := ⟨ga, oa + k, none⟩) _ hgaw).trans ca
        have cbW : W.cell? ⟨gb, ob + k, none⟩ = some (.int .i64 z) := by rw [hW]; exact (cell_alloc1 (p := ⟨gb, ob + k, none⟩) _ hgbw).trans cb
        have hszW : wr.heap.size < W.heap.size := by rw [hW]; simp
        have hgS : g < S := by rw [hS]; exact (own_lt hown).2
        have hS2 : w2.heap.size ≤ S := by omega
        have hSb : w.heap.size ≤ S := by omega
        have hgaS : ga ≠ S := by omega
        have hgbS : gb ≠ S := by omega
        rw [← hW, ← hS]
        have HS := Lib.hid hS
        clear hS hW hown hrra hrrl hb ca cb c0 c1 c2
        have b0 := hbox.c0
        have b1 := hbox.c1
        have b2 := hbox.c2
        have f1 := hbox.f1
        have f2 := hbox.f2
        have hSW := hbox.lt
        go_region
        obtain ⟨V, hV⟩ : ∃ V, V = (W.setCell ⟨S, 2, none⟩ (.int .i64 (x.2.2 + z))).drew := ⟨_, rfl⟩
        have hbox2 : Box3 V S (x.1, x.2.1, x.2.2 + z) := by rw [hV]; exact (hbox.set2 _).drew
        have hownV : V.ownsRow w.heap.size 31 3 (.slice (some ⟨g, 0, none⟩) L.length cap) L.length (flat3 L) := by rw [hV]; exact (own_setCell hownW (by omega)).drew
        have hraV : Rd V w1.heap.size w2.heap.size (some ⟨ga, oa, none⟩) (ints a) := by rw [hV]; exact (hraW.setCell hS2).drew
        have hrlV : Rd V w1.heap.size w2.heap.size (some ⟨gb, ob, none⟩) (ints b) := by rw [hV]; exact (hrlW.setCell hS2).drew
        have hbV : Below w.heap.size w V := by rw [hV]; exact (hbW.setCell (p := ⟨S, 2, none⟩) hSb _).drew
        have caV : V.cell? ⟨ga, oa + k, none⟩ = some (.int .i64 y) := by rw [hV]; exact (cell_set_ne (.inl hgaS)).trans caW
        have cbV : V.cell? ⟨gb, ob + k, none⟩ = some (.int .i64 z) := by rw [hV]; exact (cell_set_ne (.inl hgbS)).trans cbW
        have hszV : wr.heap.size < V.heap.size := by rw [hV]; simpa using hszW
        rw [← hV]
        clear hV b0 b1 b2 f1 f2 hSW hbox hownW hraW hrlW hbW caW cbW hszW
        have b0 := hbox2.c0
        have b1 := hbox2.c1
        have b2 := hbox2.c2
        simp only at b0 b1 b2
        have hSW := hbox2.lt
        have hbs2 := hbV.size
        clear hw1 hw2
        go_wp2_with (at_builtin; go_must (refine wpList_append3 rfl _ _ 23 rfl w.heap.size 31 i0 _ Try.underlying23 hi0 hz0 hz1 hz2 rfl (.slice (some ⟨g, 0, none⟩) L.length cap) L rfl (hownV.alloc _) V.heap.size _ _ _ (nb1 _ _) rfl (by omega) (ls1 hbs2 _) ?_); intro g4 cap4 w4 hown4 hg4 hor4 hltg4; have hb4 := below_grown (below_alloc hbV _) (ls1 hbs2 _) (hownV.alloc _) (Nat.le_refl _) hg4; have hra4 := (hraV.alloc (by omega) _).grown hg4 hgo (by simp; omega); have hrl4 := (hrlV.alloc (by omega) _).grown hg4 hgo (by simp; omega); have hsz4 := hg4.size; simp only [World.size_alloc] at hsz4; have hgo4 := go_of_or hor4 hgo (by simp; omega))
        go_roundw
        case rel => exact ⟨k + 1, g4, cap4, L ++ [(x.1, x.2.1, x.2.2 + z)], by omega, by go_num, hstep, by have := hLk.out; simp; omega, by simp, by simpa using hown4, hgo4, by omega, hra4, hrl4, hb4⟩
        case measure => simp [intOf]; omega
      · have hkb0 : decide (0 < k) = true := decide_eq_true hkp
        have hmv0 := Lib.hid (show lmove l a b k = (x.1, x.2.1 + y, x.2.2 + z) by rw [hmv.out, if_neg (by omega)])
        rw [hmv0.out] at hstep
        go_wp2_with fail
        obtain ⟨W, hW⟩ : ∃ W, W = wr.alloc (.cells #[.int .i64 x.1, .int .i64 x.2.1, .int .i64 x.2.2] 31) := ⟨_, rfl⟩
        have hbox : Box3 W S x := by rw [hW, hS]; exact Box3.new wr x _
        have hownW : W.ownsRow w.heap.size 31 3 (.slice (some ⟨g, 0, none⟩) L.length cap) L.length (flat3 L) := by rw [hW]; exact hown.alloc _
        have hraW : Rd W w1.heap.size w2.heap.size (some ⟨ga, oa, none⟩) (ints a) := by rw [hW]; exact hrra.alloc hszr _
        have hrlW : Rd W w1.heap.size w2.heap.size (some ⟨gb, ob, none⟩) (ints b) := by rw [hW]; exact hrrl.alloc hszr _
        have hbW : Below w.heap.size w W := by rw [hW]; exact below_alloc hb _
        have caW : W.cell? ⟨ga, oa + k, none⟩ = some (.int .i64 y) := by rw [hW]; exact (cell_alloc1 (p := ⟨ga, oa + k, none⟩) _ hgaw).trans ca
        have cbW : W.cell? ⟨gb, ob + k, none⟩ = some (.int .i64 z) := by rw [hW]; exact (cell_alloc1 (p := ⟨gb, ob + k, none⟩) _ hgbw).trans cb
        have hszW : wr.heap.size < W.heap.size := by rw [hW]; simp
        have hgS : g < S := by rw [hS]; exact (own_lt hown).2
        have hS2 : w2.heap.size ≤ S := by omega
        have hSb : w.heap.size ≤ S := by omega
        have hgaS : ga ≠ S := by omega
        have hgbS : gb ≠ S := by omega
        rw [← hW, ← hS]
        have HS := Lib.hid hS
        clear hS hW hown hrra hrrl hb ca cb c0 c1 c2
        have b0 := hbox.c0
        have b1 := hbox.c1
        have b2 := hbox.c2
        have f1 := hbox.f1
        have f2 := hbox.f2
        have hSW := hbox.lt
        go_region
        obtain ⟨V, hV⟩ : ∃ V, V = (W.setCell ⟨S, 1, none⟩ (.int .i64 (x.2.1 + y))).drew := ⟨_, rfl⟩
        have hbox2 : Box3 V S (x.1, x.2.1 + y, x.2.2) := by rw [hV]; exact (hbox.set1 _).drew
        have hownV : V.ownsRow w.heap.size 31 3 (.slice (some ⟨g, 0, none⟩) L.length cap) L.length (flat3 L) := by rw [hV]; exact (own_setCell hownW (by omega)).drew
        have hraV : Rd V w1.heap.size w2.heap.size (some ⟨ga, oa, none⟩) (ints a) := by rw [hV]; exact (hraW.setCell hS2).drew
        have hrlV : Rd V w1.heap.size w2.heap.size (some ⟨gb, ob, none⟩) (ints b) := by rw [hV]; exact (hrlW.setCell hS2).drew
        have hbV : Below w.heap.size w V := by rw [hV]; exact (hbW.setCell (p := ⟨S, 1, none⟩) hSb _).drew
        have caV : V.cell? ⟨ga, oa + k, none⟩ = some (.int .i64 y) := by rw [hV]; exact (cell_set_ne (.inl hgaS)).trans caW
        have cbV : V.cell? ⟨gb, ob + k, none⟩ = some (.int .i64 z) := by rw [hV]; exact (cell_set_ne (.inl hgbS)).trans cbW
        have hszV : wr.heap.size < V.heap.size := by rw [hV]; simpa using hszW
        rw [← hV]
        clear hV b0 b1 b2 f1 f2 hSW hbox hownW hraW hrlW hbW caW cbW hszW
        obtain ⟨W, rfl⟩ : ∃ W, W = V := ⟨_, rfl⟩
        have hbox := hbox2
        have hownW := hownV
        have hraW := hraV
        have hrlW := hrlV
        have hbW := hbV
        have caW := caV
        have cbW := cbV
        have hszW := hszV
        clear hbox2 hownV hraV hrlV hbV caV cbV hszV
        go_wp2_with fail
        have b0 := hbox.c0
        have b1 := hbox.c1
        have b2 := hbox.c2
        have f1 := hbox.f1
        have f2 := hbox.f2
        have hSW := hbox.lt
        go_region
        obtain ⟨V, hV⟩ : ∃ V, V = (W.setCell ⟨S, 2, none⟩ (.int .i64 (x.2.2 + z))).drew := ⟨_, rfl⟩
        have hbox2 : Box3 V S (x.1, x.2.1 + y, x.2.2 + z) := by rw [hV]; exact (hbox.set2 _).drew
        have hownV : V.ownsRow w.heap.size 31 3 (.slice (some ⟨g, 0, none⟩) L.length cap) L.length (flat3 L) := by rw [hV]; exact (own_setCell hownW (by omega)).drew
        have hraV : Rd V w1.heap.size w2.heap.size (some ⟨ga, oa, none⟩) (ints a) := by rw [hV]; exact (hraW.setCell hS2).drew
        have hrlV : Rd V w1.heap.size w2.heap.size (some ⟨gb, ob, none⟩) (ints b) := by rw [hV]; exact (hrlW.setCell hS2).drew
        have hbV : Below w.heap.size w V := by rw [hV]; exact (hbW.setCell (p := ⟨S, 2, none⟩) hSb _).drew
        have caV : V.cell? ⟨ga, oa + k, none⟩ = some (.int .i64 y) := by rw [hV]; exact (cell_set_ne (.inl hgaS)).trans caW
        have cbV : V.cell? ⟨gb, ob + k, none⟩ = some (.int .i64 z) := by rw [hV]; exact (cell_set_ne (.inl hgbS)).trans cbW
        have hszV : wr.heap.size < V.heap.size := by rw [hV]; simpa using hszW
        rw [← hV]
        clear hV b0 b1 b2 f1 f2 hSW hbox hownW hraW hrlW hbW caW cbW hszW
        have b0 := hbox2.c0
        have b1 := hbox2.c1
        have b2 := hbox2.c2
        simp only at b0 b1 b2
        have hSW := hbox2.lt
        have hbs2 := hbV.size
        clear hw1 hw2
        go_wp2_with (at_builtin; go_must (refine wpList_append3 rfl _ _ 23 rfl w.heap.size 31 i0 _ Try.underlying23 hi0 hz0 hz1 hz2 rfl (.slice (some ⟨g, 0, none⟩) L.length cap) L rfl (hownV.alloc _) V.heap.size _ _ _ (nb1 _ _) rfl (by omega) (ls1 hbs2 _) ?_); intro g4 cap4 w4 hown4 hg4 hor4 hltg4; have hb4 := below_grown (below_alloc hbV _) (ls1 hbs2 _) (hownV.alloc _) (Nat.le_refl _) hg4; have hra4 := (hraV.alloc (by omega) _).grown hg4 hgo (by simp; omega); have hrl4 := (hrlV.alloc (by omega) _).grown hg4 hgo (by simp; omega); have hsz4 := hg4.size; simp only [World.size_alloc] at hsz4; have hgo4 := go_of_or hor4 hgo (by simp; omega))
        go_roundw
        case rel => exact ⟨k + 1, g4, cap4, L ++ [(x.1, x.2.1 + y, x.2.2 + z)], by omega, by go_num, hstep, by have := hLk.out; simp; omega, by simp, by simpa using hown4, hgo4, by omega, hra4, hrl4, hb4⟩
        case measure => simp [intOf]; omega
    · obtain rfl : k = l.length := by omega
      have hLm := Lib.hid (show L = lmoved l a b by rw [HT.out]; rfl)
      have hL10 : L.length ≤ 1048576 := by omega
      have hfin := Lib.hid (show lstopsOk n l least start ds = stopsB n L by rw [HRES.out, hLm.out])
      have hfinL := Lib.hid (show lstopsOk n l least start ds = true → lstopsL n l least start ds = L from fun h => by rw [HRESL.out h, hLm.out])
      go_wp2_with fail
      refine (sStopsValid n _ _ _ _ L _ hL10 (Rd.of_own hown) (Nat.le_refl _)).mono ?_
      rintro e w5 ⟨rfl, hb5⟩
      have hb05 := hb.trans (hb5.mono hbs)
      have hown5 := own_below hown hb5
      cases hv : stopsB n L
      · have hres := Lib.hid (hfin.out.trans hv)
        clear hv
        go_wp2_with fail
        go_ret2
        exact retTB_no hres.out (HNO.out hres.out) hb05 rfl
      · have hres := Lib.hid (hfin.out.trans hv)
        clear hv
        go_wp2_with fail
        go_ret2
        rw [hfinL.out hres.out, hres.out]
        exact ⟨_, _, rfl, hown5, hb05⟩
set_option maxRecDepth 100000 in
set_option maxHeartbeats 4000000 in
theorem iStops_any (n : Int) (A : Option Addr) (c lo hi : Nat) (l : List T3) (least start : Int) (B : Option Addr) (d lo' hi' : Nat) (ds : List Int) (w : World) (hl : l.length ≤ 1048576) (hr : Rd w lo hi A (flat3 l)) (hh : hi ≤ w.heap.size) (hld : ds.length ≤ 1048576) (hrd : Rd w lo' hi' B (ints ds)) (hhd : hi' ≤ w.heap.size) (hcap : l.length ≤ c) :
    Calls Try.prog 51 #[.int .i64 n, .slice A l.length c, .int .i64 least, .int .i64 start, .slice B ds.length d] w (RetTB 31 (lstopsL n l least start ds) (lstopsOk n l least start ds) w) := by
  obtain ⟨i0, hi0, hz0, hz1, hz2⟩ := info_parts infoStopL
  have hno : lstopsOk n l least start ds = false → lstopsL n l least start ds = [] := fun h => by simp [lstopsL, h]
  have HNO := Lib.hid hno
  clear hno
  go_enter Try.func51, Try.ntmps51
  go_wp2_with fail
  refine (both_any n _ _ _ _ l least start _ _ _ _ ds _ hl hr hh hld hrd hhd hcap).mono ?_
  rintro e w2 ⟨A1, c1, A2, c2, rfl, hoa, hol, hb02⟩
  cases hok : lateOk n l least start ds
  · have hres := Lib.hid (show lstopsOk n l least start ds = false by simp [lstopsOk, hok])
    clear hok
    go_wp2_with fail
    go_ret2
    exact retTB_no hres.out (HNO.out hres.out) hb02 rfl
  have hA : arrL n l least start ds = arrF l least start ds := by simp [arrL, hok]
  have hB : leaL n l least start ds = leaF l least start ds := by simp [leaL, hok]
  rw [hA, hB]
  rw [hA] at hoa
  rw [hB] at hol
  clear hA hB
  have hra := (Rd.of_own hoa).below (below_alloc (Below.refl w2.heap.size w2) (.cells #[] 31)) (Nat.le_refl _)
  have hrl := (Rd.of_own hol).below (below_alloc (Below.refl w2.heap.size w2) (.cells #[] 31)) (Nat.le_refl _)
  have hsz2 := hb02.size
  have hownR := own_lit0 w2 w.heap.size 31 3 hsz2
  have hb03 := below_alloc hb02 (.cells #[] 31)
  have HV := Lib.hid (slackOk_and (lateOk_and hok).1).1
  obtain ⟨_, _, hl2, hl8⟩ := stopsB_n HV.out
  have HAB := Lib.hid (arrF_bd hok).1
  have HLB := Lib.hid (leaF_bd hok)
  have hal := arrF_len hok
  have hll := leaF_len hok
  rw [hal, hll]
  have HAL := Lib.hid hal
  have HLL := Lib.hid hll
  have HRES := Lib.hid (show lstopsOk n l least start ds = stopsB n (lmoved l (arrF l least start ds) (leaF l least start ds)) by simp [lstopsOk, hok])
  have HRESL : Hid (lstopsOk n l least start ds = true → lstopsL n l least start ds = lmoved l (arrF l least start ds) (leaF l least start ds)) := fun h => by simp [lstopsL, h]
  clear hok hal hll hoa hol
  generalize arrF l least start ds = a at *
  generalize leaF l least start ds = b at *
  go_wp2_with fail
  go_loopw [15, 35] (fun v i wr => ∃ (k g cap : Nat) (L : List T3), k ≤ l.length ∧ i = .int .i64 k ∧ Hid (L = (List.range k).map (lmove l a b)) ∧ L.length ≤ 8 ∧ v = .slice (some ⟨g, 0, none⟩) L.length cap ∧ wr.ownsRow w.heap.size 31 3 (.slice (some ⟨g, 0, none⟩) L.length cap) L.length (flat3 L) ∧ (g < w.heap.size ∨ w2.heap.size ≤ g) ∧ w2.heap.size ≤ wr.heap.size ∧ Rd wr w.heap.size w2.heap.size A1 (ints a) ∧ Rd wr w.heap.size w2.heap.size A2 (ints b) ∧ Below w.heap.size w wr) (fun _ i _ => l.length - (intOf i).toNat)
  case atStart => exact ⟨0, w2.heap.size, _, [], Nat.zero_le _, rfl, by simp [Hid], by simp, rfl, hownR, by omega, by simp, hra, hrl, hb03⟩
  case round =>
    obtain ⟨k, g, cap, L, hk, rfl, HT, hL8, rfl, hown, hgo, hszr, hrra, hrrl, hb⟩ := hrel
    clear hra hrl hownR hb02 hb03
    have hbs := hb.size
    by_cases hlt : k < l.length
    · have hka : k < a.length := by have := HAL.out; omega
      have hkb : k < b.length := by have := HLL.out; omega
      obtain ⟨bx, off, rfl, hlo, hhi, c0, c1, c2⟩ := (hr.below hb hh).at3 k hlt
      obtain ⟨ga, oa, rfl, hga1, hga2, ca⟩ := hrra.at1 k hka
      obtain ⟨gb, ob, rfl, hgb1, hgb2, cb⟩ := hrrl.at1 k hkb
      have hq := stopsB_get HV.out k hlt
      have hqa := HAB.out a[k] (List.getElem_mem hka)
      have hqb := HLB.out b[k] (List.getElem_mem hkb)
      have hmv := Lib.hid (show lmove l a b k = (l[k].1, l[k].2.1 + (if k = 0 then 0 else a[k]), l[k].2.2 + b[k]) by simp only [lmove, getD_of_lt l k _ hlt, getD_of_lt a k _ hka, getD_of_lt b k _ hkb])
      have hstep := Lib.hid (show L ++ [lmove l a b k] = (List.range (k + 1)).map (lmove l a b) by rw [range_map_succ, ← HT.out])
      have hLk := Lib.hid (show L.length = k by rw [HT.out]; simp)
      obtain ⟨x, hx⟩ : ∃ x, x = l[k] := ⟨_, rfl⟩
      rw [← hx] at c0 c1 c2 hq hmv
      clear hx
      generalize a[k] = y at *
      generalize b[k] = z at *
      obtain ⟨q1, q2, q3, q4, q5⟩ := hq
      obtain ⟨p1, p2⟩ := hqa
      obtain ⟨r1, r2⟩ := hqb
      have hk0 : (0 : Int) ≤ (k : Int) := by omega
      have hk1 : (k : Int) < (l.length : Int) := by omega
      have hbxw : bx < wr.heap.size := by omega
      have hgaw : ga < wr.heap.size := by omega
      have hgbw : gb < wr.heap.size := by omega
      have hw1 : IntKind.i64.wrap (x.2.1 + y) = x.2.1 + y := IntWalk.i64_in _ (by omega)
      have hw2 : IntKind.i64.wrap (x.2.2 + z) = x.2.2 + z := IntWalk.i64_in _ (by omega)
      rcases Nat.eq_zero_or_pos k with hkz | hkp
      · have hkb0 : ((k : Int) == 0) = true := by simp; omega
        have hmv0 := Lib.hid (show lmove l a b k = (x.1, x.2.1, x.2.2 + z) by rw [hmv.out, if_pos hkz]; simp)
        rw [hmv0.out] at hstep
        clear hkz
        go_wp2_with fail
        go_region
        have hw3 := hown
        clear hw1 hw2
        have hgS := (own_lt hown).2
        go_wp2_with (at_builtin; go_must (refine wpList_append3 rfl _ _ 23 rfl w.heap.size 31 i0 _ Try.underlying23 hi0 hz0 hz1 hz2 rfl (.slice (some ⟨g, 0, none⟩) L.length cap) L rfl (((hown.alloc _).alloc _).alloc _).drew (wr.heap.size + 1 + 1) _ _ _ (nb3 _ _ _ _) rfl (by omega) (ls3 hbs _ _ _) ?_); intro g4 cap4 w4 hown4 hg4 hor4 hltg4; have hb4 := below_grown ((below_alloc (below_alloc (below_alloc hb _) _) _).drew) (ls3 hbs _ _ _) (((hown.alloc _).alloc _).alloc _).drew (Nat.le_refl _) hg4; have hra4 := ((((hrra.alloc hszr _).alloc (ls1 hszr _) _).alloc (ls2 hszr _ _) _).drew).grown hg4 hgo (ls3 hszr _ _ _); have hrl4 := ((((hrrl.alloc hszr _).alloc (ls1 hszr _) _).alloc (ls2 hszr _ _) _).drew).grown hg4 hgo (ls3 hszr _ _ _); have hsz4 := hg4.size; have hsz5 := Nat.le_trans (ls3 hszr _ _ _) hsz4; have hgo4 := go_of_or hor4 hgo (ls3 hszr _ _ _))
        go_roundw
        case rel => exact ⟨k + 1, g4, cap4, L ++ [(x.1, x.2.1, x.2.2 + z)], by omega, by go_num, hstep, by have := hLk.out; simp; omega, by simp, by simpa using hown4, hgo4, hsz5, hra4, hrl4, hb4⟩
        case measure => simp [intOf]; omega
      · have hkb0 : ((k : Int) == 0) = false := by simp; omega
        have hmv0 := Lib.hid (show lmove l a b k = (x.1, x.2.1 + y, x.2.2 + z) by rw [hmv.out, if_neg (by omega)])
        rw [hmv0.out] at hstep
        go_wp2_with fail
        go_region
        have hw3 := hown
        clear hw1 hw2
        have hgS := (own_lt hown).2
        go_wp2_with (at_builtin; go_must (refine wpList_append3 rfl _ _ 23 rfl w.heap.size 31 i0 _ Try.underlying23 hi0 hz0 hz1 hz2 rfl (.slice (some ⟨g, 0, none⟩) L.length cap) L rfl (((hown.alloc _).alloc _).alloc _).drew (wr.heap.size + 1 + 1) _ _ _ (nb3 _ _ _ _) rfl (by omega) (ls3 hbs _ _ _) ?_); intro g4 cap4 w4 hown4 hg4 hor4 hltg4; have hb4 := below_grown ((below_alloc (below_alloc (below_alloc hb _) _) _).drew) (ls3 hbs _ _ _) (((hown.alloc _).alloc _).alloc _).drew (Nat.le_refl _) hg4; have hra4 := ((((hrra.alloc hszr _).alloc (ls1 hszr _) _).alloc (ls2 hszr _ _) _).drew).grown hg4 hgo (ls3 hszr _ _ _); have hrl4 := ((((hrrl.alloc hszr _).alloc (ls1 hszr _) _).alloc (ls2 hszr _ _) _).drew).grown hg4 hgo (ls3 hszr _ _ _); have hsz4 := hg4.size; have hsz5 := Nat.le_trans (ls3 hszr _ _ _) hsz4; have hgo4 := go_of_or hor4 hgo (ls3 hszr _ _ _))
        go_roundw
        case rel => exact ⟨k + 1, g4, cap4, L ++ [(x.1, x.2.1 + y, x.2.2 + z)], by omega, by go_num, hstep, by have := hLk.out; simp; omega, by simp, by simpa using hown4, hgo4, hsz5, hra4, hrl4, hb4⟩
        case measure => simp [intOf]; omega
    · obtain rfl : k = l.length := by omega
      have hLm := Lib.hid (show L = lmoved l a b by rw [HT.out]; rfl)
      have hL10 : L.length ≤ 1048576 := by omega
      have hfin := Lib.hid (show lstopsOk n l least start ds = stopsB n L by rw [HRES.out, hLm.out])
      have hfinL := Lib.hid (show lstopsOk n l least start ds = true → lstopsL n l least start ds = L from fun h => by rw [HRESL.out h, hLm.out])
      go_wp2_with fail
      refine (iStopsValid n _ _ _ _ L _ hL10 (Rd.of_own hown) (Nat.le_refl _)).mono ?_
      rintro e w5 ⟨rfl, hb5⟩
      have hb05 := hb.trans (hb5.mono hbs)
      have hown5 := own_below hown hb5
      cases hv : stopsB n L
      · have hres := Lib.hid (hfin.out.trans hv)
        clear hv
        go_wp2_with fail
        go_ret2
        exact retTB_no hres.out (HNO.out hres.out) hb05 rfl
      · have hres := Lib.hid (hfin.out.trans hv)
        clear hv
        go_wp2_with fail
        go_ret2
        rw [hfinL.out hres.out, hres.out]
        exact ⟨_, _, rfl, hown5, hb05⟩

end Go.Proofs.Yteceohdchknbbaa

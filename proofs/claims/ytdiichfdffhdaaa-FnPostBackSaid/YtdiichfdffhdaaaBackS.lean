/-
  Contract of the reference's StopsBack.
-/
import Derived.Test.YtdiichfdffhdaaaBackMath
import Derived.Test.YtdiichfdffhdaaaStopsS
import Derived.Test.YtdiichfdffhdaaaTri
namespace Go.Proofs.Ytdiichfdffhdaaa
open Go.RowKit

theorem infoStopB : (Try.prog.info? 30).map (fun i => (i.zero, i.size, i.bytes)) = some (some (.agg #[.int .i64 0, .int .i64 0, .int .i64 0]), 3, 24) := by kernel_rfl
set_option maxRecDepth 100000 in
set_option maxHeartbeats 4000000 in
theorem sBack_any (n : Int) (A : Option Addr) (c lo hi : Nat) (l : List T3) (turn : Int) (w : World) (hl : l.length ≤ 1048576) (hr : Rd w lo hi A (flat3 l)) (hh : hi ≤ w.heap.size) :
    Calls Try.prog 75 #[.int .i64 n, .slice A l.length c, .int .i64 turn] w (RetBk 30 (backV n l turn) (backOk n l turn) w) := by
  obtain ⟨i0, hi0, hz0, hz1, hz2⟩ := info_parts infoStopB
  have hbA := below_alloc (Below.refl w.heap.size w) (.cells #[] 30)
  have ho0 : (w.alloc (.cells #[] 30)).ownsRow w.heap.size 30 3 (.slice (some ⟨w.heap.size, 0, none⟩) ([] : List T3).length 0) ([] : List T3).length (flat3 []) := own_lit0 w w.heap.size 30 3 (Nat.le_refl _)
  have wl : IntKind.i64.wrap ((l.length : Int) - 1) = (l.length : Int) - 1 := IntWalk.i64_in _ (by omega)
  go_enter Try.func75, Try.ntmps75
  go_wp2_with fail
  clear wl
  go_loopw [9, 8] (fun i v wr => ∃ (k g cap : Nat) (L : List T3), k ≤ l.length ∧ i = .int .i64 ((k : Int) - 1) ∧ v = .slice (some ⟨g, 0, none⟩) L.length cap ∧ Hid (L = backM turn (l.drop k)) ∧ Hid (L.length = l.length - k) ∧ wr.ownsRow w.heap.size 30 3 (.slice (some ⟨g, 0, none⟩) L.length cap) L.length (flat3 L) ∧ Hid (k < l.length → backPre n l turn = true) ∧ Below w.heap.size w wr) (fun i _ _ => (intOf i + 1).toNat)
  case atStart => exact ⟨l.length, w.heap.size, 0, [], Nat.le_refl _, rfl, rfl, by simp [Hid, backM], by simp [Hid], ho0, fun h => absurd h (by omega), hbA⟩
  case round =>
    obtain ⟨k, g, cap, L, hk, rfl, rfl, HL, hLn, hown, HP, hb⟩ := hrel
    have hbs := hb.size
    clear hbA ho0
    cases k with
    | zero =>
      have HE := Lib.hid (back_end HP.out)
      rw [← HL.out] at HE
      go_wp2_with fail
      refine (sStopsValid n _ _ _ _ L _ (by have := hLn.out; omega) (Rd.of_own hown) (Nat.le_refl _)).mono ?_
      rintro e w9 ⟨rfl, hb9⟩
      have hown9 := own_below hown hb9
      have hb09 := hb.trans (hb9.mono hbs)
      clear hown hb9
      cases hv : stopsB n L
      · have HN := Lib.hid (show backOk n l turn = false from HE.out.1 ▸ hv)
        clear hv
        go_wp2_with fail
        go_ret2
        exact retBk_no hb09 (back_no HN.out) HN.out
      · have HY := Lib.hid (show backOk n l turn = true from HE.out.1 ▸ hv)
        have HV := Lib.hid (HE.out.2 hv).symm
        clear hv
        go_wp2_with fail
        go_ret2
        exact retBk_yes rfl hb09 HV.out HY.out hown9
    | succ k =>
      have hlt : k < l.length := by omega
      have ek : (((k + 1 : Nat) : Int)) - 1 = (k : Int) := by omega
      simp only [ek]
      have hk0 : (0 : Int) ≤ (k : Int) := by omega
      obtain ⟨bb, off, rfl, hlo, hhi, c0, c1, c2⟩ := (hr.below hb hh).at3 k hlt
      go_wp2_with fail
      refine (sStopsValid n _ _ _ _ l _ hl (hr.below hb hh) (Nat.le_trans hh hbs)).mono ?_
      rintro e w1 ⟨rfl, hb1⟩
      have hb01 := hb.trans (hb1.mono hbs)
      have hown1 := own_below hown hb1
      cases hv0 : stopsB n l
      · have HN0 := Lib.hid (show backPre n l turn = false by rw [backPre, hv0, Bool.false_and])
        clear hv0
        have HE := Lib.hid (back_out hlt HP.out HN0.out)
        rw [← HL.out] at HE
        have hb1s := hb01.size
        go_wp2_with fail
        refine (sStopsValid n _ _ _ _ L _ (by have := hLn.out; omega) (Rd.of_own hown1) (Nat.le_refl _)).mono ?_
        rintro e w9 ⟨rfl, hb9⟩
        have hown9 := own_below hown1 hb9
        have hb09 := hb01.trans (hb9.mono hb1s)
        clear hown1 hb9
        cases hv : stopsB n L
        · have HN := Lib.hid (show backOk n l turn = false from HE.out.1 ▸ hv)
          clear hv
          go_wp2_with fail
          go_ret2
          exact retBk_no hb09 (back_no HN.out) HN.out
        · have HY := Lib.hid (show backOk n l turn = true from HE.out.1 ▸ hv)
          have HV := Lib.hid (HE.out.2 hv).symm
          clear hv
          go_wp2_with fail
          go_ret2
          exact retBk_yes rfl hb09 HV.out HY.out hown9
      have HV0 := Lib.hid hv0
      clear hv0
      go_wp2_with fail
      refine (l6In_any turn 0 20000 _).mono ?_
      rintro e wq ⟨rfl, rfl⟩
      cases hd : inB turn 0 20000
      · have HN0 := Lib.hid (show backPre n l turn = false by rw [backPre, hd, Bool.and_false])
        clear hd
        have HE := Lib.hid (back_out hlt HP.out HN0.out)
        rw [← HL.out] at HE
        have hb1s := hb01.size
        go_wp2_with fail
        refine (sStopsValid n _ _ _ _ L _ (by have := hLn.out; omega) (Rd.of_own hown1) (Nat.le_refl _)).mono ?_
        rintro e w9 ⟨rfl, hb9⟩
        have hown9 := own_below hown1 hb9
        have hb09 := hb01.trans (hb9.mono hb1s)
        clear hown1 hb9
        cases hv : stopsB n L
        · have HN := Lib.hid (show backOk n l turn = false from HE.out.1 ▸ hv)
          clear hv
          go_wp2_with fail
          go_ret2
          exact retBk_no hb09 (back_no HN.out) HN.out
        · have HY := Lib.hid (show backOk n l turn = true from HE.out.1 ▸ hv)
          have HV := Lib.hid (HE.out.2 hv).symm
          clear hv
          go_wp2_with fail
          go_ret2
          exact retBk_yes rfl hb09 HV.out HY.out hown9
      have HPR := Lib.hid (show backPre n l turn = true by rw [backPre, hd, HV0.out]; rfl)
      obtain ⟨ht0, ht1⟩ := of_inB hd
      clear hd
      have hb1s := hb01.size
      have hbw : bb < w1.heap.size := by have := hb1.size; omega
      have gx := stopsB_get HV0.out k hlt
      have HST := Lib.hid (backM_step turn l k hlt)
      have d0 := (hb1.cell (p := ⟨bb, off + k * 3, none⟩) (by show bb < _; omega)).trans c0
      have d1 := (hb1.cell (p := ⟨bb, off + k * 3 + 1, none⟩) (by show bb < _; omega)).trans c1
      have d2 := (hb1.cell (p := ⟨bb, off + k * 3 + 2, none⟩) (by show bb < _; omega)).trans c2
      clear c0 c1 c2 hb hown hb1
      generalize l[k] = x at *
      obtain ⟨x1, x2, x3⟩ := x
      simp only at gx d0 d1 d2
      obtain ⟨-, -, gx3, gx4, gx5⟩ := gx
      have p1 : IntKind.i64.wrap (turn - x3) = turn - x3 := IntWalk.i64_in _ (by omega)
      have p2 : IntKind.i64.wrap (turn - x2) = turn - x2 := IntWalk.i64_in _ (by omega)
      have wk : IntKind.i64.wrap ((k : Int) - 1) = (k : Int) - 1 := IntWalk.i64_in _ (by omega)
      have hgl := (own_lt hown1).2
      go_wp2_with (at_builtin; go_must (refine wpList_append3 rfl _ _ 31 rfl w.heap.size 30 i0 _ Try.underlying31 hi0 hz0 hz1 hz2 rfl (.slice (some ⟨g, 0, none⟩) L.length cap) L rfl ((hown1.alloc _).alloc _) (w1.heap.size + 1) x1 (turn - x3) (turn - x2) (nb2 _ _ _) rfl (by have := hLn.out; omega) (ls2 hb1s _ _) ?_); intro g2 cap2 w2 hown2 hg2 hor2 hlt2; have hb2 := below_grown (below_alloc (below_alloc hb01 _) _) (ls2 hb1s _ _) ((hown1.alloc _).alloc _) (Nat.le_refl _) hg2)
      clear p1 p2
      go_roundw
      case rel =>
        refine ⟨k, g2, cap2, L ++ [(x1, turn - x3, turn - x2)], by omega, by go_num, by simp, ?_, by have := hLn.out; simp [Hid]; omega, by simpa using hown2, fun _ => HPR.out, hb2⟩
        show L ++ [_] = _
        rw [HST.out, ← HL.out]; rfl
      case measure => simp [intOf]

end Go.Proofs.Ytdiichfdffhdaaa

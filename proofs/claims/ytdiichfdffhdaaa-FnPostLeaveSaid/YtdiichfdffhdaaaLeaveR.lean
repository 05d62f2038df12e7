/-
  Contract of the reference's PostLeave.
-/
import Derived.Test.YtdiichfdffhdaaaLeaveS
import Derived.Test.YtdiichfdffhdaaaPostR
namespace Go.Proofs.Ytdiichfdffhdaaa
open Go.RowKit

theorem leaveStep_skip {n : Int} {net : Net} {f to t ch best : Int} {l : List T3} (h : atL f l < 0) : leaveStep n net f to t ch best l = best := by
  unfold leaveStep; rw [if_pos (.inl h)]
theorem leaveStep_at {n : Int} {net : Net} {f to t ch best : Int} {l : List T3} {m : Nat} {x : T3} (h : atL f l = (m : Int)) (hx : l[m]? = some x) :
    leaveStep n net f to t ch best l = if x.2.2 ≤ best then best else if 0 ≤ postArr n net f to x.2.2 ch ∧ postArr n net f to x.2.2 ch ≤ t then x.2.2 else best := by
  have hg : l.getD (atL f l).toNat (0, 0, 0) = x := by rw [h, Int.toNat_natCast, List.getD_eq_getElem?_getD, hx]; rfl
  unfold leaveStep
  rw [hg]
  have hn : ¬ (atL f l < 0) := by omega
  by_cases hb : x.2.2 ≤ best
  · rw [if_pos (.inr hb), if_pos hb]
  · rw [if_neg (by omega), if_neg hb]; rfl
theorem foldl_take_succ (F : Int → List T3 → Int) (b : Int) (net : Net) (k : Nat) (h : k < net.length) : (net.take (k + 1)).foldl F b = F ((net.take k).foldl F b) net[k] := by
  rw [List.take_succ_eq_append_getElem h, List.foldl_append]; rfl

set_option maxRecDepth 100000 in
set_option maxHeartbeats 4000000 in
theorem sPostLeave_any (n : Int) (A : Option Addr) (c hi : Nat) (net : Net) (f to t ch : Int) (w : World) (hl : netSize net ≤ 1048576) (hr : RdN w 0 hi A net) (hh : hi ≤ w.heap.size) :
    Calls Try.prog 48 #[.int .i64 n, .slice A net.length c, .int .i64 f, .int .i64 to, .int .i64 t, .int .i64 ch] w fun e w' => e = .returned (.int .i64 (leaveV n net f to t ch)) ∧ Below w.heap.size w w' := by
  go_enter Try.func48, Try.ntmps48
  go_wp2_with fail
  refine (l7Ok_any n _ _ _ net f t ch _ hl hr hh).mono ?_
  rintro e w1 ⟨rfl, hb1⟩
  cases hok : postOk n net f t ch
  · have hno := Lib.hid (show leaveV n net f to t ch = -1 by simp [leaveV, hok])
    clear hok
    go_wp2_with fail
    go_ret
    exact ⟨ret_int hno.out.symm, hb1⟩
  obtain ⟨hnet, hf, ht, hch, hn1, hn2⟩ := postOk_and hok
  have HOK := Lib.hid hok
  have HNET := Lib.hid hnet
  have hln := (netB_and hnet).2.1
  clear hok hnet
  go_wp2_with fail
  refine (l6In_any to 0 (n - 1) _).mono ?_
  rintro e wq ⟨rfl, rfl⟩
  cases hto : inB to 0 (n - 1)
  · have hno := Lib.hid (show leaveV n net f to t ch = -1 by simp [leaveV, hto])
    clear hto
    go_wp2_with fail
    go_ret
    exact ⟨ret_int hno.out.symm, hb1⟩
  have HTO := Lib.hid hto
  clear hto
  by_cases hft : f = to
  · have hno := Lib.hid (show leaveV n net f to t ch = t by unfold leaveV; rw [HOK.out, HTO.out, if_pos hft]; rfl)
    have hd : (f == to) = true := by simp [hft]
    clear hft
    go_wp2_with fail
    go_ret
    exact ⟨ret_int hno.out.symm, hb1⟩
  have hres := Lib.hid (show leaveV n net f to t ch = leaveFold n net f to t ch net by unfold leaveV; rw [HOK.out, HTO.out, if_neg hft]; rfl)
  have hd : (f == to) = false := by simp [hft]
  clear hft
  go_wp2_with fail
  go_loopw [13, 14] (fun v i wr => ∃ (k : Nat) (best : Int), k ≤ net.length ∧ i = .int .i64 k ∧ v = .int .i64 best ∧ -1 ≤ best ∧ best ≤ 10000 ∧ Hid (best = (net.take k).foldl (leaveStep n net f to t ch) (-1)) ∧ Below w.heap.size w wr) (fun _ i _ => net.length - (intOf i).toNat)
  case atStart => exact ⟨0, -1, Nat.zero_le _, rfl, rfl, by omega, by omega, rfl, hb1⟩
  case round =>
    obtain ⟨k, best, hk, rfl, rfl, hb0, hb10, HB, hb⟩ := hrel
    clear hb1
    have hbs := hb.size
    by_cases hlt : k < net.length
    · obtain ⟨b, off, B, cc, rfl, _, hbh, q0, hcc, hrk⟩ := (hr.below hb hh) k hlt
      have hsv := netB_mem HNET.out (List.getElem_mem hlt)
      have hl8 := (stopsB_n hsv).2.2.2
      have HNX := Lib.hid (foldl_take_succ (leaveStep n net f to t ch) (-1) net k hlt)
      obtain ⟨l, hle⟩ : ∃ l, l = net[k] := ⟨_, rfl⟩
      rw [← hle] at q0 hcc hrk hl8 hsv HNX
      have HSV := Lib.hid hsv
      clear hle hsv
      go_wp2_with fail
      refine (l2At_any B cc _ _ l f _ (by omega) hrk).mono ?_
      rintro e wr2 ⟨rfl, hb2⟩
      have q02 := (hb2.cell (p := ⟨b, off + k, none⟩) (show b < _ by omega)).trans q0
      have hrk2 := hrk.below hb2 (by omega)
      have hb' := hb.trans (hb2.mono hbs)
      clear q0 hrk hb hbs hb2
      have q0 := q02
      have hrk := hrk2
      have hb := hb'
      have hbs := hb.size
      clear q02 hrk2 hb'
      rcases atFrom_ge f 0 l with ha | ⟨m, hm, ha, hmt⟩
      · have ha' : atL f l = -1 := ha
        have hnx := Lib.hid (show best = (net.take (k + 1)).foldl (leaveStep n net f to t ch) (-1) by rw [HNX.out, ← HB.out, leaveStep_skip (by omega)])
        rw [ha']
        clear ha ha'
        go_wp2_with fail
        go_roundw
        case rel => exact ⟨k + 1, best, by omega, by go_num, rfl, hb0, hb10, hnx, hb⟩
        case measure => simp [intOf]; omega
      · have ha' : atL f l = (m : Int) := by rw [atL, ha]; simp
        obtain ⟨b', off', rfl, _, hb', a0, a1, a2⟩ := hrk.at3 m hm
        obtain ⟨x, hx⟩ : ∃ x, x = l[m] := ⟨_, rfl⟩
        rw [← hx] at a0 a1 a2
        have hxl : l[m]? = some x := by rw [hx]; exact List.getElem?_eq_getElem hm
        have hxo := stopsB_one HSV.out hxl
        have HST := Lib.hid (leaveStep_at (n := n) (net := net) (to := to) (t := t) (ch := ch) (best := best) ha' hxl)
        rw [ha']
        have hm0 : ¬ ((m : Int) < 0) := by omega
        clear ha ha' hmt hx hxl
        by_cases hxb : x.2.2 ≤ best
        · have hnx := Lib.hid (show best = (net.take (k + 1)).foldl (leaveStep n net f to t ch) (-1) by rw [HNX.out, ← HB.out, HST.out, if_pos hxb])
          go_wp2_with fail
          go_roundw
          case rel => exact ⟨k + 1, best, by omega, by go_num, rfl, hb0, hb10, hnx, hb⟩
          case measure => simp [intOf]; omega
        · have hxb' : best < x.2.2 := by omega
          have HST2 := Lib.hid (HST.out.trans (if_neg hxb))
          clear hxb
          go_wp2_with fail
          refine (sPostArrive_any n _ _ hi net f to x.2.2 ch _ hl (hr.below hb hh) (by omega)).mono ?_
          rintro e w3 ⟨rfl, hb3⟩
          have hb13 := hb.trans (hb3.mono hbs)
          have q03 := (hb3.cell (p := ⟨b, off + k, none⟩) (show b < _ by omega)).trans q0
          have a23 := (hb3.cell (p := ⟨b', off' + m * 3 + 2, none⟩) (show b' < _ by omega)).trans a2
          have hz3 := hb3.size
          generalize postArr n net f to x.2.2 ch = y at *
          by_cases hy : 0 ≤ y ∧ y ≤ t
          · have hnx := Lib.hid (show x.2.2 = (net.take (k + 1)).foldl (leaveStep n net f to t ch) (-1) by rw [HNX.out, ← HB.out, HST2.out, if_pos hy])
            obtain ⟨y0, y1⟩ := hy
            go_wp2_with fail
            go_roundw
            case rel => exact ⟨k + 1, x.2.2, by omega, by go_num, rfl, by omega, by omega, hnx, hb13⟩
            case measure => simp [intOf]; omega
          · have hnx := Lib.hid (show best = (net.take (k + 1)).foldl (leaveStep n net f to t ch) (-1) by rw [HNX.out, ← HB.out, HST2.out, if_neg hy])
            by_cases y0 : 0 ≤ y
            · have y1 : t < y := by omega
              clear hy
              go_wp2_with fail
              go_roundw
              case rel => exact ⟨k + 1, best, by omega, by go_num, rfl, hb0, hb10, hnx, hb13⟩
              case measure => simp [intOf]; omega
            · have yd : decide (0 ≤ y) = false := decide_eq_false y0
              clear hy y0
              go_wp2_with fail
              go_roundw
              case rel => exact ⟨k + 1, best, by omega, by go_num, rfl, hb0, hb10, hnx, hb13⟩
              case measure => simp [intOf]; omega
    · have hfin := Lib.hid (show best = leaveFold n net f to t ch net by rw [HB.out, List.take_of_length_le (by omega)]; rfl)
      go_wp2_with fail
      go_ret
      exact ⟨ret_int (by rw [hres.out, hfin.out]), hb⟩

end Go.Proofs.Ytdiichfdffhdaaa

/-
  Contract of the reference's PostBack.
-/
import Derived.Test.YtdiichfdffhdaaaBackS
import Derived.Test.YtdiichfdffhdaaaPostAdd
namespace Go.Proofs.Ytdiichfdffhdaaa
open Go.RowKit

theorem retNB_two {w w1 : World} {net net' : Net} {b b' : Bool} {A : Option Addr} {c m : Nat} (hm : net'.length = m) (hb : Below w.heap.size w w1) (h1 : net = net') (h2 : b = b') (ho : OwnN w1 w.heap.size 30 31 (.slice A net'.length c) net') :
    RetNB net b w (.returned (.tuple #[.slice A m c, .bool b'])) w1 := by
  subst h1 h2 hm
  exact ⟨A, c, rfl, ho, hb⟩
set_option maxRecDepth 100000 in
set_option maxHeartbeats 4000000 in
theorem sPostBack_any (n : Int) (A : Option Addr) (c lo hi : Nat) (net : Net) (turn : Int) (w : World) (hl : netSize net ≤ 1048576) (hr : RdN w lo hi A net) (hh : hi ≤ w.heap.size) :
    Calls Try.prog 45 #[.int .i64 n, .slice A net.length c, .int .i64 turn] w (RetNB (backN n net turn) (backNOk n net turn) w) := by
  obtain ⟨hln, h8⟩ := net_lenA hl
  have H8 := Lib.hid h8
  clear h8
  obtain ⟨i1, hi1, hy0, hy1, hy2⟩ := info_parts infoHdr
  go_enter Try.func45, Try.ntmps45
  have hbA := below_alloc (Below.refl w.heap.size w) (.cells #[] 31)
  have hN0 := OwnN.nil w w.heap.size 30 31 (Nat.le_refl _)
  go_wp2_with fail
  go_loopw [9, 8] (fun i v wr => ∃ (k m : Nat) (A' : Option Addr) (c' : Nat) (T : Net), k ≤ net.length ∧ i = .int .i64 k ∧ v = .slice A' m c' ∧ Hid (T.length = m) ∧ Hid (m = k) ∧ Hid (T = (net.take k).map (backM turn)) ∧ OwnN wr w.heap.size 30 31 (.slice A' T.length c') T ∧ Hid (0 < k → netB n net = true) ∧ Hid ((net.take k).all (fun l => backOk n l turn) = true) ∧ Below w.heap.size w wr) (fun i _ _ => net.length - (intOf i).toNat)
  case atStart => exact ⟨0, 0, _, _, [], Nat.zero_le _, rfl, rfl, rfl, rfl, by simp [Hid], hN0, fun h => absurd h (by omega), by simp [Hid], hbA⟩
  case round =>
    obtain ⟨k, m, A', c', T, hk, rfl, rfl, HM, HK, HT, hN, HV, HA, hb⟩ := hrel
    have hbs := hb.size
    clear hbA hN0
    by_cases hlt : k < net.length
    · obtain ⟨b, off, B', cc, rfl, hlo, hhi, c0, hc, hrk⟩ := (hr.below hb hh) k hlt
      have hlk := H8.out k hlt
      have hbw : b < wr.heap.size := by omega
      have HSTOP := Lib.hid (fun h => backN_stop (n := n) (turn := turn) k hlt h)
      have HNEXT := Lib.hid (fun h => backN_next (n := n) (turn := turn) hlt HA.out h)
      have HMAP := Lib.hid (backN_map (turn := turn) hlt)
      rw [← HT.out] at HMAP
      generalize net[k] = row at *
      go_wp2_with fail
      refine (sNetValid n _ _ _ _ net _ hl (hr.below hb hh) (Nat.le_trans hh hbs)).mono ?_
      rintro e w1 ⟨rfl, hb1⟩
      have hb01 := hb.trans (hb1.mono hbs)
      have hb1s := hb01.size
      have hN1 := hN.below hb1
      cases hv : netB n net
      · have HV0 := Lib.hid hv
        have HK0 := Lib.hid (show k = 0 by
          rcases Nat.eq_zero_or_pos k with h0 | h0
          · exact h0
          · rw [HV.out h0] at hv; cases hv)
        have HNO := Lib.hid (show backNOk n net turn = false by rw [backNOk, hv, Bool.false_and])
        clear hv hN hb
        go_wp2_with fail
        refine (sNetValid n _ _ _ _ net _ hl (hr.below hb01 hh) (Nat.le_trans hh hb1s)).mono ?_
        rintro e w2 ⟨rfl, hb2⟩
        have hb02 := hb01.trans (hb2.mono hb1s)
        have hN2 := hN1.below hb2
        go_wp2_with fail
        go_ret2
        exact retNB_two HM.out hb02 ((backN_no HNO.out).trans (by rw [HT.out, HK0.out]; rfl)) (HNO.out.trans HV0.out.symm) hN2
      have HV1 := Lib.hid hv
      have c1 := (hb1.cell (p := ⟨b, off + k, none⟩) hbw).trans c0
      have hbw1 : b < w1.heap.size := by have := hb1.size; omega
      have hrk1 := hrk.below hb1 (Nat.le_trans hh hbs)
      clear hv hN hb c0
      go_wp2_with fail
      refine (sBack_any n B' cc lo hi row turn w1 hlk hrk1 (Nat.le_trans hh hb1s)).mono ?_
      rintro e w2 ⟨P2, d2, rfl, hown2, hb2⟩
      have hb02 := hb01.trans (hb2.mono hb1s)
      cases hok : backOk n row turn
      · have HNO := Lib.hid (HSTOP.out hok)
        clear hok
        go_wp2_with fail
        go_ret2
        exact retNB_no hb02 (backN_no HNO.out) HNO.out
      have HN' := Lib.hid (HNEXT.out hok)
      rw [back_yes hok] at hown2
      simp only [back_yes hok]
      clear hok
      generalize backM turn row = R at *
      have hm := HM.out
      subst hm
      have htl : T.length ≤ 2097152 := by have := HK.out; omega
      have hN2 := hN1.bound.below hb2
      have hN3 := hN2.below (below_alloc (Below.refl w2.heap.size w2) (.cells #[.slice P2 R.length d2] 31))
      have hown3 := own_below hown2 (below_alloc (Below.refl w2.heap.size w2) (.cells #[.slice P2 R.length d2] 31))
      have hb3 := below_alloc hb02 (.cells #[.slice P2 R.length d2] 31)
      have HTL := Lib.hid (show (T ++ [R]).length = k + 1 by have := HK.out; simp; omega)
      clear hb2 hN2 hown2 hN1 hb02
      go_wp2_with (at_builtin; go_must (refine wpList_snocN rfl _ _ 23 rfl w.heap.size w1.heap.size w1.heap.size 30 31 i1 _ Try.underlying23 hi1 hy0 hy1 hy2 rfl A' c' T rfl hN3 P2 d2 R hown3 w2.heap.size (Rd.lit w2 _ _) rfl htl (Nat.le_refl _) hb1s hb3.size ?_); intro A4 c4 w4 hN4 hg4 hge4; have hb4 := hb3.grown hg4 hb3.size hge4)
      go_roundw
      case rel => exact ⟨k + 1, k + 1, A4, c4, T ++ [R], by omega, by go_num, by have := HTL.out; simp at this; simp; omega, HTL.out, rfl, HMAP.out.symm, hN4, fun _ => HV1.out, HN'.out, hb4⟩
      case measure => simp [intOf]; omega
    · have HE := Lib.hid (backN_full hlt HA.out)
      have hkn : k = net.length := by omega
      have hT : net.take k = net := by rw [hkn]; exact List.take_length
      rw [hT] at HT
      clear hT
      go_wp2_with fail
      refine (sNetValid n _ _ _ _ net _ hl (hr.below hb hh) (Nat.le_trans hh hbs)).mono ?_
      rintro e w2 ⟨rfl, hb2⟩
      have hb02 := hb.trans (hb2.mono hbs)
      have hN2 := hN.below hb2
      clear hN hb hb2
      cases hv : netB n net
      · have HV0 := Lib.hid hv
        have HK0 := Lib.hid (show k = 0 by
          rcases Nat.eq_zero_or_pos k with h0 | h0
          · exact h0
          · rw [HV.out h0] at hv; cases hv)
        have HNO := Lib.hid (show backNOk n net turn = false by rw [backNOk, hv, Bool.false_and])
        have HNIL := Lib.hid (show net = [] from List.eq_nil_of_length_eq_zero (by have := HK0.out; omega))
        clear hv
        go_wp2_with fail
        go_ret2
        exact retNB_two HM.out hb02 ((backN_no HNO.out).trans (by rw [HT.out, HNIL.out]; rfl)) HNO.out hN2
      · have HY := Lib.hid (HE.out.trans hv)
        clear hv
        go_wp2_with fail
        go_ret2
        exact retNB_two HM.out hb02 ((backN_yes HY.out).trans HT.out.symm) HY.out hN2

end Go.Proofs.Ytdiichfdffhdaaa

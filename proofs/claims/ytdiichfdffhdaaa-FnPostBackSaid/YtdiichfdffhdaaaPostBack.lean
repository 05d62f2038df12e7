/-
  Contract of the program's PostBack.
-/
import Derived.Test.YtdiichfdffhdaaaPostBackS
import Derived.Test.YtdiichfdffhdaaaBackC
namespace Go.Proofs.Ytdiichfdffhdaaa
open Go.RowKit

set_option maxRecDepth 100000 in
set_option maxHeartbeats 4000000 in
theorem iPostBack_any (n : Int) (A : Option Addr) (c lo hi : Nat) (net : Net) (turn : Int) (w : World) (hl : netSize net ≤ 1048576) (hr : RdN w lo hi A net) (hh : hi ≤ w.heap.size) :
    Calls Try.prog 44 #[.int .i64 n, .slice A net.length c, .int .i64 turn] w (RetNB (backN n net turn) (backNOk n net turn) w) := by
  obtain ⟨hln, h8⟩ := net_lenA hl
  have H8 := Lib.hid h8
  clear h8
  obtain ⟨i1, hi1, hy0, hy1, hy2⟩ := info_parts infoHdr
  go_enter Try.func44, Try.ntmps44
  go_wp2_with fail
  refine (iNetValid n _ _ _ _ net _ hl hr hh).mono ?_
  rintro e w0 ⟨rfl, hb0⟩
  cases hv : netB n net
  · have HNO := Lib.hid (show backNOk n net turn = false by rw [backNOk, hv, Bool.false_and])
    clear hv
    go_wp2_with fail
    go_ret2
    exact retNB_no hb0 (backN_no HNO.out) HNO.out
  have HV1 := Lib.hid hv
  clear hv
  have hbA := below_alloc hb0 (.cells #[] 31)
  have hN0 := OwnN.nil w0 w.heap.size 30 31 hb0.size
  go_wp2_with fail
  go_loopw [21, 8] (fun i v wr => ∃ (k m : Nat) (A' : Option Addr) (c' : Nat) (T : Net), k ≤ net.length ∧ i = .int .i64 k ∧ v = .slice A' m c' ∧ Hid (T.length = m) ∧ Hid (m = k) ∧ Hid (T = (net.take k).map (backM turn)) ∧ OwnN wr w.heap.size 30 31 (.slice A' T.length c') T ∧ Hid ((net.take k).all (fun l => backOk n l turn) = true) ∧ Below w.heap.size w wr) (fun i _ _ => net.length - (intOf i).toNat)
  case atStart => exact ⟨0, 0, _, _, [], Nat.zero_le _, rfl, rfl, rfl, rfl, by simp [Hid], hN0, by simp [Hid], hbA⟩
  case round =>
    obtain ⟨k, m, A', c', T, hk, rfl, rfl, HM, HK, HT, hN, HA, hb⟩ := hrel
    have hbs := hb.size
    clear hbA hN0 hb0
    by_cases hlt : k < net.length
    · obtain ⟨b, off, B', cc, rfl, hlo, hhi, c0, hc, hrk⟩ := (hr.below hb hh) k hlt
      have hlk := H8.out k hlt
      have hbw : b < wr.heap.size := by omega
      have HSTOP := Lib.hid (fun h => backN_stop (n := n) (turn := turn) k hlt h)
      have HNEXT := Lib.hid (fun h => backN_next (n := n) (turn := turn) hlt HA.out h)
      have HMAP := Lib.hid (backN_map (turn := turn) hlt)
      rw [← HT.out] at HMAP
      generalize net[k] = row at *
      go_wp2_with fail
      refine (iBack_any n B' cc lo hi row turn wr hlk hrk (Nat.le_trans hh hbs)).mono ?_
      rintro e w2 ⟨P2, d2, rfl, hown2, hb2⟩
      have hb02 := hb.trans (hb2.mono hbs)
      cases hok : backOk n row turn
      · have HNO := Lib.hid (HSTOP.out hok)
        clear hok
        go_wp2_with fail
        go_ret2
        exact retNB_no hb02 (backN_no HNO.out) HNO.out
      have HN' := Lib.hid (HNEXT.out hok)
      rw [back_yes hok] at hown2
      simp only [back_yes hok]
      clear hok
      generalize backM turn row = R at *
      have hm := HM.out
      subst hm
      have htl : T.length ≤ 2097152 := by have := HK.out; omega
      have hN2 := hN.bound.below hb2
      have hN3 := hN2.below (below_alloc (Below.refl w2.heap.size w2) (.cells #[.slice P2 R.length d2] 31))
      have hown3 := own_below hown2 (below_alloc (Below.refl w2.heap.size w2) (.cells #[.slice P2 R.length d2] 31))
      have hb3 := below_alloc hb02 (.cells #[.slice P2 R.length d2] 31)
      have HTL := Lib.hid (show (T ++ [R]).length = k + 1 by have := HK.out; simp; omega)
      clear hb2 hN2 hown2 hN hb02
      go_wp2_with (at_builtin; go_must (refine wpList_snocN rfl _ _ 23 rfl w.heap.size wr.heap.size wr.heap.size 30 31 i1 _ Try.underlying23 hi1 hy0 hy1 hy2 rfl A' c' T rfl hN3 P2 d2 R hown3 w2.heap.size (Rd.lit w2 _ _) rfl htl (Nat.le_refl _) hbs hb3.size ?_); intro A4 c4 w4 hN4 hg4 hge4; have hb4 := hb3.grown hg4 hb3.size hge4)
      go_roundw
      case rel => exact ⟨k + 1, k + 1, A4, c4, T ++ [R], by omega, by go_num, by have := HTL.out; simp at this; simp; omega, HTL.out, rfl, HMAP.out.symm, hN4, HN'.out, hb4⟩
      case measure => simp [intOf]; omega
    · have HE := Lib.hid ((backN_full hlt HA.out).trans HV1.out)
      have hkn : k = net.length := by omega
      have hT : net.take k = net := by rw [hkn]; exact List.take_length
      rw [hT] at HT
      clear hT
      go_wp2_with fail
      go_ret2
      exact retNB_two HM.out hb ((backN_yes HE.out).trans HT.out.symm) HE.out hN

end Go.Proofs.Ytdiichfdffhdaaa

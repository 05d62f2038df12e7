/-
  Contract of the reference's PostWay.
-/
import Derived.Test.YtdiichfdffhdaaaL7Last
namespace Go.Proofs.Ytdiichfdffhdaaa
open Go.RowKit

set_option maxRecDepth 100000 in
set_option maxHeartbeats 8000000 in
theorem sPostWay_any (n : Int) (A : Option Addr) (c hi : Nat) (net : Net) (f tt t0 ch : Int) (w : World) (hl : netSize net ≤ 1048576) (hr : RdN w 0 hi A net) (hh : hi ≤ w.heap.size) :
    Calls Try.prog 20 #[.int .i64 n, .slice A net.length c, .int .i64 f, .int .i64 tt, .int .i64 t0, .int .i64 ch] w (RetWB 33 (wayV n net f tt t0 ch) (wayOk n net f tt t0 ch) w) := by
  obtain ⟨i0, hi0, hz0, hz1, hz2⟩ := info_parts infoRideW
  have hbA0 := below_alloc (Below.refl w.heap.size w) (.cells #[] 33)
  have hoA0 := own_lit0 w w.heap.size 33 3 (Nat.le_refl _)
  go_enter Try.func20, Try.ntmps20
  go_wp2_with fail
  refine (sPostArrive_any n _ _ _ net f tt t0 ch _ hl (hr.below hbA0 hh) (Nat.le_trans hh hbA0.size)).mono ?_
  rintro e w1 ⟨rfl, hb1'⟩
  have hb1 := hbA0.trans (hb1'.mono hbA0.size)
  have hoA := own_below hoA0 hb1'
  clear hbA0 hoA0
  rcases postArr_way n net f tt t0 ch with ⟨hneg, hno, hnil⟩ | ⟨hpos, hyes, hok, htt, htg, hway⟩
  · generalize postArr n net f tt t0 ch = y at *
    have HNO := Lib.hid hno
    have HNIL := Lib.hid hnil
    have HOA := Lib.hid hoA
    clear hno hnil hoA
    go_wp2_with fail
    go_ret2
    exact ⟨some ⟨w.heap.size, 0, none⟩, 0, by rw [HNIL.out, HNO.out]; rfl, by rw [HNIL.out]; exact HOA.out, hb1⟩
  generalize postArr n net f tt t0 ch = y at *
  obtain ⟨hnet, hf, ht, hch, hn⟩ := postOk_and hok
  obtain ⟨hn1, hn2⟩ := hn
  obtain ⟨hch0, hch1⟩ := hch
  have HOK := Lib.hid hok
  have HNET := Lib.hid hnet
  have HYES := Lib.hid hyes
  have HWAY := Lib.hid hway
  have HTAB := Lib.hid (tableL_is hok)
  have hln := (netB_and hnet).2.1
  have HLEN := Lib.hid (wayB_len hok htt)
  clear hok hnet hyes hway
  have hbs1 := hb1.size
  go_wp2_with fail
  refine (l7Table_any n _ _ _ net f t0 ch _ HOK.out (hr.below hb1 hh) (by omega)).mono ?_
  rintro e w2 ⟨BT, cT, rfl, hoT, hb2⟩
  have hb12 := hb1.trans (hb2.mono hbs1)
  have hoA2 := own_below hoA hb2
  obtain ⟨T, hT⟩ : ∃ T, T = tableL n net f t0 ch := ⟨_, rfl⟩
  rw [← hT] at hoT htg ⊢
  have HT := Lib.hid hT
  have HTAB2 := Lib.hid (show IsTab n net f t0 ch T by rw [hT]; exact HTAB.out)
  have hlenT := Lib.hid (show (wayB T f ch net tt).length ≤ 10001 by rw [hT]; exact HLEN.out)
  have hlT := HTAB2.out.1.1
  obtain ⟨gT, capT, hvT, _, hgT⟩ := hoT.form (by omega)
  injection hvT with hBT _ hcT
  subst hBT hcT
  have hgT1 := (own_lt hoT).1
  have hrT := Rd.of_own hoT
  have HOT := Lib.hid (show Rd w2 w1.heap.size w2.heap.size (some ⟨gT, 0, none⟩) (ints T) from hrT)
  have hbs2 := hb12.size
  have hz12 := hb2.size
  have hwl : w.heap.size < w1.heap.size := by have := (own_lt hoA).2; omega
  have HLT := Lib.hid hlT
  clear hT hoT hrT hoA HTAB hlT
  go_wp2_with fail
  go_loopw [14, 3] (fun v t wr => ∃ (town : Int) (L : List T3) (A2 : Option Addr) (cap2 : Nat), t = .int .i64 town ∧ v = .slice A2 L.length cap2 ∧ 0 ≤ town ∧ town < n ∧ 0 ≤ tg T town ∧ Hid (wayB T f ch net tt = L.reverse ++ wayB T f ch net town) ∧ wr.ownsRow w.heap.size 33 3 (.slice A2 L.length cap2) L.length (flat3 L) ∧ Below w2.heap.size w2 wr) (fun _ t _ => (tg T (intOf t)).toNat)
  case atStart => exact ⟨tt, [], some ⟨w.heap.size, 0, none⟩, 0, rfl, rfl, htt.1, htt.2, htg, by simp [Hid], hoA2, Below.refl _ _⟩
  case round =>
    obtain ⟨town, L, A2, cap2, rfl, rfl, ht0, ht1, htw, HW, hown, hb⟩ := hrel
    clear hoA2
    have hbs := hb.size
    have hbw := hb12.trans (hb.mono hbs2)
    have hL8 : L.length ≤ 10001 := by
      have h1 := hlenT.out
      rw [HW.out, List.length_append, List.length_reverse] at h1
      omega
    by_cases hne : town = f
    · have hfin := Lib.hid (show wayV n net f tt t0 ch = L by
        rw [HWAY.out, ← HT.out, HW.out, hne, wayB_start, List.append_nil, List.reverse_reverse])
      have hd : (town != f) = false := by simp [hne]
      have HO := Lib.hid hown
      clear hne hown
      go_wp2_with fail
      go_ret2
      exact ⟨A2, cap2, by rw [hfin.out, HYES.out]; rfl, by rw [hfin.out]; exact HO.out, hbw⟩
    · have hd : (town != f) = true := by simp [hne]
      obtain ⟨ci, ii, ki, l, a, b, hlast, hci, hik, hia, hkb, hb1', hb2', hrd⟩ := last_ex HOK.out HTAB2.out ht0 ht1 htw hne
      obtain ⟨u1, u2, u3, u4, u5⟩ := way_step HOK.out HTAB2.out hci hik hia hkb hb2' hrd
      have HNX := Lib.hid (show wayB T f ch net tt = (((ci : Int), (ii : Int), (ki : Int)) :: L).reverse ++ wayB T f ch net a.1 by
        rw [HW.out, wayB_cons HOK.out HTAB2.out ht0 ht1 htw hne hlast (by rw [u1]; exact u2) (by rw [u1]; exact u3) (by rw [u1]; exact u4) (by rw [u1]; exact u5), u1, List.reverse_cons, List.append_assoc]; rfl)
      have HLAST := Lib.hid hlast
      have hcl := (List.getElem?_eq_some_iff.1 hci).1
      have hil := (List.getElem?_eq_some_iff.1 hia).1
      have HCI := Lib.hid hci
      have HIA := Lib.hid hia
      have HSV := Lib.hid (netB_mem HNET.out (List.mem_of_getElem? hci))
      have hl8 := (stopsB_n HSV.out).2.2.2
      clear hne hlast hci hia hkb hb1' hb2' hrd u1
      have hhw : hi ≤ wr.heap.size := Nat.le_trans hh hbw.size
      have hL7 := Lib.hid (l7Last_any n A c hi net gT 0 cT _ _ T f town ch wr HNET.out HTAB2.out.1 hn2 hch0 hch1 ht0 ht1 (hr.below hbw hh) hhw (HOT.out.below hb (Nat.le_refl _)) hbs)
      go_wp2_with fail
      ((with_reducible refine hL7.out.mono ?_); rintro e w5 ⟨rfl, hb5⟩)
      clear hL7
      have hgd : (lastR T f ch net town).getD (0, 0, 0) = ((ci : Int), (ii : Int), (ki : Int)) := by rw [HLAST.out]; rfl
      rw [hgd]
      have hb15 := hbw.trans (hb5.mono (by omega))
      have hb25 := hb.trans (hb5.mono hbs)
      have hbs5 := hb5.size
      have hown5 := own_below hown hb5
      obtain ⟨bn, on, B, cc, rfl, _, hbh, q0, hcc, hrk⟩ := (hr.below hb15 hh) ci hcl
      have hnl : net[ci] = l := by have := HCI.out; rw [List.getElem?_eq_getElem hcl] at this; injection this
      rw [hnl] at q0 hcc hrk
      obtain ⟨bl, ol, rfl, _, hbl, d0, _, _⟩ := hrk.at3 ii hil
      have hla : l[ii] = a := by have := HIA.out; rw [List.getElem?_eq_getElem hil] at this; injection this
      rw [hla] at d0
      clear hgd hown hb hbw hnl hla hrk hb5
      simp only
      obtain ⟨W, hW⟩ : ∃ W, W = (w5.alloc (.cells #[.int .i64 (ci : Int), .int .i64 (ii : Int), .int .i64 (ki : Int)] 33)).alloc (.cells #[.int .i64 (ci : Int), .int .i64 (ii : Int), .int .i64 (ki : Int)] 33) := ⟨_, rfl⟩
      have hlitO : W.ownsRow w.heap.size 33 3 (.slice (some ⟨w5.heap.size + 1, 0, none⟩) 1 1) [((ci : Int), (ii : Int), (ki : Int))].length (flat3 [((ci : Int), (ii : Int), (ki : Int))]) := by
        have h := World.ownsRow_lit (base := w.heap.size) (e := 33) (size := 3) (w5.alloc (.cells #[.int .i64 (ci : Int), .int .i64 (ii : Int), .int .i64 (ki : Int)] 33)) #[.int .i64 (ci : Int), .int .i64 (ii : Int), .int .i64 (ki : Int)] 1 (by simp; omega) (by unfold maxLen; omega) (by simp)
        rw [hW]
        simpa [flat3] using h
      have hbW : Below w5.heap.size w5 W := by rw [hW]; (repeat (first | exact Below.refl _ _ | assumption | apply below_alloc | apply below_drewN | apply Below.drew | refine Below.setCell ?_ (by simp; try omega) _))
      have hWs : W.heap.size = w5.heap.size + 2 := by rw [hW]; simp
      have e0 : W.cell? ⟨w5.heap.size, 0, none⟩ = some (.int .i64 (ci : Int)) := by rw [hW]; simp [go_sem]
      have e1 : W.cell? ⟨w5.heap.size, 1, none⟩ = some (.int .i64 (ii : Int)) := by rw [hW]; simp [go_sem]
      have hrL := (Rd.of_own hown5).below hbW (Nat.le_refl _)
      have HLIT := Lib.hid hlitO
      have HRL := Lib.hid hrL
      have HBW := Lib.hid (show w.heap.size ≤ W.heap.size by omega)
      clear hlitO hrL
      rw [hW] at HLIT HRL HBW
      go_wp2_with (at_builtin; go_must (refine wpList_appendA3 rfl _ _ 24 rfl w.heap.size 33 i0 _ Try.underlying24 hi0 hz0 hz1 hz2 rfl (.slice (some ⟨w5.heap.size + 1, 0, none⟩) 1 1) [((ci : Int), (ii : Int), (ki : Int))] rfl HLIT.out A2 L cap2 _ _ HRL.out rfl (by simp) (by omega) HBW.out ?_); intro A6 cap6 w6 hown6 hg6 hor6)
      rw [← hW] at hg6
      have hg6b : W.grownBy w6 (some (w5.heap.size + 1)) := hg6
      have k0 := (cell_grown (o := 0) hg6b (show w5.heap.size < _ by omega) (by omega)).trans e0
      have k1 := (cell_grown (o := 1) hg6b (show w5.heap.size < _ by omega) (by omega)).trans e1
      have q06 := (cell_grown (o := on + ci) hg6b (show bn < _ by omega) (by omega)).trans ((hbW.cell (p := ⟨bn, on + ci, none⟩) (show bn < _ by omega)).trans q0)
      have d06 := (cell_grown (o := ol + ii * 3) hg6b (show bl < _ by omega) (by omega)).trans ((hbW.cell (p := ⟨bl, ol + ii * 3, none⟩) (show bl < _ by omega)).trans d0)
      have hz6 := hg6b.size
      have hbW2 := hb25.trans (hbW.mono (Nat.le_trans hbs hbs5))
      have hb6 := Lib.hid (hbW2.grown hg6b hbW2.size (fun k hk => by injection hk with hk; omega))
      have HO6 := Lib.hid (show w6.ownsRow w.heap.size 33 3 (.slice A6 (((ci : Int), (ii : Int), (ki : Int)) :: L).length cap6) (((ci : Int), (ii : Int), (ki : Int)) :: L).length (flat3 (((ci : Int), (ii : Int), (ki : Int)) :: L)) from hown6)
      have HLR := Lib.hid (show ([((ci : Int), (ii : Int), (ki : Int))] ++ L).length = (((ci : Int), (ii : Int), (ki : Int)) :: L).length from rfl)
      have HU := Lib.hid u4
      have hcl' : (ci : Int) < (net.length : Int) := by omega
      have hil' : (ii : Int) < (l.length : Int) := by omega
      have hsz6 : w5.heap.size < w6.heap.size := by omega
      have hbn6 : bn < w6.heap.size := by omega
      have hbl6 : bl < w6.heap.size := by omega
      clear hg6 hg6b hor6 hW hbW hWs e0 e1 hbW2 hown6 hown5 q0 d0 HLIT HRL HBW
      go_wp2_with fail
      go_quiet (fail)
      go_wp2_with fail
      go_roundw
      case rel => exact ⟨a.1, ((ci : Int), (ii : Int), (ki : Int)) :: L, A6, cap6, rfl, by rw [← HLR.out]; simp, u2, u3, u4, HNX, HO6.out, below_drewN hb6.out _⟩
      case measure => simp [intOf]; omega

end Go.Proofs.Ytdiichfdffhdaaa

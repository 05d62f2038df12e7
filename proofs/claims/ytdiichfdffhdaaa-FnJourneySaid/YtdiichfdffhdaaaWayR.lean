/-
  Contracts of PostWay, the program's and the reference's.
-/
import Derived.Test.YtdiichfdffhdaaaWayI
import Derived.Test.YtdiichfdffhdaaaReverse
import Derived.Test.YtdiichfdffhdaaaPostR
import Derived.Test.YtdiichfdffhdaaaStep
namespace Go.Proofs.Ytdiichfdffhdaaa
open Go.RowKit

theorem infoRideW : (Try.prog.info? 33).map (fun i => (i.zero, i.size, i.bytes)) = some (some (.agg #[.int .i64 0, .int .i64 0, .int .i64 0]), 3, 24) := by kernel_rfl
def RetWB (E : TypeId) (l : List T3) (b : Bool) (w : World) (e : Ending) (w' : World) : Prop :=
  ∃ A c, e = .returned (.tuple #[.slice A l.length c, .bool b]) ∧ w'.ownsRow w.heap.size E 3 (.slice A l.length c) l.length (flat3 l) ∧ Below w.heap.size w w'
theorem retWB_no {E : TypeId} {l : List T3} {b : Bool} {w w1 : World} {n : Nat} (h : b = false) (hl : l = []) (hb : Below w.heap.size w w1) (hn : w1.heap.size = n) :
    RetWB E l b w (.returned (.tuple #[.slice (some ⟨n, 0, none⟩) 0 0, .bool false])) (w1.alloc (.cells #[] E)) := by
  subst hn h hl
  exact ⟨_, _, rfl, own_lit0 w1 _ E 3 hb.size, below_alloc hb _⟩
theorem postArr_way (n : Int) (net : Net) (f tt t0 ch : Int) : (postArr n net f tt t0 ch < 0 ∧ wayOk n net f tt t0 ch = false ∧ wayV n net f tt t0 ch = []) ∨ (¬ postArr n net f tt t0 ch < 0 ∧ wayOk n net f tt t0 ch = true ∧ postOk n net f t0 ch = true ∧ (0 ≤ tt ∧ tt < n) ∧ 0 ≤ tg (tableL n net f t0 ch) tt ∧ wayV n net f tt t0 ch = (wayB (tableL n net f t0 ch) f ch net tt).reverse) := by
  rcases way_case n net f tt t0 ch with ⟨h1, h2⟩ | ⟨h1, h2, h3, h4, h5⟩
  · refine .inl ⟨?_, h1, h2⟩
    unfold wayOk at h1
    unfold postArr
    by_cases hc : (postOk n net f t0 ch && inB tt 0 (n - 1)) = true
    · rw [if_pos hc]
      rw [hc, Bool.true_and] at h1
      have := of_decide_eq_false h1
      omega
    · rw [if_neg hc]; omega
  · refine .inr ⟨?_, h1, h2, h3, h4, h5⟩
    have hto : inB tt 0 (n - 1) = true := inB_true (by omega)
    unfold postArr
    rw [h2, hto, if_pos (by rfl)]; omega

set_option maxRecDepth 100000 in
set_option maxHeartbeats 8000000 in
theorem iPostWay_any (n : Int) (A : Option Addr) (c hi : Nat) (net : Net) (f tt t0 ch : Int) (w : World) (hl : netSize net ≤ 1048576) (hr : RdN w 0 hi A net) (hh : hi ≤ w.heap.size) :
    Calls Try.prog 19 #[.int .i64 n, .slice A net.length c, .int .i64 f, .int .i64 tt, .int .i64 t0, .int .i64 ch] w (RetWB 33 (wayV n net f tt t0 ch) (wayOk n net f tt t0 ch) w) := by
  obtain ⟨i0, hi0, hz0, hz1, hz2⟩ := info_parts infoRideW
  go_enter Try.func19, Try.ntmps19
  go_wp2_with fail
  refine (iPostArrive_any n _ _ _ net f tt t0 ch _ hl hr hh).mono ?_
  rintro e w1 ⟨rfl, hb1⟩
  rcases postArr_way n net f tt t0 ch with ⟨hneg, hno, hnil⟩ | ⟨hpos, hyes, hok, htt, htg, hway⟩
  · generalize postArr n net f tt t0 ch = y at *
    have HNO := Lib.hid hno
    have HNIL := Lib.hid hnil
    clear hno hnil
    go_wp2_with fail
    go_ret2
    exact retWB_no HNO.out HNIL.out hb1 rfl
  generalize postArr n net f tt t0 ch = y at *
  obtain ⟨hnet, hf, ht, hch, hn⟩ := postOk_and hok
  obtain ⟨hn1, hn2⟩ := hn
  obtain ⟨hch0, hch1⟩ := hch
  have HOK := Lib.hid hok
  have HNET := Lib.hid hnet
  have HYES := Lib.hid hyes
  have HWAY := Lib.hid hway
  have HTAB := Lib.hid (tableL_is hok)
  have hln := (netB_and hnet).2.1
  have HLEN := Lib.hid (wayB_len hok htt)
  clear hok hnet hyes hway
  go_wp2_with fail
  refine (newPostTable_any n _ _ _ net f t0 ch _ hl (hr.below hb1 hh) (Nat.le_trans hh hb1.size)).mono ?_
  rintro e w2 ⟨hb2, ⟨_, P, g, cap, rfl, hp, hg, hP⟩ | ⟨hno, _⟩⟩
  case inr => exact absurd (HOK.out.symm.trans hno) (by simp)
  have hb12 := hb1.trans (hb2.mono hb1.size)
  have hbs1 := hb1.size
  go_wp2_with fail
  refine (spread_all HOK.out _ hp).mono ?_
  rintro e w3 ⟨⟨v, rfl⟩, hp3, hg3⟩
  have hb3 := hb12.grown hg3 hb12.size (fun k hk => by injection hk with hk; omega)
  have hbs3 := hb3.size
  have hPl := hp3.lt
  have hgl := hp3.glt
  obtain ⟨T, hT⟩ : ∃ T, T = tableL n net f t0 ch := ⟨_, rfl⟩
  rw [← hT] at hp3 htg
  have HT := Lib.hid hT
  have HTAB2 := Lib.hid (show IsTab n net f t0 ch T by rw [hT]; exact HTAB.out)
  have hbA := below_alloc hb3 (.cells #[] 33)
  have hpA := Lib.hid (hp3.below (below_alloc (Below.refl _ _) (.cells #[] 33)))
  have hoA := own_lit0 w3 w.heap.size 33 3 hbs3
  have hlenT := Lib.hid (show (wayB T f ch net tt).length ≤ 10001 by rw [hT]; exact HLEN.out)
  clear hT hp hp3 hg3 HTAB
  go_wp2_with fail
  go_loopw [15, 16] (fun v t wr => ∃ (town : Int) (L : List T3) (g2 cap2 : Nat), t = .int .i64 town ∧ v = .slice (some ⟨g2, 0, none⟩) L.length cap2 ∧ 0 ≤ town ∧ town < n ∧ 0 ≤ tg T town ∧ Hid (wayB T f ch net tt = L ++ wayB T f ch net town) ∧ wr.ownsRow w.heap.size 33 3 (.slice (some ⟨g2, 0, none⟩) L.length cap2) L.length (flat3 L) ∧ Hid (PTw wr P g cap hi A c net n f ch T) ∧ g2 ≠ g ∧ g2 ≠ P ∧ Below w.heap.size w wr) (fun _ t _ => (tg T (intOf t)).toNat)
  case atStart => exact ⟨tt, [], w3.heap.size, 0, rfl, rfl, htt.1, htt.2, htg, by simp [Hid], hoA, hpA, by omega, by omega, hbA⟩
  case round =>
    obtain ⟨town, L, g2, cap2, rfl, rfl, ht0, ht1, htw, HW, hown, HP, hgg, hgP, hb⟩ := hrel
    clear hoA hpA hbA
    have hbs := hb.size
    have hPr := HP.out.lt
    have hgr := HP.out.glt
    have hL8 : L.length ≤ 10001 := by
      have h1 := hlenT.out
      rw [HW.out, List.length_append] at h1
      omega
    by_cases hne : town = f
    · have hfin := Lib.hid (show wayV n net f tt t0 ch = L.reverse by
        rw [HWAY.out, ← HT.out, HW.out, hne, wayB_start, List.append_nil])
      have hd : (town != f) = false := by simp [hne]
      clear hne
      go_wp2_with fail
      refine (reverse_any g2 cap2 _ L _ (by omega) hown).mono ?_
      rintro e w5 ⟨⟨v5, rfl⟩, ho5, hg5⟩
      have hb5 := hb.grown hg5 hbs (fun k hk => by injection hk with hk; have := (own_lt hown).1; omega)
      have HO5 := Lib.hid ho5
      clear ho5 hown
      go_wp2_with fail
      go_ret2
      refine ⟨some ⟨g2, 0, none⟩, cap2, ?_, ?_, hb5⟩
      · rw [hfin.out, List.length_reverse, HYES.out]; rfl
      · rw [hfin.out, List.length_reverse]; exact HO5.out
    · have hd : (town != f) = true := by simp [hne]
      obtain ⟨ci, ii, ki, l, a, b, hlast, hci, hik, hia, hkb, hb1', hb2', hrd⟩ := last_ex HOK.out HTAB2.out ht0 ht1 htw hne
      obtain ⟨u1, u2, u3, u4, u5⟩ := way_step HOK.out HTAB2.out hci hik hia hkb hb2' hrd
      have HNX := Lib.hid (show wayB T f ch net tt = (L ++ [((ci : Int), (ii : Int), (ki : Int))]) ++ wayB T f ch net a.1 by
        rw [HW.out, wayB_cons HOK.out HTAB2.out ht0 ht1 htw hne hlast (by rw [u1]; exact u2) (by rw [u1]; exact u3) (by rw [u1]; exact u4) (by rw [u1]; exact u5), u1, List.append_assoc]; rfl)
      have HLAST := Lib.hid hlast
      have hcl := (List.getElem?_eq_some_iff.1 hci).1
      have hil := (List.getElem?_eq_some_iff.1 hia).1
      have HCI := Lib.hid hci
      have HIA := Lib.hid hia
      have HSV := Lib.hid (netB_mem HNET.out (List.mem_of_getElem? hci))
      have hl8 := (stopsB_n HSV.out).2.2.2
      clear hne hlast hci hia hkb hb1' hb2' hrd u1
      go_wp2_with fail
      refine (lastRide_any HP.out town HNET.out hn2 hch0 hch1 ht0 ht1).mono ?_
      rintro e w5 ⟨hb5, ⟨r, hr5, rfl⟩ | ⟨hr5, _⟩⟩
      case inr => exact absurd (HLAST.out.symm.trans hr5) (by simp)
      obtain rfl : r = ((ci : Int), (ii : Int), (ki : Int)) := by
        have := HLAST.out.symm.trans hr5
        injection this with this; exact this.symm
      have hb15 := hb.trans (hb5.mono hbs)
      have hbs5 := hb5.size
      have hown5 := own_below hown hb5
      have HP5 := Lib.hid (HP.out.below hb5)
      obtain ⟨bn, on, B, cc, rfl, _, hbh, q0, hcc, hrk⟩ := (hr.below hb15 hh) ci hcl
      have hnl : net[ci] = l := by have := HCI.out; rw [List.getElem?_eq_getElem hcl] at this; injection this
      rw [hnl] at q0 hcc hrk
      obtain ⟨bl, ol, rfl, _, hbl, d0, _, _⟩ := hrk.at3 ii hil
      have hla : l[ii] = a := by have := HIA.out; rw [List.getElem?_eq_getElem hil] at this; injection this
      rw [hla] at d0
      clear hr5 hown hb hnl hla hrk hb5 HP
      simp only
      have hbA5 := (below_alloc hb15 (.cells #[.int .i64 (ci : Int), .int .i64 (ii : Int), .int .i64 (ki : Int)] 33))
      go_wp2_with (at_builtin; go_must (refine wpList_append3 rfl _ _ 24 rfl w.heap.size 33 i0 _ Try.underlying24 hi0 hz0 hz1 hz2 rfl (.slice (some ⟨g2, 0, none⟩) L.length cap2) L rfl ((hown5.alloc _).alloc _) (w5.heap.size + 1) _ _ _ (nb2 _ _ _) rfl (by omega) (ls2 (Nat.le_trans hbs hbs5) _ _) ?_); intro g4 cap4 w6 hown6 hg6 hor6 hlt6)
      have hg6' : _ := hg6
      have hg2l := own_lt hown5
      obtain ⟨W, hW⟩ : ∃ W, W = (w5.alloc (.cells #[.int .i64 (ci : Int), .int .i64 (ii : Int), .int .i64 (ki : Int)] 33)).alloc (.cells #[.int .i64 (ci : Int), .int .i64 (ii : Int), .int .i64 (ki : Int)] 33) := ⟨_, rfl⟩
      have hbW : Below w5.heap.size w5 W := by rw [hW]; (repeat (first | exact Below.refl _ _ | assumption | apply below_alloc | apply below_drewN | apply Below.drew | refine Below.setCell ?_ (by simp; try omega) _))
      have hWs : W.heap.size = w5.heap.size + 2 := by rw [hW]; simp
      have e0 : W.cell? ⟨w5.heap.size, 0, none⟩ = some (.int .i64 (ci : Int)) := by rw [hW]; simp [go_sem]
      have e1 : W.cell? ⟨w5.heap.size, 1, none⟩ = some (.int .i64 (ii : Int)) := by rw [hW]; simp [go_sem]
      rw [← hW] at hg6 hor6
      have hg6b : W.grownBy w6 (some g2) := hg6
      have k0 := (cell_grown (o := 0) hg6b (show w5.heap.size < _ by omega) (by omega)).trans e0
      have k1 := (cell_grown (o := 1) hg6b (show w5.heap.size < _ by omega) (by omega)).trans e1
      have q06 := (cell_grown (o := on + ci) hg6b (show bn < _ by omega) (by omega)).trans ((hbW.cell (p := ⟨bn, on + ci, none⟩) (show bn < _ by omega)).trans q0)
      have d06 := (cell_grown (o := ol + ii * 3) hg6b (show bl < _ by omega) (by omega)).trans ((hbW.cell (p := ⟨bl, ol + ii * 3, none⟩) (show bl < _ by omega)).trans d0)
      have hz6 := hg6b.size
      have hbW2 := hb15.trans (hbW.mono (Nat.le_trans hbs hbs5))
      have hb6 := Lib.hid (hbW2.grown hg6b hbW2.size (fun k hk => by injection hk with hk; omega))
      have HP6 := Lib.hid ((HP5.out.below hbW).other hg6b (by omega) (by omega) (by omega))
      have hg4 : g4 ≠ g ∧ g4 ≠ P := by
        rcases hor6 with h | h
        · simp only [Value.ownBlock, Option.some.injEq] at h; omega
        · omega
      obtain ⟨hg4g, hg4P⟩ := hg4
      have hlr : L.length + 1 = (L ++ [((ci : Int), (ii : Int), (ki : Int))]).length := by simp
      rw [hlr] at hown6
      have HO6 := Lib.hid hown6
      have HLR := Lib.hid hlr
      have HU := Lib.hid u4
      have hcl' : (ci : Int) < (net.length : Int) := by omega
      have hil' : (ii : Int) < (l.length : Int) := by omega
      have hsz6 : w5.heap.size < w6.heap.size := by omega
      have hbn6 : bn < w6.heap.size := by omega
      have hbl6 : bl < w6.heap.size := by omega
      clear hg6 hg6' hg6b hor6 hW hbW hWs e0 e1 hbW2 hown6 hown5 hlr q0 d0 hbA5
      go_wp2_with fail
      go_quiet (fail)
      go_wp2_with fail
      go_roundw
      case rel => exact ⟨a.1, L ++ [((ci : Int), (ii : Int), (ki : Int))], g4, cap4, rfl, by rw [← HLR.out], u2, u3, u4, HNX, HO6.out, HP6.out.drewN' _, hg4g, hg4P, below_drewN hb6.out _⟩
      case measure => simp [intOf]; omega

end Go.Proofs.Ytdiichfdffhdaaa

/-
  Contracts of the program's step and PostFewest.
-/
import Derived.Test.YtdiichfdffhdaaaStep
import Derived.Deep.RegionHeld3
import Derived.Deep.DeepCutAuto
namespace Go.Proofs.Ytdiichfdffhdaaa
open Go.RowKit

def RetStepT (hi : Nat) (A : Option Addr) (c : Nat) (net : Net) (n f ch : Int) (T2 : List Int) (w : World) (e : Ending) (w' : World) : Prop :=
  Below w.heap.size w w' ∧ ∃ P2 g2 cap2, e = .returned (.pointer (some ⟨P2, 0, none⟩)) ∧ PTw w' P2 g2 cap2 hi A c net n f ch T2
theorem own_rebase {w : World} {base size n g cap : Nat} {e : TypeId} {xs : List Value} (h : w.ownsRow base e size (.slice (some ⟨g, 0, none⟩) n cap) n xs) : w.ownsRow g e size (.slice (some ⟨g, 0, none⟩) n cap) n xs := by
  refine ⟨h.1, ?_⟩
  rcases h.2 with ⟨h1, _⟩ | ⟨g', cap', cur, h1, h2, h3⟩
  · cases h1
  · injection h1 with e1 _ e3
    injection e1 with e1; injection e1 with e1
    subst e1 e3
    exact .inr ⟨g, cap, cur, rfl, Nat.le_refl _, h3⟩
theorem ptw_mk {w w2 V : World} {base P2 g2 cap2 hi m : Nat} {A : Option Addr} {c : Nat} {net : Net} {f ch : Int} {T : List Int} {row : Option Nat} (hT : T.length = m) (ho2 : w2.ownsRow base 3 1 (.slice (some ⟨g2, 0, none⟩) T.length cap2) T.length (ints T)) (hg : w2.grownBy V row) (hne : row ≠ some g2) (hrd : RdN w 0 hi A net) (hh : hi ≤ w.heap.size) (hb : Below w.heap.size w V) (hhg : hi ≤ g2)
    (lt : P2 < V.heap.size) (hP : P2 ≠ g2) (ok : TabOk m T) (c0 : V.cell? ⟨P2, 0, none⟩ = some (.slice A net.length c)) (c1 : V.cell? ⟨P2, 1, none⟩ = some (.int .i64 f)) (c2 : V.cell? ⟨P2, 2, none⟩ = some (.int .i64 ch)) (c3 : V.cell? ⟨P2, 3, none⟩ = some (.slice (some ⟨g2, 0, none⟩) T.length cap2)) : PTw V P2 g2 cap2 hi A c net m f ch T := by
  subst hT
  exact ⟨lt, c0, c1, c2, by simpa using c3, by simpa using (own_rebase ho2).kept hg (.inr (fun e => hne (by rw [← e]; rfl))), hrd.below hb hh, hhg, hP, ok⟩

set_option maxRecDepth 100000 in
set_option maxHeartbeats 4000000 in
theorem step_any {P g cap hi : Nat} {A : Option Addr} {c : Nat} {net : Net} {n f ch t0 : Int} {k : Nat} {T : List Int} (hok : postOk n net f t0 ch = true) (hT : IsTabK n net f t0 ch k T) (w : World) (hp : PTw w P g cap hi A c net n f ch T) :
    Calls Try.prog 63 #[.pointer (some ⟨P, 0, none⟩)] w (RetStepT hi A c net n f ch (stepL f ch net T) w) := by
  obtain ⟨hnet, hf, ht, hch, hn1, hn2⟩ := postOk_and hok
  obtain ⟨m, rfl⟩ : ∃ m : Nat, n = (m : Int) := ⟨n.toNat, by omega⟩
  have hlT : T.length = m := by have := hp.ok.1; simpa using this
  have c0 := hp.c0
  have c1 := hp.c1
  have c2 := hp.c2
  have c3 : w.cell? ⟨P, 3, none⟩ = some (.slice (some ⟨g, 0, none⟩) m cap) := by simpa using hp.c3
  have hPl := hp.lt
  have hgl := hp.glt
  have hhg := hp.hg
  have hrd := Lib.hid (show Rd w g w.heap.size (some ⟨g, 0, none⟩) (ints T) from Rd.of_own hp.own)
  have HP := Lib.hid hp
  have HOK := Lib.hid hok
  have HT := Lib.hid hT
  have HNET := Lib.hid hnet
  have HLT := Lib.hid hlT
  have hclone := Lib.hid (show ∀ W : World, Below w.heap.size w W → Calls Try.prog 89 #[.slice (some ⟨g, 0, none⟩) m cap] W (RetClone T W) from fun W hW => by
    rw [← hlT]; exact cloneI_any g 0 cap _ _ T W (by omega) (by omega) ((Rd.of_own hp.own).below hW (Nat.le_refl _)) hW.size)
  clear hp hok hT hnet hlT
  go_enter Try.func63, Try.ntmps63
  go_upto_region 1 with fail
  go_cut [3] (fun s3 wx => ∃ BX P2 g2 cap2 : Nat, s3 = .pointer (some ⟨BX, 0, none⟩) ∧ Below w.heap.size w wx ∧ wx.cell? ⟨BX, 0, none⟩ = some (.pointer (some ⟨P2, 0, none⟩)) ∧ BX < wx.heap.size ∧ BX ≠ g2 ∧ Hid (PTw wx P2 g2 cap2 hi A c net m f ch T) ∧ w.heap.size ≤ g2)
  case first =>
    go_region_held3 (fun w' => w'.cell? ⟨P, 0, none⟩ = some (.slice A net.length c) ∧ w'.cell? ⟨P, 1, none⟩ = some (.int .i64 f) ∧ w'.cell? ⟨P, 2, none⟩ = some (.int .i64 ch) ∧ w'.cell? ⟨P, 3, none⟩ = some (.slice (some ⟨g, 0, none⟩) m cap)) (simp (maxDischargeDepth := 8) [*, World.cell?_alloc_some, World.cell?_setCell_far])
      (first
        | (go_at_call 89; refine (hclone.out w.drew (Below.refl _ _).drew).mono ?_; rintro e w2 ⟨g2, cap2, rfl, ho2', hb2'⟩; have hb2 := below_of_drew hb2'; have ho2 := Lib.hid ho2'; have hz2 := hb2.size; have hPw2 : P < w2.heap.size := Nat.lt_of_lt_of_le hPl hz2; have hcb : ∀ b o, b < w.heap.size → w2.cell? ⟨b, o, none⟩ = w.cell? ⟨b, o, none⟩ := cell_below hb2; clear ho2')
        | (go_at_call 89; refine (hclone.out _ (below_alloc (Below.refl _ _) _).drew).mono ?_; rintro e w2 ⟨g2, cap2, rfl, ho2', hb2'⟩; have hb2a := below_of_drew hb2'; have ho2 := Lib.hid ho2'; have hz2a := hb2a.size; have hb2 := (below_alloc (Below.refl w.heap.size w) (.cells #[.pointer none] 67)).trans (hb2a.mono (by simp)); have hz2 := hb2.size; have hPw2 : P < w2.heap.size := Nat.lt_of_lt_of_le hPl hz2; have hcb : ∀ b o, b < w.heap.size → w2.cell? ⟨b, o, none⟩ = w.cell? ⟨b, o, none⟩ := cell_below hb2; have hzB : w.heap.size < w2.heap.size := Nat.lt_of_lt_of_le (by simp) hz2a; have hBc := (hb2a.cell (p := ⟨w.heap.size, 0, none⟩) (by simp)).trans (by simp [go_sem] : (w.alloc (.cells #[.pointer none] 67)).cell? ⟨w.heap.size, 0, none⟩ = some (.pointer none)); have hBf := (hb2a.frozen (p := ⟨w.heap.size, 0, none⟩) (by simp)).trans (by simp [go_sem] : (w.alloc (.cells #[.pointer none] 67)).frozen? ⟨w.heap.size, 0, none⟩ = false); have hsc : ∀ u o, (w2.setCell ⟨w.heap.size, 0, none⟩ u).cell? ⟨P, o, none⟩ = w2.cell? ⟨P, o, none⟩ := (fun u o => World.cell?_setCell_other _ _ _ _ (fun e => by injection e with e1; omega)); clear ho2'))
    · go_wp2_with fail
      go_meet
      have hlt2 := own_lt ho2.out
      have hg2' : w.heap.size ≤ g2 := hlt2.1
      have hb3 : Below w2.heap.size w2 ((w2.alloc (.cells #[.slice A net.length c, .int .i64 f, .int .i64 ch, .slice (some ⟨g2, 0, none⟩) T.length cap2] 78)).alloc (.cells #[.pointer (some ⟨w2.heap.size, 0, none⟩)] 67)) := by (repeat (first | exact Below.refl _ _ | assumption | apply below_alloc | apply below_drewN | apply Below.drew | refine Below.setCell ?_ (by simp; try omega) _))
      have hb4 := hb2.trans (hb3.mono hz2)
      exact ⟨w2.heap.size + 1, w2.heap.size, g2, cap2, rfl, hb4, by simp [go_sem], by simp, by omega, ptw_mk HLT.out ho2.out (grown_of_below hb3 none) (by simp) HP.out.rd (by omega) hb4 (by omega) (by simp; omega) (by omega) HP.out.ok (by simp [go_sem]) (by simp [go_sem]) (by simp [go_sem]) (by simp [go_sem]), hg2'⟩
    · go_wp2_with fail
      go_meet
      have hlt2 := own_lt ho2.out
      have hg2' : w.heap.size ≤ g2 := hlt2.1
      have hb3 : Below w2.heap.size w2 ((w2.alloc (.cells #[.pointer (some ⟨w2.heap.size + 1, 0, none⟩)] 67)).alloc (.cells #[.slice A net.length c, .int .i64 f, .int .i64 ch, .slice (some ⟨g2, 0, none⟩) T.length cap2] 78)) := by (repeat (first | exact Below.refl _ _ | assumption | apply below_alloc | apply below_drewN | apply Below.drew | refine Below.setCell ?_ (by simp; try omega) _))
      have hb4 := hb2.trans (hb3.mono hz2)
      exact ⟨w2.heap.size, w2.heap.size + 1, g2, cap2, rfl, hb4, by simp [go_sem], by simp; omega, by omega, ptw_mk HLT.out ho2.out (grown_of_below hb3 none) (by simp) HP.out.rd (by omega) hb4 (by omega) (by simp) (by omega) HP.out.ok (by simp [go_sem]) (by simp [go_sem]) (by simp [go_sem]) (by simp [go_sem]), hg2'⟩
    · go_wp2_with fail
      go_meet
      have hlt2 := own_lt ho2.out
      have hg2' : w.heap.size + 1 ≤ g2 := by have := hlt2.1; simpa using this
      have hgr : w2.grownBy ((w2.setCell ⟨w.heap.size, 0, none⟩ (.pointer (some ⟨w2.heap.size, 0, none⟩))).alloc (.cells #[.slice A net.length c, .int .i64 f, .int .i64 ch, .slice (some ⟨g2, 0, none⟩) T.length cap2] 78)) (some w.heap.size) := (gr_setAny _ _ _ _).trans (grown_of_below (below_alloc (Below.refl _ _) _) _)
      have hb4 : Below w.heap.size w ((w2.setCell ⟨w.heap.size, 0, none⟩ (.pointer (some ⟨w2.heap.size, 0, none⟩))).alloc (.cells #[.slice A net.length c, .int .i64 f, .int .i64 ch, .slice (some ⟨g2, 0, none⟩) T.length cap2] 78)) := hb2.grown hgr hz2 (fun k hk => by injection hk with hk; omega)
      exact ⟨w.heap.size, w2.heap.size, g2, cap2, rfl, hb4, by rw [cell_alloc1 _ (show w.heap.size < _ by simp; omega)]; exact World.cell?_setCell_same _ _ _ hBc, by simp; omega, by omega, ptw_mk HLT.out ho2.out hgr (by simp; omega) HP.out.rd (by omega) hb4 (by omega) (by simp) (by omega) HP.out.ok (by simp [go_sem]) (by simp [go_sem]) (by simp [go_sem]) (by simp [go_sem]), by omega⟩
  case rest =>
    obtain ⟨BX, P2, g2, cap2, rfl, hbx, cbx, hBX, hBg, HP2, hg2⟩ := hcut
    have HPx := Lib.hid (HP.out.below hbx)
    have c3x := HPx.out.c3
    have hPx := HPx.out.lt
    have hgx := HPx.out.glt
    have hg2x := HP2.out.glt
    have hb0 := Lib.hid hbx
    have c3y : wc.cell? ⟨P, 3, none⟩ = some (.slice (some ⟨g, 0, none⟩) m cap) := by simpa using c3x
    have hJ0 := Lib.hid (show StepJ P g cap P2 g2 cap2 hi A c net m f ch t0 k T (0 : Nat) BX (fun _ _ => False) wc from
      ⟨HPx.out, T, HP2.out, ⟨fun _ => Int.le_refl _, fun v h0 h1 hv => .inl (by have := (HT.out.2 v h0 h1).2.1 (by rw [keyF_nn hv]; have := (HT.out.1.tg h0 h1).2; omega); rwa [keyF_nn hv] at this), fun a b hh ha => by have := (hop_ok HNET.out hh).1; omega, fun _ _ h => h.elim⟩, cbx, hBX⟩)
    clear hclone c0 c1 c2 c3 c3x hrd hbx cbx
    go_wp2_with fail
    go_loopw [29] (fun i wr => ∃ town : Nat, town ≤ m ∧ i = .int .i64 town ∧ Hid (StepJ P g cap P2 g2 cap2 hi A c net m f ch t0 k T town BX (fun _ _ => False) wr) ∧ wc.grownBy wr (some g2)) (fun i _ => m - (intOf i).toNat)
    case atStart => exact ⟨0, Nat.zero_le _, rfl, hJ0, grownBy_refl _ _⟩
    case round =>
      obtain ⟨town, htm, rfl, HJ, hgr⟩ := hrel
      clear hJ0
      have hzr := hgr.size
      by_cases hlt : town < m
      · have HR := Lib.hid (fun (w1 : World) (hw1 : w1 = wr) => rides_cstep P g cap hi A c net m f ch g2 BX town (tg T town) (StepJ P g cap P2 g2 cap2 hi A c net m f ch t0 k T town BX) w1 HNET.out hch.1 hch.2 (by omega) (by omega) hn2 (by subst hw1; omega) (by omega)
          (fun done w' h => ⟨T, h.1, rfl⟩)
          (fun done w' w'' h hb => stepJ_below h hb)
          (fun done w' a b h hh ha hr _ => cstep_any HNET.out hch.1 hn2 HT.out hBg (by omega) (by omega) (by omega) done w' a b h hh (by rw [ha]; exact hr))
          (by subst hw1; omega) (by subst hw1; exact HJ.out))
        go_wp2_with fail
        ((with_reducible refine (HR.out _ rfl).mono ?_); rintro e w1 ⟨⟨v, rfl⟩, ⟨done, hJ1, hd⟩, hg1⟩)
        have hnx := Lib.hid (show StepJ P g cap P2 g2 cap2 hi A c net m f ch t0 k T ((town + 1 : Nat) : Int) BX (fun _ _ => False) w1 from by
          obtain ⟨j0, T2, j1, ⟨n1, n2, n3, n4⟩, j3, j4⟩ := hJ1
          refine ⟨j0, T2, j1, ⟨n1, n2, fun a b hh ha hr => ?_, fun _ _ h => h.elim⟩, j3, j4⟩
          by_cases e : a.1 = (town : Int)
          · have hr' := of_decide_eq_true hr
            refine n4 a b (hd a b hh e ?_)
            rw [← e]; exact hr'
          · exact n3 a b hh (by omega) hr)
        clear hJ1 hd
        go_wp2_with fail
        go_roundw
        case rel => exact ⟨town + 1, by omega, by go_num, hnx, hgr.trans hg1⟩
        case measure => simp [intOf]; omega
      · obtain rfl : town = m := by omega
        obtain ⟨j0, T2, j1, ⟨n1, n2, n3, n4⟩, j3, j4⟩ := HJ.out
        have hfin := Lib.hid (show T2 = stepL f ch net T from step_done HOK.out HT.out j1.ok n1 n2 (fun a b hh hr => n3 a b hh (by have := hop_ok HNET.out hh; omega) hr))
        have HJ1 := Lib.hid j1
        have hbw := Lib.hid (show Below w.heap.size w wr from hb0.out.grown hgr hb0.out.size (fun k hk => by injection hk with hk; omega))
        clear j0 j1 n1 n2 n3 n4
        go_wp2_with fail
        go_ret
        exact ⟨hbw.out, P2, g2, cap2, rfl, by rw [← hfin.out]; exact HJ1.out⟩

theorem postArr_case (n : Int) (net : Net) (f tt t0 ch : Int) : (postArr n net f tt t0 ch = -1 ∧ fewV n net f tt t0 ch = -1) ∨ (postOk n net f t0 ch = true ∧ (0 ≤ tt ∧ tt < n) ∧ 0 ≤ tg (tableL n net f t0 ch) tt ∧ postArr n net f tt t0 ch = tg (tableL n net f t0 ch) tt ∧ fewV n net f tt t0 ch = (fewN n net f t0 ch tt n.toNat 0 : Nat)) := by
  cases hok : postOk n net f t0 ch
  · exact .inl ⟨by simp [postArr, hok], by simp [fewV, hok]⟩
  cases hto : inB tt 0 (n - 1)
  · exact .inl ⟨by simp [postArr, hto], by simp [fewV, hto]⟩
  have h := of_inB hto
  have htg := (tableL_is hok).1.tg (v := tt) (by omega) (by omega)
  by_cases hx : 0 ≤ tg (tableL n net f t0 ch) tt
  · exact .inr ⟨rfl, ⟨h.1, by omega⟩, hx, by simp [postArr, hok, hto], by simp [fewV, hok, hto, hx]⟩
  · exact .inl ⟨by simp only [postArr, hok, hto, Bool.and_self, if_true]; omega, by simp [fewV, hx]⟩
set_option maxRecDepth 100000 in
set_option maxHeartbeats 4000000 in
theorem iPostFewest_any (n : Int) (A : Option Addr) (c hi : Nat) (net : Net) (f tt t0 ch : Int) (w : World) (hl : netSize net ≤ 1048576) (hr : RdN w 0 hi A net) (hh : hi ≤ w.heap.size) :
    Calls Try.prog 23 #[.int .i64 n, .slice A net.length c, .int .i64 f, .int .i64 tt, .int .i64 t0, .int .i64 ch] w fun e w' => e = .returned (.int .i64 (fewV n net f tt t0 ch)) ∧ Below w.heap.size w w' := by
  go_enter Try.func23, Try.ntmps23
  go_wp2_with fail
  refine (iPostArrive_any n _ _ _ net f tt t0 ch _ hl hr hh).mono ?_
  rintro e w1 ⟨rfl, hb1⟩
  have hPA := postArr_case n net f tt t0 ch
  rcases hPA with ⟨hpa, hfv⟩ | ⟨hok, hto, hpos, hpa, hfv⟩
  · have hres := Lib.hid hfv
    rw [hpa]
    clear hpa hfv
    go_wp2_with fail
    go_ret
    exact ⟨ret_int hres.out.symm, hb1⟩
  · have hres := Lib.hid hfv
    have hn := (postOk_and hok).2.2.2.2
    obtain ⟨M, hM1, hM2⟩ := few_some hok hto hpos
    have hnn : ¬ (tg (tableL n net f t0 ch) tt < 0) := by omega
    rw [hpa]
    have HOK := Lib.hid hok
    have HM := Lib.hid hM2
    clear hpa hfv hok hM2
    go_wp2_with fail
    refine (newPostTable_any n _ _ _ net f t0 ch _ hl (hr.below hb1 hh) (Nat.le_trans hh hb1.size)).mono ?_
    rintro e w2 ⟨hb2, ⟨_, P, g, cap, rfl, hp, hg, hP⟩ | ⟨hno, _⟩⟩
    · have hb12 := hb1.trans (hb2.mono hb1.size)
      have HP0 := Lib.hid hp
      clear hp hnn
      go_wp2_with fail
      go_loopw [13, 14] (fun v i wr => ∃ (k P g cap : Nat), i = .int .i64 k ∧ v = .pointer (some ⟨P, 0, none⟩) ∧ k ≤ M ∧ Hid (∀ j, j < k → tg (tabK n net f t0 ch j) tt < 0) ∧ Hid (PTw wr P g cap hi A c net n f ch (tabK n net f t0 ch k)) ∧ Below w.heap.size w wr) (fun _ i _ => M - (intOf i).toNat)
      case atStart => exact ⟨0, P, g, cap, rfl, rfl, Nat.zero_le _, fun j h => absurd h (by omega), HP0, hb12⟩
      case round =>
        obtain ⟨k, P', g', cap', rfl, rfl, hkM, HNO, HPk, hb⟩ := hrel
        clear HP0
        have c3 := HPk.out.c3
        have hPl := HPk.out.lt
        have hgl := HPk.out.glt
        have ct := HPk.out.get hto.1 hto.2
        have hlt : tt < ((n.toNat : Nat) : Int) := by omega
        have hto0 := hto.1
        by_cases hx : 0 ≤ tg (tabK n net f t0 ch k) tt
        · have hfin := Lib.hid (show fewV n net f tt t0 ch = (k : Int) by
            rw [hres.out, fewN_here hx n.toNat 0 (Nat.zero_le _) (by omega) (fun j _ h => by have := HNO.out j h; omega)])
          generalize tg (tabK n net f t0 ch k) tt = y at *
          go_wp2_with fail
          go_ret
          exact ⟨ret_int hfin.out.symm, hb⟩
        · have hkM2 : k < M := by
            rcases Nat.lt_or_ge k M with h | h
            · exact h
            · have e : k = M := by omega
              exact absurd (by rw [e]; exact HM.out) hx
          have HNO2 := Lib.hid (show ∀ j, j < k + 1 → tg (tabK n net f t0 ch j) tt < 0 from fun j hj => by
            by_cases e : j = k
            · subst e; omega
            · exact HNO.out j (by omega))
          have hx' : tg (tabK n net f t0 ch k) tt < 0 := by omega
          clear hx
          generalize tg (tabK n net f t0 ch k) tt = y at *
          go_wp2_with fail
          refine (step_any HOK.out (tabK_is HOK.out k) _ HPk.out).mono ?_
          rintro e w4 ⟨hb4, P2, g2, cap2, rfl, hp2⟩
          have HP2 := Lib.hid (show PTw w4 P2 g2 cap2 hi A c net n f ch (tabK n net f t0 ch (k + 1)) from hp2)
          clear hp2
          go_wp2_with fail
          go_roundw
          case rel => exact ⟨k + 1, P2, g2, cap2, by go_num, rfl, by omega, HNO2, HP2, hb.trans (hb4.mono hb.size)⟩
          case measure => simp [intOf]; omega
    · exact absurd (HOK.out.symm.trans hno) (by simp)

end Go.Proofs.Ytdiichfdffhdaaa

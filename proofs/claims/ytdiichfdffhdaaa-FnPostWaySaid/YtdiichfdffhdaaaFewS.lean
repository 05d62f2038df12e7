/-
  Contracts of the reference's l7Round and PostFewest.
-/
import Derived.Test.YtdiichfdffhdaaaPostR
import Derived.Test.YtdiichfdffhdaaaFewMath
import Derived.Test.YtdiichfdffhdaaaStepI
namespace Go.Proofs.Ytdiichfdffhdaaa
open Go.RowKit

theorem ride_k {T0 : List Int} {f ch : Int} {l : List T3} {i : Nat} {T : List Int} {x : T3} (h : i < l.length) (hx : x = l[i]) {R : List Int} (hR : R = rideL (fun _ => T0) f ch false (l.drop i) T) : R = rideL (fun _ => T0) f ch (rdyB T0 f ch x) (l.drop (i + 1)) T := by
  rw [hR, ride_next h hx, noted_no (.inl rfl)]; rfl

set_option maxRecDepth 100000 in
set_option maxHeartbeats 8000000 in
theorem l7Round_any (A : Option Addr) (c hi : Nat) (net : Net) (b0 o0 c0 lo' hi' : Nat) (T : List Int) (f ch : Int) (w : World) (hnet : netB (T.length : Int) net = true) (hm : T.length ≤ 8) (hT : TabOk T.length T) (hm0 : 0 < T.length) (hch0 : 0 ≤ ch) (hch1 : ch ≤ 300) (hr : RdN w 0 hi A net) (hh : hi ≤ w.heap.size) (hrT : Rd w lo' hi' (some ⟨b0, o0, none⟩) (ints T)) (hh' : hi' ≤ w.heap.size) :
    Calls Try.prog 80 #[.slice A net.length c, .slice (some ⟨b0, o0, none⟩) T.length c0, .int .i64 f, .int .i64 ch] w (RetI 3 (stepL f ch net T) w) := by
  obtain ⟨i0, hi0, hz0, hz1, hz2⟩ := info_parts infoInt
  have hln := (netB_and hnet).2.1
  have HNET := Lib.hid hnet
  have HTOK := Lib.hid hT
  have hT8 : T.length ≤ 100 := by omega
  have hbA := below_alloc (Below.refl w.heap.size w) (.cells #[] 3)
  have ho := own_lit0 w w.heap.size 3 1 (Nat.le_refl _)
  have ho' : (w.alloc (.cells #[] 3)).ownsRow w.heap.size 3 1 (.slice (some ⟨w.heap.size, 0, none⟩) 0 0) ([] : List Int).length (ints []) := ho
  have hrA := hrT.below hbA hh'
  clear hnet hT
  go_enter Try.func80, Try.ntmps80
  go_wp2_with (at_builtin; go_must (refine wpList_appendR1 rfl _ _ 48 rfl w.heap.size 3 i0 _ Try.underlying48 hi0 hz0 hz1 hz2 rfl (.slice (some ⟨w.heap.size, 0, none⟩) 0 0) [] rfl ho' (some ⟨b0, o0, none⟩) T c0 lo' hi' hrA rfl hm0 (by simp) (by omega) (by simp) ?_); intro g cap w1 hown hg _ _)
  have hb1 := below_grown hbA hbA.size ho' (Nat.le_refl _) hg
  have HT := Lib.hid (show TRow w T.length T g cap w1 from ⟨by have := hown; simp only [List.nil_append, List.length_nil, Nat.zero_add] at this; exact this, hb1, HTOK.out⟩)
  have HLS := Lib.hid (show ∀ l ∈ net, ∀ s ∈ l, StopR (T.length : Int) s from fun l hl => net_stops HNET.out hl)
  clear ho ho' hrA hg hown hb1 hbA
  go_loopw [10] (fun i w2 => ∃ (j : Nat) (T2 : List Int), j ≤ net.length ∧ i = .int .i64 j ∧ Hid (T2 = roundL (fun _ => T) f ch (net.take j) T) ∧ Hid (TRow w T.length T2 g cap w2)) (fun i _ => net.length - (intOf i).toNat)
  case atStart => exact ⟨0, T, Nat.zero_le _, rfl, rfl, HT⟩
  case round =>
    obtain ⟨j, T2, hj1, rfl, HT2, HW2⟩ := hrel
    clear HT
    by_cases hjl : j < net.length
    · obtain ⟨hown2, hb2, htok2⟩ := HW2.out
      obtain ⟨b, off, B, cc, rfl, _, hbh, q0, hcc, hrk⟩ := (hr.below hb2 hh) j hjl
      have hl8 := (stopsB_n (netB_mem HNET.out (List.getElem_mem hjl))).2.2.2
      have hls := HLS.out _ (List.getElem_mem hjl)
      obtain ⟨l, hl⟩ : ∃ l, l = net[j] := ⟨_, rfl⟩
      rw [← hl] at q0 hcc hrk hl8 hls
      have HL := Lib.hid hl
      have HS := Lib.hid hls
      clear hl hls hown2 hb2 htok2 q0 hrk
      go_wp2_with fail
      go_loopw [11, 12] (fun o i w3 => ∃ (q : Nat) (T3 : List Int) (on : Bool), q ≤ l.length ∧ i = .int .i64 q ∧ o = .bool on ∧ Hid (rideL (fun _ => T) f ch false l T2 = rideL (fun _ => T) f ch on (l.drop q) T3) ∧ Hid (TRow w T.length T3 g cap w3)) (fun _ i _ => l.length - (intOf i).toNat)
      case atStart => exact ⟨0, T2, false, Nat.zero_le _, rfl, rfl, by simp [Hid], HW2⟩
      case round =>
        obtain ⟨q, T3, on, hq1, rfl, rfl, HR, HW3⟩ := hrel
        clear HW2
        obtain ⟨hown3, hb3, htok3⟩ := HW3.out
        have hbs3 := hb3.size
        obtain ⟨b', off', B', cc', e', _, hbh', q0, hcc', hrk⟩ := (hr.below hb3 hh) j hjl
        injection e' with e'; injection e' with e1' e2'; subst e1' e2'
        rw [← HL.out] at q0 hrk hcc'
        clear hcc'
        by_cases hql : q < l.length
        · obtain ⟨b4, off4, rfl, _, hb4, d0, d1, d2⟩ := hrk.at3 q hql
          have hxs := HS.out _ (List.getElem_mem hql)
          obtain ⟨x, hx⟩ : ∃ x, x = l[q] := ⟨_, rfl⟩
          rw [← hx] at d0 d1 d2 hxs
          have HX := Lib.hid hx
          obtain ⟨x0, x1, x2, x3, x4⟩ := hxs
          have hcx := row_get hown3 (by have := htok3.1; simpa using this) x0 x1
          have htx := htok3.tg x0 x1
          have hfz := hown3.frozenAt x.1.toNat
          have hgl := own_lt hown3
          have hlT := htok3.1
          have hbT := Lib.hid htok3.2
          have hrdT := Rd.of_own hown3
          clear hx hown3 htok3 hb3
          have hxk : x.1 < (T.length : Int) := x1
          obtain ⟨tx0, tx1⟩ := htx
          have hgb : g ≠ wr.heap.size := by omega
          have hbA := below_alloc (Below.refl wr.heap.size wr) (.cells #[.int .i64 x.1, .int .i64 x.2.1, .int .i64 x.2.2] 30)
          have HA := Lib.hid (trow_below HW3.out hbA)
          cases on
          · have hnx := Lib.hid (ride_k hql HX.out HR.out)
            have hrT3 := (hrT.below (HW3.out.2.1) hh').below hbA (by omega)
            have hlk : x.1.toNat < T.length := by omega
            clear hlT hrdT
            go_wp2_with fail
            go_quiet (fail)
            go_wp2_with fail
            refine (l7Ready_any _ _ _ _ T f x ch _ (rd_drewN hrT3 _) (by simp; omega) x0 hlk hT8 HTOK.out.2 hch0 hch1).mono ?_
            rintro e w5 ⟨rfl, hb5⟩
            have HB := Lib.hid (trow_below (trow_drewN HA.out _) hb5)
            go_wp2_with fail
            go_roundw
            case rel => exact ⟨q + 1, T3, rdyB T f ch x, by omega, by go_num, rfl, hnx, HB⟩
            case measure => simp [intOf]; omega
          · by_cases hb : tg T3 x.1 < 0 ∨ x.2.1 < tg T3 x.1
            · have hnx := Lib.hid (ride_b hql HX.out HR.out hb)
              have hx21 : -1 ≤ x.2.1 ∧ x.2.1 ≤ 10000 := by omega
              have HX2 := Lib.hid hx21
              clear hx21
              clear hlT hrdT
              generalize tg T3 x.1 = y at *
              by_cases hy : y < 0
              · clear hb
                go_wp2_with fail
                go_quiet (fail)
                go_wp2_with fail
                go_roundw
                case rel => exact ⟨q + 1, _, true, by omega, by go_num, rfl, hnx, trow_set (trow_drewN HA.out _) _ HX2.out⟩
                case measure => simp [intOf]; omega
              · have hy2 : x.2.1 < y := by omega
                have hyd : decide (y < 0) = false := decide_eq_false hy
                clear hb hy
                go_wp2_with fail
                go_quiet (fail)
                go_wp2_with fail
                go_roundw
                case rel => exact ⟨q + 1, _, true, by omega, by go_num, rfl, hnx, trow_set (trow_drewN HA.out _) _ HX2.out⟩
                case measure => simp [intOf]; omega
            · have hnx := Lib.hid (ride_c hql HX.out HR.out hb)
              clear hlT hrdT
              generalize tg T3 x.1 = y at *
              have hy2 : decide (x.2.1 < y) = false := decide_eq_false (by omega)
              have hyd : decide (y < 0) = false := decide_eq_false (by omega)
              clear hb
              go_wp2_with fail
              go_quiet (fail)
              go_wp2_with fail
              go_roundw
              case rel => exact ⟨q + 1, _, true, by omega, by go_num, rfl, hnx, trow_drewN HA.out _⟩
              case measure => simp [intOf]; omega
        · have hnx := Lib.hid (show rideL (fun _ => T) f ch false l T2 = T3 by rw [HR.out, ride_end hql])
          clear hown3 htok3 hb3
          go_wp2_with fail
          go_roundw
          case rel => exact ⟨j + 1, T3, by omega, by go_num, (by show T3 = _; rw [round_next _ hjl, ← HT2.out, ← HL.out, hnx.out]), HW3⟩
          case measure => simp [intOf]; omega
    · have hfin := Lib.hid (show T2 = stepL f ch net T by rw [HT2.out, List.take_of_length_le (by omega)]; rfl)
      have hlen := Lib.hid (show T2.length = T.length by have := HW2.out.2.2.1; simpa using this)
      go_wp2_with fail
      go_ret
      refine ⟨some ⟨g, 0, none⟩, cap, ?_, ?_, HW2.out.2.1⟩
      · rw [← hfin.out, hlen.out]; rfl
      · rw [← hfin.out, hlen.out]; exact HW2.out.1

set_option maxRecDepth 100000 in
set_option maxHeartbeats 8000000 in
theorem sPostFewest_any (n : Int) (A : Option Addr) (c hi : Nat) (net : Net) (f tt t0 ch : Int) (w : World) (hl : netSize net ≤ 1048576) (hr : RdN w 0 hi A net) (hh : hi ≤ w.heap.size) :
    Calls Try.prog 50 #[.int .i64 n, .slice A net.length c, .int .i64 f, .int .i64 tt, .int .i64 t0, .int .i64 ch] w fun e w' => e = .returned (.int .i64 (fewV n net f tt t0 ch)) ∧ Below w.heap.size w w' := by
  obtain ⟨i0, hi0, hz0, hz1, hz2⟩ := info_parts infoInt
  go_enter Try.func50, Try.ntmps50
  go_wp2_with fail
  refine (sPostArrive_any n _ _ _ net f tt t0 ch _ hl hr hh).mono ?_
  rintro e w1 ⟨rfl, hb1⟩
  have hPA := postArr_case n net f tt t0 ch
  rcases hPA with ⟨hpa, hfv⟩ | ⟨hok, hto, hpos, hpa, hfv⟩
  · have hres := Lib.hid hfv
    rw [hpa]
    clear hpa hfv
    go_wp2_with fail
    go_ret
    exact ⟨ret_int hres.out.symm, hb1⟩
  have hres := Lib.hid hfv
  obtain ⟨hnet, ⟨f0, f1⟩, ⟨t00, t01⟩, ⟨c0', c1'⟩, hn1, hn2⟩ := postOk_and hok
  obtain ⟨m, rfl⟩ : ∃ m : Nat, n = (m : Int) := ⟨n.toNat, by omega⟩
  obtain ⟨M, hM1, hM2⟩ := few_some hok hto hpos
  have hnn : ¬ (tg (tableL m net f t0 ch) tt < 0) := by omega
  rw [hpa]
  have HOK := Lib.hid hok
  have HM := Lib.hid hM2
  have HNET := Lib.hid hnet
  have hbw := hb1.size
  have HB1 := Lib.hid hb1
  have hbA := below_alloc hb1 (.cells #[] 3)
  have ho0 := own_lit0 w1 w.heap.size 3 1 hbw
  clear hpa hfv hok hM2 hnet
  go_wp2_with fail
  go_loopw [13, 14] (fun v i wr => ∃ (k g cap : Nat), k ≤ m ∧ i = .int .i64 k ∧ v = .slice (some ⟨g, 0, none⟩) k cap ∧ wr.ownsRow w.heap.size 3 1 (.slice (some ⟨g, 0, none⟩) k cap) k (ints (List.replicate k (-1))) ∧ Below w.heap.size w wr) (fun _ i _ => m - (intOf i).toNat)
  case atStart => exact ⟨0, _, _, Nat.zero_le _, rfl, rfl, ho0, hbA⟩
  case round =>
    obtain ⟨k, g, cap, hk, rfl, rfl, hown, hb⟩ := hrel
    clear ho0 hbA hnn
    have hbs := hb.size
    by_cases hlt : k < m
    · have hown' : wr.ownsRow w.heap.size 3 1 (.slice (some ⟨g, 0, none⟩) (List.replicate k (-1 : Int)).length cap) (List.replicate k (-1 : Int)).length (ints (List.replicate k (-1))) := by rw [List.length_replicate]; exact hown
      have HR := Lib.hid (show List.replicate k (-1 : Int) ++ [-1] = List.replicate (k + 1) (-1) by rw [List.replicate_succ'])
      have hln8 : (List.replicate k (-1 : Int)).length ≤ 8388608 := by rw [List.length_replicate]; omega
      obtain ⟨L, hL⟩ : ∃ L : List Int, L = List.replicate k (-1) := ⟨_, rfl⟩
      rw [← hL] at hown' HR hln8
      have hLk : L.length = k := by rw [hL]; simp
      have hs : (Value.slice (some ⟨g, 0, none⟩) k cap) = Value.slice (some ⟨g, 0, none⟩) L.length cap := by rw [hLk]
      have HL := Lib.hid hLk
      have HS := Lib.hid hs
      clear hL hown hLk hs
      go_wp2_with (at_builtin; go_must (refine wpList_append1 rfl _ _ 48 rfl w.heap.size 3 i0 _ Try.underlying48 hi0 hz0 hz1 hz2 rfl (.slice (some ⟨g, 0, none⟩) L.length cap) L HS.out (hown'.alloc _) wr.heap.size _ (nb1 _ _) rfl (by omega) (ls1 hbs _) ?_); intro g2 cap2 w2 hown2 hg2 _ _)
      have hb2 := below_grown (below_alloc hb _) (ls1 hbs _) (hown'.alloc _) (Nat.le_refl _) hg2
      rw [HL.out, HR.out] at hown2
      go_roundw
      case rel => exact ⟨k + 1, g2, cap2, by omega, by go_num, by rw [HL.out], hown2, hb2⟩
      case measure => simp [intOf]; omega
    · obtain rfl : k = m := by omega
      have hfm : f < (k : Int) := f1
      have hcg := row_get hown (by simp) f0 hfm
      have hfz := hown.frozenAt f.toNat
      have hgl := own_lt hown
      have ho1 := Lib.hid (own1_store hown f.toNat t0)
      have HI := Lib.hid (show initL k f t0 = (List.replicate k (-1)).set f.toNat t0 by unfold initL; simp)
      have hb1' := below_grown hb hb.size hown (Nat.le_refl _) (show wr.grownBy (wr.setCell ⟨g, f.toNat, none⟩ (.int .i64 t0)) (Value.slice (some ⟨g, 0, none⟩) k cap).ownBlock from gr_setAny _ _ _ _)
      have HW0 := Lib.hid (show (wr.setCell ⟨g, f.toNat, none⟩ (.int .i64 t0)).ownsRow w.heap.size 3 1 (.slice (some ⟨g, 0, none⟩) k cap) k (ints (tabK k net f t0 ch 0)) ∧ Below w.heap.size w (wr.setCell ⟨g, f.toNat, none⟩ (.int .i64 t0)) from ⟨by show World.ownsRow _ _ _ _ _ _ (ints (initL k f t0)); rw [HI.out]; exact ho1.out, hb1'⟩)
      clear hlt hb1' hown hbs hb ho1
      go_wp2_with fail
      go_loopw [13, 15] (fun v i wr => ∃ (q g cap : Nat), i = .int .i64 q ∧ v = .slice (some ⟨g, 0, none⟩) k cap ∧ q ≤ M ∧ Hid (∀ j, j < q → tg (tabK k net f t0 ch j) tt < 0) ∧ Hid (wr.ownsRow w.heap.size 3 1 (.slice (some ⟨g, 0, none⟩) k cap) k (ints (tabK k net f t0 ch q)) ∧ Below w.heap.size w wr)) (fun _ i _ => M - (intOf i).toNat)
      case atStart => exact ⟨0, g, cap, rfl, rfl, Nat.zero_le _, fun j h => absurd h (by omega), HW0⟩
      case round =>
        obtain ⟨q, g, cap, rfl, rfl, hqM, HNO, HW⟩ := hrel
        clear HW0 hcg hfz hgl
        obtain ⟨hown, hb⟩ := HW.out
        have hbs := hb.size
        have hTK := (tabK_is HOK.out q)
        have hlen : (tabK k net f t0 ch q).length = k := by have := hTK.1.1; simpa using this
        have ct := row_get hown hlen hto.1 hto.2
        have hgl := own_lt hown
        obtain ⟨to0, to1⟩ := hto
        have HTO := Lib.hid (And.intro to0 to1)
        by_cases hx : 0 ≤ tg (tabK k net f t0 ch q) tt
        · have hfin := Lib.hid (show fewV k net f tt t0 ch = (q : Int) by
            rw [hres.out, fewN_here hx (k : Int).toNat 0 (Nat.zero_le _) (by omega) (fun j _ h => by have := HNO.out j h; omega)])
          have HB := Lib.hid hb
          clear hown hTK hlen hb
          generalize tg (tabK k net f t0 ch q) tt = y at *
          go_wp2_with fail
          go_ret
          exact ⟨ret_int hfin.out.symm, HB.out⟩
        · have hkM2 : q < M := by
            rcases Nat.lt_or_ge q M with h | h
            · exact h
            · have e : q = M := by omega
              exact absurd (by rw [e]; exact HM.out) hx
          have HNO2 := Lib.hid (show ∀ j, j < q + 1 → tg (tabK k net f t0 ch j) tt < 0 from fun j hj => by
            by_cases e : j = q
            · subst e; omega
            · exact HNO.out j (by omega))
          have hx' : tg (tabK k net f t0 ch q) tt < 0 := by omega
          have hrd := Rd.of_own hown
          have hround := Lib.hid (show Calls Try.prog 80 #[.slice A net.length c, .slice (some ⟨g, 0, none⟩) k cap, .int .i64 f, .int .i64 ch] wr (RetI 3 (stepL f ch net (tabK k net f t0 ch q)) wr) by
            have := l7Round_any A c hi net g 0 cap _ _ (tabK k net f t0 ch q) f ch wr (by rw [hlen]; exact HNET.out) (by omega) (by rw [hlen]; exact hTK.1) (by omega) c0' c1' (hr.below hb hh) (by omega) hrd (Nat.le_refl _)
            rwa [hlen] at this)
          have HB := Lib.hid hb
          clear hx hown hTK hlen hrd hb
          generalize tg (tabK k net f t0 ch q) tt = y at *
          go_wp2_with fail
          refine hround.out.mono ?_
          rintro e w4 ⟨B, c4, rfl, ho4, hb4⟩
          have hl4 : (stepL f ch net (tabK k net f t0 ch q)).length = k := by have := (step_isTabK HOK.out (tabK_is HOK.out q)).1.1; simpa using this
          rw [hl4] at ho4
          obtain ⟨g4, cap4, hv4, _, _⟩ := ho4.form (by omega)
          rw [hl4]
          injection hv4 with hB _ hc4
          subst hB hc4
          have HW4 := Lib.hid (show w4.ownsRow w.heap.size 3 1 (.slice (some ⟨g4, 0, none⟩) k c4) k (ints (tabK k net f t0 ch (q + 1))) ∧ Below w.heap.size w w4 from ⟨own_mono ho4 hbs, HB.out.trans (hb4.mono hbs)⟩)
          clear ho4 hl4
          go_wp2_with fail
          go_roundw
          case rel => exact ⟨q + 1, g4, c4, by go_num, rfl, by omega, HNO2, HW4⟩
          case measure => simp [intOf]; omega

end Go.Proofs.Ytdiichfdffhdaaa

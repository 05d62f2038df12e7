/-
  Contracts of the reference's l7Last and PostWay.
-/
import Derived.Test.YtdiichfdffhdaaaWayR
namespace Go.Proofs.Ytdiichfdffhdaaa
open Go.RowKit

def RetL7 (o : Option T3) (w : World) (e : Ending) (w' : World) : Prop :=
  e = .returned (.agg #[.int .i64 (o.getD (0, 0, 0)).1, .int .i64 (o.getD (0, 0, 0)).2.1, .int .i64 (o.getD (0, 0, 0)).2.2]) ∧ Below w.heap.size w w'
set_option maxRecDepth 100000 in
set_option maxHeartbeats 4000000 in
theorem l7Last_any (n : Int) (A : Option Addr) (c hi : Nat) (net : Net) (bt ot ct lo' hi' : Nat) (T : List Int) (f town ch : Int) (w : World) (hnet : netB n net = true) (hT : TabOk n T) (hn : n ≤ 8) (hch0 : 0 ≤ ch) (hch1 : ch ≤ 300) (ht0 : 0 ≤ town) (ht1 : town < n) (hr : RdN w 0 hi A net) (hh : hi ≤ w.heap.size) (hrT : Rd w lo' hi' (some ⟨bt, ot, none⟩) (ints T)) (hh' : hi' ≤ w.heap.size) :
    Calls Try.prog 60 #[.slice A net.length c, .slice (some ⟨bt, ot, none⟩) T.length ct, .int .i64 f, .int .i64 town, .int .i64 ch] w (RetL7 (lastR T f ch net town) w) := by
  have hln := (netB_and hnet).2.1
  have hTl : T.length = n.toNat := hT.1
  have hT8 : T.length ≤ 100 := by omega
  have HTB := Lib.hid hT.2
  have hlt8 : town.toNat < T.length := by omega
  obtain ⟨b5, o5, e5, hbt, hcg⟩ := rd_tg hrT ht0 hlt8
  injection e5 with e5; injection e5 with e51 e52; subst e51 e52
  have hlt8' : town < (T.length : Int) := by omega
  have HNET := Lib.hid hnet
  have HTL := Lib.hid hTl
  clear hnet hT hTl
  have hbA := below_alloc (Below.refl w.heap.size w) (.cells #[.int .i64 0, .int .i64 0, .int .i64 0] 33)
  go_enter Try.func60, Try.ntmps60
  go_wp2_with fail
  go_loopw [11] (fun i wr => ∃ k : Nat, k ≤ net.length ∧ i = .int .i64 k ∧ Hid (lastR T f ch net town = lastFrom T f ch town k (net.drop k)) ∧ wr.cell? ⟨w.heap.size, 0, none⟩ = some (.int .i64 0) ∧ wr.cell? ⟨w.heap.size, 1, none⟩ = some (.int .i64 0) ∧ wr.cell? ⟨w.heap.size, 2, none⟩ = some (.int .i64 0) ∧ wr.frozen? ⟨w.heap.size, 0, none⟩ = false ∧ wr.frozen? ⟨w.heap.size, 1, none⟩ = false ∧ wr.frozen? ⟨w.heap.size, 2, none⟩ = false ∧ w.heap.size < wr.heap.size ∧ Below w.heap.size w wr) (fun i _ => net.length - (intOf i).toNat)
  case atStart => exact ⟨0, Nat.zero_le _, rfl, by simp [Hid, lastR], by simp [go_sem], by simp [go_sem], by simp [go_sem], by simp [go_sem], by simp [go_sem], by simp [go_sem], by simp, hbA⟩
  case round =>
    obtain ⟨k, hk, rfl, H, z0, z1, z2, f0, f1, f2, hsz, hb⟩ := hrel
    clear hbA
    have hbs := hb.size
    by_cases hlt : k < net.length
    · obtain ⟨b, off, B, cc, rfl, _, hbh, q0, hcc, hrk⟩ := (hr.below hb (by omega)) k hlt
      have hsv := netB_mem HNET.out (List.getElem_mem hlt)
      have hl8 := (stopsB_n hsv).2.2.2
      have hst := net_stops HNET.out (List.getElem_mem hlt)
      have HN1 := Lib.hid (fun hn' => last_next (T := T) (f := f) (ch := ch) (town := town) hlt hn')
      have HN2 := Lib.hid (fun x hn' => last_here (T := T) (f := f) (ch := ch) (town := town) (x := x) hlt hn')
      obtain ⟨l, hl⟩ : ∃ l, l = net[k] := ⟨_, rfl⟩
      rw [← hl] at q0 hcc hrk hl8 hsv hst HN1 HN2
      have HSV := Lib.hid hsv
      have HST := Lib.hid hst
      clear hl hsv hst
      go_wp2_with fail
      refine (l2At_any B cc _ _ l town _ (by omega) hrk).mono ?_
      rintro e w2 ⟨rfl, hb2⟩
      have hb12 := hb.trans (hb2.mono hbs)
      have hz2 := hb2.size
      have z02 := (hb2.cell (p := ⟨w.heap.size, 0, none⟩) hsz).trans z0
      have z12 := (hb2.cell (p := ⟨w.heap.size, 1, none⟩) hsz).trans z1
      have z22 := (hb2.cell (p := ⟨w.heap.size, 2, none⟩) hsz).trans z2
      have f02 := (hb2.frozen (p := ⟨w.heap.size, 0, none⟩) hsz).trans f0
      have f12 := (hb2.frozen (p := ⟨w.heap.size, 1, none⟩) hsz).trans f1
      have f22 := (hb2.frozen (p := ⟨w.heap.size, 2, none⟩) hsz).trans f2
      have q02 := (hb2.cell (p := ⟨b, off + k, none⟩) (show b < _ by omega)).trans q0
      have hrk2 := hrk.below hb2 (by omega)
      have hcg2 := (hb12.cell (p := ⟨bt, ot + town.toNat, none⟩) (show bt < _ by omega)).trans hcg
      clear z0 z1 z2 f0 f1 f2 q0 hrk
      rcases atFrom_ge town 0 l with ha | ⟨m, hm, ha, hmt⟩
      · have ha' : atL town l = -1 := ha
        have hnx := Lib.hid (show lastR T f ch net town = lastFrom T f ch town (k + 1) (net.drop (k + 1)) by rw [H.out]; exact HN1.out (by unfold rideTo; rw [if_pos (by omega)]))
        rw [ha']
        clear ha ha'
        go_wp2_with fail
        go_quiet (fail)
        go_wp2_with fail
        go_roundw
        case rel => exact ⟨k + 1, by omega, by go_num, hnx, z02, z12, z22, f02, f12, f22, by simp; omega, below_drewN hb12 _⟩
        case measure => simp [intOf]; omega
      · have ha' : atL town l = (m : Int) := by rw [atL, ha]; simp
        obtain ⟨b', off', rfl, _, hb', a0, a1, a2⟩ := hrk2.at3 m hm
        obtain ⟨x, hx⟩ : ∃ x, x = l[m] := ⟨_, rfl⟩
        rw [← hx] at a0 a1 a2
        have hgd : l.getD m (0, 0, 0) = x := by rw [List.getD_eq_getElem?_getD, List.getElem?_eq_getElem hm, hx]; rfl
        have HRT := Lib.hid (show rideTo T f ch town k l = if x.2.1 ≠ tg T town then none else if firstIdx (rdyB T f ch) 0 (l.take m) < 0 then none else some ((k : Int), firstIdx (rdyB T f ch) 0 (l.take m), (m : Int)) by
          unfold rideTo
          rw [ha', if_neg (by omega), Int.toNat_natCast, hgd])
        have hm0 : ¬ ((m : Int) < 0) := by omega
        have hm0d : decide ((m : Int) < 0) = false := decide_eq_false hm0
        have hbw2 : b < w2.heap.size := by omega
        have hbw3 : b' < w2.heap.size := by omega
        have hbw4 : bt < w2.heap.size := by omega
        rw [ha']
        clear ha ha' hmt hx hgd
        by_cases hne : x.2.1 = tg T town
        · have HRT2 := Lib.hid (show rideTo T f ch town k l = if firstIdx (rdyB T f ch) 0 (l.take m) < 0 then none else some ((k : Int), firstIdx (rdyB T f ch) 0 (l.take m), (m : Int)) by rw [HRT.out, if_neg (by simp [hne])])
          have hd : (x.2.1 != tg T town) = false := by simp [hne]
          have hlm : (l.take m).length = m := by rw [List.length_take]; omega
          have HTK := Lib.hid hlm
          clear hne hlm HRT
          generalize tg T town = y at *
          go_wp2_with fail
          go_quiet (fail)
          go_wp2_with fail
          go_loopw [13] (fun i wr => ∃ q : Nat, q ≤ m ∧ i = .int .i64 q ∧ Hid (firstIdx (rdyB T f ch) 0 (l.take m) = firstIdx (rdyB T f ch) q ((l.take m).drop q)) ∧ Below w2.heap.size w2 wr) (fun i _ => m - (intOf i).toNat)
          case atStart => exact ⟨0, Nat.zero_le _, rfl, by simp [Hid], below_drewN (Below.refl _ _) _⟩
          case round =>
            obtain ⟨q, hq, rfl, HF, hb4⟩ := hrel
            have hb14 := hb12.trans (hb4.mono (by omega))
            have hz4 := hb4.size
            have z04 := (hb4.cell (p := ⟨w.heap.size, 0, none⟩) (show w.heap.size < _ by omega)).trans z02
            have z14 := (hb4.cell (p := ⟨w.heap.size, 1, none⟩) (show w.heap.size < _ by omega)).trans z12
            have z24 := (hb4.cell (p := ⟨w.heap.size, 2, none⟩) (show w.heap.size < _ by omega)).trans z22
            have f04 := (hb4.frozen (p := ⟨w.heap.size, 0, none⟩) (show w.heap.size < _ by omega)).trans f02
            have f14 := (hb4.frozen (p := ⟨w.heap.size, 1, none⟩) (show w.heap.size < _ by omega)).trans f12
            have f24 := (hb4.frozen (p := ⟨w.heap.size, 2, none⟩) (show w.heap.size < _ by omega)).trans f22
            have hsz4 : w.heap.size < wr.heap.size := by omega
            by_cases hqm : q < m
            · have hql : q < l.length := by omega
              obtain ⟨b7, o7, e7, _, _, d0, d1, d2⟩ := (hrk2.below hb4 (by omega)).at3 q hql
              injection e7 with e7; injection e7 with e71 e72; subst e71 e72
              have q04 := (hb4.cell (p := ⟨b, off + k, none⟩) (show b < _ by omega)).trans q02
              have hqs := HST.out l[q] (List.getElem_mem hql)
              have hqt : q < (l.take m).length := by rw [HTK.out]; exact hqm
              have hqe : (l.take m)[q] = l[q] := List.getElem_take
              have HG1 := Lib.hid (fun hp => firstIdx_drop (rdyB T f ch) (l.take m) q hqt hp)
              have HG2 := Lib.hid (fun hp => firstIdx_here (rdyB T f ch) (l.take m) q hqt hp)
              rw [hqe] at HG1 HG2
              obtain ⟨s, hs⟩ : ∃ s, s = l[q] := ⟨_, rfl⟩
              rw [← hs] at d0 d1 d2 hqs HG1 HG2
              obtain ⟨s0, s1, s2, s3, s4⟩ := hqs
              have hlk : s.1.toNat < T.length := by have := HTL.out; omega
              have hrT4 := hrT.below hb14 hh'
              clear hs hqe hqt
              go_wp2_with fail
              refine (l7Ready_any _ _ _ _ T f s ch _ hrT4 (by omega) s0 hlk hT8 HTB.out hch0 hch1).mono ?_
              rintro e w5 ⟨rfl, hb5⟩
              have hb45 := hb4.trans (hb5.mono hz4)
              cases hrd : rdyB T f ch s
              · have hnx := Lib.hid (show firstIdx (rdyB T f ch) 0 (l.take m) = firstIdx (rdyB T f ch) (q + 1) ((l.take m).drop (q + 1)) by rw [HF.out]; exact HG1.out hrd)
                clear hrd
                go_wp2_with fail
                go_roundw
                case rel => exact ⟨q + 1, by omega, by go_num, hnx, hb45⟩
                case measure => simp [intOf]; omega
              · have hfin := Lib.hid (show lastR T f ch net town = some ((k : Int), (q : Int), (m : Int)) by
                  have hfq : firstIdx (rdyB T f ch) 0 (l.take m) = (q : Int) := by rw [HF.out]; exact HG2.out hrd
                  rw [H.out]; exact HN2.out _ (by rw [HRT2.out, hfq, if_neg (by omega)]))
                have z05 := (hb5.cell (p := ⟨w.heap.size, 0, none⟩) hsz4).trans z04
                have z15 := (hb5.cell (p := ⟨w.heap.size, 1, none⟩) hsz4).trans z14
                have z25 := (hb5.cell (p := ⟨w.heap.size, 2, none⟩) hsz4).trans z24
                have f05 := (hb5.frozen (p := ⟨w.heap.size, 0, none⟩) hsz4).trans f04
                have f15 := (hb5.frozen (p := ⟨w.heap.size, 1, none⟩) hsz4).trans f14
                have f25 := (hb5.frozen (p := ⟨w.heap.size, 2, none⟩) hsz4).trans f24
                have hsz5 : w.heap.size < w5.heap.size := by have := hb5.size; omega
                have hb15 := hb14.trans (hb5.mono (by omega))
                have Q := Lib.hid (set3_cells (x := .int .i64 (k : Int)) (y := .int .i64 (q : Int)) (z := .int .i64 (m : Int)) z05 z15 z25)
                clear hrd
                go_wp2_with fail
                obtain ⟨p0, p1, p2, p3, p4, p5⟩ := Q.out
                have hag : RetL7 (lastR T f ch net town) w (.returned (.agg #[.int .i64 (k : Int), .int .i64 (q : Int), .int .i64 (m : Int)])) (((w5.setCell ⟨w.heap.size, 0, none⟩ (.int .i64 (k : Int))).setCell ⟨w.heap.size, 1, none⟩ (.int .i64 (q : Int))).setCell ⟨w.heap.size, 2, none⟩ (.int .i64 (m : Int))) := by
                  refine ⟨by rw [hfin.out]; rfl, ?_⟩
                  exact ((hb15.setCell (p := ⟨w.heap.size, 0, none⟩) (Nat.le_refl _) _).setCell (p := ⟨w.heap.size, 1, none⟩) (Nat.le_refl _) _).setCell (p := ⟨w.heap.size, 2, none⟩) (Nat.le_refl _) _
                clear H HF HN1 HN2 HG1 HG2 HRT2 hcg hcg2 hrT hrT4 hr hrk2 q02 q04 d0 d1 d2 a0 a1 a2 Q
                refine bodyPost_ret (v := .agg #[.int .i64 (k : Int), .int .i64 (q : Int), .int .i64 (m : Int)]) (by simp [results, Try.results60, go_sem, p0, p1, p2, p3, p4, p5]) rfl hag
            · have hnx := Lib.hid (show lastR T f ch net town = lastFrom T f ch town (k + 1) (net.drop (k + 1)) by
                have hfq : firstIdx (rdyB T f ch) 0 (l.take m) = -1 := by rw [HF.out, List.drop_eq_nil_of_le (by rw [HTK.out]; omega)]; rfl
                rw [H.out]; exact HN1.out (by rw [HRT2.out, hfq, if_pos (by omega)]))
              go_wp2_with fail
              go_roundw
              case rel => exact ⟨k + 1, by omega, by go_num, hnx, z04, z14, z24, f04, f14, f24, hsz4, hb14⟩
              case measure => simp [intOf]; omega
        · have hnx := Lib.hid (show lastR T f ch net town = lastFrom T f ch town (k + 1) (net.drop (k + 1)) by rw [H.out]; exact HN1.out (by rw [HRT.out, if_pos hne]))
          have hd : (x.2.1 != tg T town) = true := by simp [hne]
          clear hne HRT
          generalize tg T town = y at *
          go_wp2_with fail
          go_quiet (fail)
          go_wp2_with fail
          go_roundw
          case rel => exact ⟨k + 1, by omega, by go_num, hnx, z02, z12, z22, f02, f12, f22, by simp; omega, below_drewN hb12 _⟩
          case measure => simp [intOf]; omega
    · have hres := Lib.hid (show lastR T f ch net town = none by rw [H.out, List.drop_eq_nil_of_le (by omega)]; rfl)
      have Q := Lib.hid (set3_cells (x := .int .i64 0) (y := .int .i64 0) (z := .int .i64 0) z0 z1 z2)
      go_wp2_with fail
      obtain ⟨q0, q1, q2, q3, q4, q5⟩ := Q.out
      refine bodyPost_ret (v := .agg #[.int .i64 0, .int .i64 0, .int .i64 0]) (by simp [results, Try.results60, go_sem, q0, q1, q2, q3, q4, q5]) rfl ⟨by rw [hres.out]; rfl, ?_⟩
      refine Below.setCell (Below.setCell (Below.setCell hb ?_ _) ?_ _) ?_ _ <;> (show w.heap.size ≤ _; simp)


end Go.Proofs.Ytdiichfdffhdaaa

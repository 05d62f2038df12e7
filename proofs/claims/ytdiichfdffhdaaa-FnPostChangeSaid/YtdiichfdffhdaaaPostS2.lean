/-
  Contracts of the reference's l7Table, PostTable, PostArrive.
-/
import Derived.Test.YtdiichfdffhdaaaPostS
import Derived.Test.YtdiichfdffhdaaaInts
namespace Go.Proofs.Ytdiichfdffhdaaa
open Go.RowKit

section
variable {w wr w' : World} {B g m cap : Nat} {E : TypeId} {T : List Int}
theorem row_get (h : wr.ownsRow B E 1 (.slice (some ⟨g, 0, none⟩) m cap) m (ints T)) (hT : T.length = m) {v : Int} (h0 : 0 ≤ v) (h1 : v < (m : Int)) : wr.cell? ⟨g, v.toNat, none⟩ = some (.int .i64 (tg T v)) := by
  have hl : v.toNat < T.length := by omega
  rw [tg_get h0 hl]; exact own1_cell h _ hl
end
theorem iter_succ (F : List Int → List Int) (k : Nat) (T : List Int) : iterL F (k + 1) T = F (iterL F k T) := rfl
theorem round_nil (g : List Int → List Int) (f ch : Int) (T : List Int) : roundL g f ch [] T = T := rfl
theorem round_next {g : List Int → List Int} {f ch : Int} {net : Net} {k : Nat} (T : List Int) (h : k < net.length) : roundL g f ch (net.take (k + 1)) T = rideL g f ch false net[k] (roundL g f ch (net.take k) T) := by
  rw [List.take_succ_eq_append_getElem h]
  unfold roundL
  rw [List.foldl_append]; rfl
theorem ride_next {g : List Int → List Int} {f ch : Int} {l : List T3} {i : Nat} {on : Bool} {T : List Int} {x : T3} (h : i < l.length) (hx : x = l[i]) : rideL g f ch on (l.drop i) T = rideL g f ch (on || rdyB (g (noted on x T)) f ch x) (l.drop (i + 1)) (noted on x T) := by
  rw [List.drop_eq_getElem_cons h, rideL_cons, hx]
theorem ride_end {g : List Int → List Int} {f ch : Int} {l : List T3} {i : Nat} {on : Bool} {T : List Int} (h : ¬ i < l.length) : rideL g f ch on (l.drop i) T = T := by
  rw [List.drop_eq_nil_of_le (by omega)]; rfl
theorem noted_yes {on : Bool} {x : T3} {T : List Int} (h1 : on = true) (h2 : tg T x.1 < 0 ∨ x.2.1 < tg T x.1) : noted on x T = T.set x.1.toNat x.2.1 := by
  unfold noted
  rw [if_pos]
  rw [h1, Bool.true_and, Bool.or_eq_true, decide_eq_true_eq, decide_eq_true_eq]; exact h2
theorem noted_no {on : Bool} {x : T3} {T : List Int} (h : on = false ∨ ¬ (tg T x.1 < 0 ∨ x.2.1 < tg T x.1)) : noted on x T = T := by
  unfold noted
  rw [if_neg]
  rw [Bool.and_eq_true, Bool.or_eq_true, decide_eq_true_eq, decide_eq_true_eq]
  rintro ⟨h1, h2⟩
  rcases h with h | h
  · rw [h1] at h; cases h
  · exact h h2
/-- The row of a table in the middle of the reference's work. -/
def TRow (w : World) (m : Nat) (T : List Int) (g cap : Nat) (wr : World) : Prop :=
  wr.ownsRow w.heap.size 3 1 (.slice (some ⟨g, 0, none⟩) m cap) m (ints T) ∧ Below w.heap.size w wr ∧ TabOk (m : Int) T

theorem trow_below {w wr w' : World} {m g cap : Nat} {T : List Int} (h : TRow w m T g cap wr) (hb : Below wr.heap.size wr w') : TRow w m T g cap w' :=
  ⟨own_below h.1 hb, h.2.1.trans (hb.mono h.2.1.size), h.2.2⟩
theorem trow_set {w wr : World} {m g cap : Nat} {T : List Int} (h : TRow w m T g cap wr) (k : Nat) {x : Int} (hx : -1 ≤ x ∧ x ≤ 10000) : TRow w m (T.set k x) g cap (wr.setCell ⟨g, k, none⟩ (.int .i64 x)) :=
  ⟨own1_store h.1 k x, below_grown h.2.1 h.2.1.size h.1 (Nat.le_refl _) (show wr.grownBy (wr.setCell ⟨g, k, none⟩ (.int .i64 x)) (Value.slice (some ⟨g, 0, none⟩) m cap).ownBlock from gr_setAny _ _ _ _), h.2.2.set k hx⟩
theorem trow_drewN {w wr : World} {m g cap : Nat} {T : List Int} (h : TRow w m T g cap wr) (q : Nat) : TRow w m T g cap (wr.drewN q) := ⟨h.1, below_drewN h.2.1 q, h.2.2⟩
theorem rd_drewN {w : World} {lo hi : Nat} {A : Option Addr} {xs : List Value} (h : Rd w lo hi A xs) (q : Nat) : Rd (w.drewN q) lo hi A xs := h
theorem ride_a {f ch : Int} {l : List T3} {i : Nat} {T : List Int} {x : T3} (h : i < l.length) (hx : x = l[i]) {R : List Int} (hR : R = rideL id f ch false (l.drop i) T) : R = rideL id f ch (rdyB T f ch x) (l.drop (i + 1)) T := by
  rw [hR, ride_next h hx, noted_no (.inl rfl)]; rfl
theorem ride_b {g : List Int → List Int} {f ch : Int} {l : List T3} {i : Nat} {T : List Int} {x : T3} (h : i < l.length) (hx : x = l[i]) {R : List Int} (hR : R = rideL g f ch true (l.drop i) T) (hb : tg T x.1 < 0 ∨ x.2.1 < tg T x.1) : R = rideL g f ch true (l.drop (i + 1)) (T.set x.1.toNat x.2.1) := by
  rw [hR, ride_next h hx, noted_yes rfl hb]; rfl
theorem ride_c {g : List Int → List Int} {f ch : Int} {l : List T3} {i : Nat} {T : List Int} {x : T3} (h : i < l.length) (hx : x = l[i]) {R : List Int} (hR : R = rideL g f ch true (l.drop i) T) (hb : ¬ (tg T x.1 < 0 ∨ x.2.1 < tg T x.1)) : R = rideL g f ch true (l.drop (i + 1)) T := by
  rw [hR, ride_next h hx, noted_no (.inr hb)]; rfl

set_option maxRecDepth 100000 in
set_option maxHeartbeats 8000000 in
theorem l7Table_any (n : Int) (A : Option Addr) (c hi : Nat) (net : Net) (f t0 ch : Int) (w : World) (hok : postOk n net f t0 ch = true) (hr : RdN w 0 hi A net) (hh : hi ≤ w.heap.size) :
    Calls Try.prog 59 #[.int .i64 n, .slice A net.length c, .int .i64 f, .int .i64 t0, .int .i64 ch] w (RetI 3 (tableL n net f t0 ch) w) := by
  obtain ⟨i0, hi0, hz0, hz1, hz2⟩ := info_parts infoInt
  obtain ⟨hnet, ⟨f0, f1⟩, ⟨t00, t01⟩, ⟨c0', c1'⟩, hn1, hn2⟩ := postOk_and hok
  obtain ⟨m, rfl⟩ : ∃ m : Nat, n = (m : Int) := ⟨n.toNat, by omega⟩
  have hln := (netB_and hnet).2.1
  have HNET := Lib.hid hnet
  have HOK := Lib.hid hok
  clear hnet hok
  go_enter Try.func59, Try.ntmps59
  go_wp2_with fail
  go_loopw [11, 12] (fun v i wr => ∃ (k g cap : Nat), k ≤ m ∧ i = .int .i64 k ∧ v = .slice (some ⟨g, 0, none⟩) k cap ∧ wr.ownsRow w.heap.size 3 1 (.slice (some ⟨g, 0, none⟩) k cap) k (ints (List.replicate k (-1))) ∧ Below w.heap.size w wr) (fun _ i _ => m - (intOf i).toNat)
  case atStart => exact ⟨0, _, _, Nat.zero_le _, rfl, rfl, own_lit0 w _ _ 1 (Nat.le_refl _), below_alloc (Below.refl _ _) _⟩
  case round =>
    obtain ⟨k, g, cap, hk, rfl, rfl, hown, hb⟩ := hrel
    have hbs := hb.size
    by_cases hlt : k < m
    · have hown' : wr.ownsRow w.heap.size 3 1 (.slice (some ⟨g, 0, none⟩) (List.replicate k (-1 : Int)).length cap) (List.replicate k (-1 : Int)).length (ints (List.replicate k (-1))) := by rw [List.length_replicate]; exact hown
      have HR := Lib.hid (show List.replicate k (-1 : Int) ++ [-1] = List.replicate (k + 1) (-1) by rw [List.replicate_succ']) 
      have hln8 : (List.replicate k (-1 : Int)).length ≤ 8388608 := by rw [List.length_replicate]; omega
      obtain ⟨L, hL⟩ : ∃ L : List Int, L = List.replicate k (-1) := ⟨_, rfl⟩
      rw [← hL] at hown' HR hln8
      have hLk : L.length = k := by rw [hL]; simp
      have hs : (Value.slice (some ⟨g, 0, none⟩) k cap) = Value.slice (some ⟨g, 0, none⟩) L.length cap := by rw [hLk]
      have HL := Lib.hid hLk
      have HS := Lib.hid hs
      clear hL hown hLk hs
      go_wp2_with (at_builtin; go_must (refine wpList_append1 rfl _ _ 48 rfl w.heap.size 3 i0 _ Try.underlying48 hi0 hz0 hz1 hz2 rfl (.slice (some ⟨g, 0, none⟩) L.length cap) L HS.out (hown'.alloc _) wr.heap.size _ (nb1 _ _) rfl (by omega) (ls1 hbs _) ?_); intro g2 cap2 w2 hown2 hg2 _ _)
      have hb2 := below_grown (below_alloc hb _) (ls1 hbs _) (hown'.alloc _) (Nat.le_refl _) hg2
      rw [HL.out, HR.out] at hown2
      go_roundw
      case rel => exact ⟨k + 1, g2, cap2, by omega, by go_num, by rw [HL.out], hown2, hb2⟩
      case measure => simp [intOf]; omega
    · obtain rfl : k = m := by omega
      have hfm : f < (k : Int) := f1
      have hcg := row_get hown (by simp) f0 hfm
      have hfz := hown.frozenAt f.toNat
      have hgl := own_lt hown
      have ho1 := Lib.hid (own1_store hown f.toNat t0)
      have HI := Lib.hid (show initL k f t0 = (List.replicate k (-1)).set f.toNat t0 by unfold initL; simp)
      have hb1 := below_grown hb hb.size hown (Nat.le_refl _) (show wr.grownBy (wr.setCell ⟨g, f.toNat, none⟩ (.int .i64 t0)) (Value.slice (some ⟨g, 0, none⟩) k cap).ownBlock from gr_setAny _ _ _ _)
      have hrow : TRow w k (initL k f t0) g cap (wr.setCell ⟨g, f.toNat, none⟩ (.int .i64 t0)) := ⟨by rw [HI.out]; exact ho1.out, hb1, init_ok HOK.out⟩
      have HLS := Lib.hid (show ∀ l ∈ net, ∀ s ∈ l, StopR (k : Int) s from fun l hl => net_stops HNET.out hl)
      have HRW := Lib.hid hrow
      clear hlt hrow hb1 hown hbs hb
      go_wp2_with fail
      go_loopw [13] (fun i w1 => ∃ (r : Nat) (T : List Int), r ≤ k + 1 ∧ i = .int .i64 r ∧ Hid (T = iterL (roundL id f ch net) r (initL k f t0)) ∧ Hid (TRow w k T g cap w1)) (fun i _ => k + 1 - (intOf i).toNat)
      case atStart => exact ⟨0, _, by omega, rfl, rfl, HRW⟩
      case round =>
        obtain ⟨r, T, hr1, rfl, HT, HW⟩ := hrel
        clear HRW hcg hfz ho1 hgl
        by_cases hlt : r ≤ k
        · have hlt' : (r : Int) ≤ (k : Int) := by omega
          go_wp2_with fail
          go_loopw [14] (fun i w2 => ∃ (j : Nat) (T2 : List Int), j ≤ net.length ∧ i = .int .i64 j ∧ Hid (T2 = roundL id f ch (net.take j) T) ∧ Hid (TRow w k T2 g cap w2)) (fun i _ => net.length - (intOf i).toNat)
          case atStart => exact ⟨0, T, Nat.zero_le _, rfl, rfl, HW⟩
          case round =>
            obtain ⟨j, T2, hj1, rfl, HT2, HW2⟩ := hrel
            clear HW
            by_cases hjl : j < net.length
            · obtain ⟨hown2, hb2, htok2⟩ := HW2.out
              obtain ⟨b, off, B, cc, rfl, _, hbh, q0, hcc, hrk⟩ := (hr.below hb2 hh) j hjl
              have hl8 := (stopsB_n (netB_mem HNET.out (List.getElem_mem hjl))).2.2.2
              have hls := HLS.out _ (List.getElem_mem hjl)
              obtain ⟨l, hl⟩ : ∃ l, l = net[j] := ⟨_, rfl⟩
              rw [← hl] at q0 hcc hrk hl8 hls
              have HL := Lib.hid hl
              have HS := Lib.hid hls
              clear hl hls hown2 hb2 htok2 q0 hrk
              go_wp2_with fail
              go_loopw [15, 16] (fun o i w3 => ∃ (q : Nat) (T3 : List Int) (on : Bool), q ≤ l.length ∧ i = .int .i64 q ∧ o = .bool on ∧ Hid (rideL id f ch false l T2 = rideL id f ch on (l.drop q) T3) ∧ Hid (TRow w k T3 g cap w3)) (fun _ i _ => l.length - (intOf i).toNat)
              case atStart => exact ⟨0, T2, false, Nat.zero_le _, rfl, rfl, by simp [Hid], HW2⟩
              case round =>
                obtain ⟨q, T3, on, hq1, rfl, rfl, HR, HW3⟩ := hrel
                clear HW2
                obtain ⟨hown3, hb3, htok3⟩ := HW3.out
                have hbs3 := hb3.size
                obtain ⟨b', off', B', cc', e', _, hbh', q0, hcc', hrk⟩ := (hr.below hb3 hh) j hjl
                injection e' with e'; injection e' with e1' e2'; subst e1' e2'
                rw [← HL.out] at q0 hrk hcc'
                clear hcc'
                by_cases hql : q < l.length
                · obtain ⟨b4, off4, rfl, _, hb4, d0, d1, d2⟩ := hrk.at3 q hql
                  have hxs := HS.out _ (List.getElem_mem hql)
                  obtain ⟨x, hx⟩ : ∃ x, x = l[q] := ⟨_, rfl⟩
                  rw [← hx] at d0 d1 d2 hxs
                  have HX := Lib.hid hx
                  obtain ⟨x0, x1, x2, x3, x4⟩ := hxs
                  have hcx := row_get hown3 (by have := htok3.1; simpa using this) x0 x1
                  have htx := htok3.tg x0 x1
                  have hfz := hown3.frozenAt x.1.toNat
                  have hgl := own_lt hown3
                  have hlT := htok3.1
                  have hbT := Lib.hid htok3.2
                  have hrdT := Rd.of_own hown3
                  clear hx hown3 htok3 hb3
                  have hxk : x.1 < (k : Int) := x1
                  obtain ⟨tx0, tx1⟩ := htx
                  have hgb : g ≠ wr.heap.size := by omega
                  have hbA := below_alloc (Below.refl wr.heap.size wr) (.cells #[.int .i64 x.1, .int .i64 x.2.1, .int .i64 x.2.2] 30)
                  have HA := Lib.hid (trow_below HW3.out hbA)
                  cases on
                  · have hnx := Lib.hid (ride_a hql HX.out HR.out)
                    have hrdA := hrdT.below hbA (Nat.le_refl _)
                    have HLT := Lib.hid (show T3.length = k by simpa using hlT)
                    have hlk : x.1.toNat < T3.length := by have := HLT.out; omega
                    have hs : (Value.slice (some ⟨g, 0, none⟩) k cap) = Value.slice (some ⟨g, 0, none⟩) T3.length cap := by rw [HLT.out]
                    have HSL := Lib.hid hs
                    have hT100 : T3.length ≤ 100 := by have := HLT.out; omega
                    clear hlT hrdT hs
                    go_wp2_with fail
                    go_quiet (fail)
                    go_wp2_with fail
                    rw [HSL.out]
                    refine (l7Ready_any _ _ _ _ T3 f x ch _ (rd_drewN hrdA _) (by simp) x0 hlk hT100 hbT.out c0' c1').mono ?_
                    rintro e w5 ⟨rfl, hb5⟩
                    rw [← HSL.out]
                    have HB := Lib.hid (trow_below (trow_drewN HA.out _) hb5)
                    go_wp2_with fail
                    go_roundw
                    case rel => exact ⟨q + 1, T3, rdyB T3 f ch x, by omega, by go_num, rfl, hnx, HB⟩
                    case measure => simp [intOf]; omega
                  · by_cases hb : tg T3 x.1 < 0 ∨ x.2.1 < tg T3 x.1
                    · have hnx := Lib.hid (ride_b hql HX.out HR.out hb)
                      have hx21 : -1 ≤ x.2.1 ∧ x.2.1 ≤ 10000 := by omega
                      have HX2 := Lib.hid hx21
                      clear hx21
                      clear hlT hrdT
                      generalize tg T3 x.1 = y at *
                      by_cases hy : y < 0
                      · clear hb
                        go_wp2_with fail
                        go_quiet (fail)
                        go_wp2_with fail
                        go_roundw
                        case rel => exact ⟨q + 1, _, true, by omega, by go_num, rfl, hnx, trow_set (trow_drewN HA.out _) _ HX2.out⟩
                        case measure => simp [intOf]; omega
                      · have hy2 : x.2.1 < y := by omega
                        have hyd : decide (y < 0) = false := decide_eq_false hy
                        clear hb hy
                        go_wp2_with fail
                        go_quiet (fail)
                        go_wp2_with fail
                        go_roundw
                        case rel => exact ⟨q + 1, _, true, by omega, by go_num, rfl, hnx, trow_set (trow_drewN HA.out _) _ HX2.out⟩
                        case measure => simp [intOf]; omega
                    · have hnx := Lib.hid (ride_c hql HX.out HR.out hb)
                      clear hlT hrdT
                      generalize tg T3 x.1 = y at *
                      have hy2 : decide (x.2.1 < y) = false := decide_eq_false (by omega)
                      have hyd : decide (y < 0) = false := decide_eq_false (by omega)
                      clear hb
                      go_wp2_with fail
                      go_quiet (fail)
                      go_wp2_with fail
                      go_roundw
                      case rel => exact ⟨q + 1, _, true, by omega, by go_num, rfl, hnx, trow_drewN HA.out _⟩
                      case measure => simp [intOf]; omega
                · have hnx := Lib.hid (show rideL id f ch false l T2 = T3 by rw [HR.out, ride_end hql])
                  clear hown3 htok3 hb3
                  go_wp2_with fail
                  go_roundw
                  case rel => exact ⟨j + 1, T3, by omega, by go_num, (by show T3 = _; rw [round_next _ hjl, ← HT2.out, ← HL.out, hnx.out]), HW3⟩
                  case measure => simp [intOf]; omega
            · have hnx := Lib.hid (show T2 = iterL (roundL id f ch net) (r + 1) (initL k f t0) by rw [iter_succ, ← HT.out, HT2.out, List.take_of_length_le (by omega)])
              go_wp2_with fail
              go_roundw
              case rel => exact ⟨r + 1, T2, by omega, by go_num, hnx, HW2⟩
              case measure => simp [intOf]; omega
        · have e : r = k + 1 := by omega
          have hfin := Lib.hid (show T = tableL k net f t0 ch by rw [HT.out, e]; rfl)
          have hlen := Lib.hid (show T.length = k by have := HW.out.2.2.1; simpa using this)
          have hlt' : ¬ ((r : Int) ≤ (k : Int)) := by omega
          clear hlt e
          go_wp2_with fail
          go_ret
          refine ⟨some ⟨g, 0, none⟩, cap, ?_, ?_, HW.out.2.1⟩
          · rw [← hfin.out, hlen.out]; rfl
          · rw [← hfin.out, hlen.out]; exact HW.out.1

end Go.Proofs.Ytdiichfdffhdaaa

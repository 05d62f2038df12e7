/-
  For every input the law FnPostOne returns true: a ride with one coach is no earlier.
-/
import Derived.Test.YtdiichfdffhdaaaPostLaws2
import Derived.Test.YtdiichfdffhdaaaNetArgs
import Derived.Test.YtdiichfdffhdaaaInts
namespace Go.Proofs.Ytdiichfdffhdaaa
open Go.ChangeShapes Go.WideShapes Go.ChangeAt Go.RowKit

set_option maxRecDepth 100000 in
set_option maxHeartbeats 4000000 in
theorem postOne_any (A0 : Option Addr) (c0 n0 : Nat) (bs0 : Nat → Int) (w : World) (hm0 : n0 ≤ maxLen) (hb0 : Byt w w.heap.size A0 n0 bs0) (hc0 : n0 ≤ c0) :
    Calls Try.prog 9 #[.slice A0 n0 c0] w fun e w' => e = .returned (.bool true) ∧ Below w.heap.size w w' := by
  unfold maxLen at hm0
  by_cases hbig0 : (1048576 : Int) < n0
  · go_enter Try.func9, Try.ntmps9
    go_wp2_with fail
    go_ret
    exact ⟨rfl, Below.refl _ _⟩
  have hn0 : n0 ≤ 1048576 := by omega
  have hni0 : (n0 : Int) ≤ 1048576 := by omega
  clear hm0
  go_enter Try.func9, Try.ntmps9
  go_wp2_with fail
  refine (drawTable_any A0 n0 c0 bs0 _ hb0 hn0 hc0).mono ?_
  rintro e w1 ⟨n, A, c, fr, t, ch, net, rfl, hN1, hN2, ht, hch, r_N, hb⟩
  obtain ⟨ht0, ht1⟩ := ht
  obtain ⟨hch0, hch1⟩ := hch
  obtain ⟨a, ha⟩ : ∃ a, postTab n net fr t ch = a := ⟨_, rfl⟩
  have HA := Lib.hid ha
  have hal : a.length ≤ 8 := by rw [← ha]; exact postTab_len.1
  clear ha
  cases hok : postOk n net fr t ch
  · have HOK := Lib.hid hok
    clear hok
    go_wp2_with fail
    refine (iPostTable_any n _ _ _ net fr t ch _ (Nat.le_trans r_N.size (by omega)) r_N.2.2 (Nat.le_refl _)).mono ?_
    rintro e w2 ⟨P2, d2, rfl, o_a, hs⟩
    replace r_N := r_N.below hs
    replace hb := hb.trans (hs.mono hb.size)
    clear hs
    rw [HA.out] at o_a ⊢
    rw [HOK.out]
    go_wp2_with fail
    refine (sPostTable_any n _ _ _ net fr t ch _ (Nat.le_trans r_N.size (by omega)) r_N.2.2 (Nat.le_refl _)).mono ?_
    rintro e w3 ⟨P3, d3, rfl, o_a2, hs⟩
    replace r_N := r_N.below hs
    replace o_a := own_below o_a hs
    replace hb := hb.trans (hs.mono hb.size)
    clear hs
    rw [HA.out] at o_a2 ⊢
    rw [HOK.out]
    go_wp2_with fail
    refine (sameInts_any _ _ _ _ _ _ _ _ a a _ (by omega) (Rd.of_own o_a) (Rd.of_own o_a2)).mono ?_
    rintro e w4 ⟨rfl, hs⟩
    replace r_N := r_N.below hs
    replace o_a := own_below o_a hs
    replace o_a2 := own_below o_a2 hs
    replace hb := hb.trans (hs.mono hb.size)
    clear hs
    rw [show decide (a = a) = true from decide_eq_true rfl]
    go_wp2_with fail
    refine (sameInts_any _ _ _ _ _ _ _ _ a a _ (by omega) (Rd.of_own o_a) (Rd.of_own o_a2)).mono ?_
    rintro e w5 ⟨rfl, hs⟩
    replace r_N := r_N.below hs
    replace o_a := own_below o_a hs
    replace o_a2 := own_below o_a2 hs
    replace hb := hb.trans (hs.mono hb.size)
    clear hs
    rw [show decide (a = a) = true from decide_eq_true rfl]
    go_wp2_with fail
    go_ret
    exact ⟨rfl, by (repeat (first | exact Below.refl _ _ | assumption | apply below_alloc | apply below_drewN | apply Below.drew | refine Below.setCell ?_ (by simp; try omega) _))⟩
  have HOK := Lib.hid hok
  clear hok
  go_wp2_with fail
  refine (iPostTable_any n _ _ _ net fr t ch _ (Nat.le_trans r_N.size (by omega)) r_N.2.2 (Nat.le_refl _)).mono ?_
  rintro e w2 ⟨P2, d2, rfl, o_a, hs⟩
  replace r_N := r_N.below hs
  replace hb := hb.trans (hs.mono hb.size)
  clear hs
  rw [HA.out] at o_a ⊢
  rw [HOK.out]
  go_wp2_with fail
  refine (sPostTable_any n _ _ _ net fr t ch _ (Nat.le_trans r_N.size (by omega)) r_N.2.2 (Nat.le_refl _)).mono ?_
  rintro e w3 ⟨P3, d3, rfl, o_a2, hs⟩
  replace r_N := r_N.below hs
  replace o_a := own_below o_a hs
  replace hb := hb.trans (hs.mono hb.size)
  clear hs
  rw [HA.out] at o_a2 ⊢
  rw [HOK.out]
  go_wp2_with fail
  refine (sameInts_any _ _ _ _ _ _ _ _ a a _ (by omega) (Rd.of_own o_a) (Rd.of_own o_a2)).mono ?_
  rintro e w4 ⟨rfl, hs⟩
  replace r_N := r_N.below hs
  replace o_a := own_below o_a hs
  replace o_a2 := own_below o_a2 hs
  replace hb := hb.trans (hs.mono hb.size)
  clear hs
  rw [show decide (a = a) = true from decide_eq_true rfl]
  clear o_a2
  have HT := Lib.hid (show a = tableL n net fr t ch by rw [← HA.out, postTab, if_pos HOK.out])
  have HTL := Lib.hid (show a.length = n.toNat by rw [HT.out]; exact (tab_ok HOK.out).1)
  have hTn1 : (a.length : Int) ≤ n := by have := HTL.out; omega
  have hTn2 : n ≤ (a.length : Int) := by have := HTL.out; omega
  have NQ : ((a.length : Int) == n) = true := by rw [beq_iff_eq]; omega
  have HONE := Lib.hid (show ∀ (k : Nat) (hk : k < net.length) (i j : Nat) (hi : i < net[k].length) (hj : j < net[k].length), i < j → net[k][i].1 = fr → t ≤ net[k][i].2.2 → 0 ≤ net[k][j].1 ∧ net[k][j].1 < n ∧ ∃ x, a[net[k][j].1.toNat]? = some x ∧ 0 ≤ x ∧ x ≤ net[k][j].2.1 from fun k hk i j hi hj hij hf ht => by
    obtain ⟨hnet, _⟩ := postOk_and HOK.out
    have h1 := stopsB_one (netB_mem hnet (List.getElem_mem hk)) (List.getElem?_eq_getElem hj)
    have h2 := tab_one HOK.out (List.getElem_mem hk) hij (List.getElem?_eq_getElem hi) (List.getElem?_eq_getElem hj) hf ht
    have hl : (net[k][j].1).toNat < a.length := by have := HTL.out; omega
    refine ⟨h1.1, h1.2.1, a[(net[k][j].1).toNat], List.getElem?_eq_getElem hl, ?_⟩
    have e := tg_get (T := a) h1.1 hl
    rw [← e, HT.out]
    exact h2)
  have RA := Rd.of_own o_a
  have hbW := hb.size
  have HLR := Lib.hid r_N.2.1
  have hln := r_N.1
  clear o_a
  go_wp2_with fail
  go_loopw [12] (fun i wr => ∃ k : Nat, (k : Int) ≤ (net.length : Int) ∧ i = .int .i64 k ∧ Below w4.heap.size w4 wr) (fun i _ => ((net.length : Int) - intOf i).toNat)
  case atStart => exact ⟨0, by omega, rfl, Below.refl _ _⟩
  case round =>
    obtain ⟨k, hk, rfl, hb2⟩ := hrel
    have rN := r_N.below hb2
    have RAr := RA.below hb2 (Nat.le_refl _)
    have hbs := hb2.size
    by_cases hlt : (k : Int) < (net.length : Int)
    · have hkl : k < net.length := by omega
      obtain ⟨b, off, B, cc, rfl, _, hbw, c0, hcc, hrk⟩ := rN.2.2 k hkl
      have hlk : net[k].length ≤ 100 := HLR.out k hkl
      have HO := Lib.hid (HONE.out k hkl)
      generalize net[k] = l at *
      have HRK := Lib.hid hrk
      clear hrk HONE
      go_wp2_with fail
      refine (iStopsAt n _ _ _ _ l fr _ (by omega) HRK.out (Nat.le_refl _)).mono ?_
      rintro e w1' ⟨rfl, hb3⟩
      have HB3 := Lib.hid (hb2.trans (hb3.mono hbs))
      have c1 := (hb3.cell (p := ⟨b, off + k, none⟩) hbw).trans c0
      have HRK1 := Lib.hid (HRK.out.below hb3 (Nat.le_refl _))
      have HRA1 := Lib.hid (RAr.below hb3 hbs)
      have HFI := Lib.hid (fun h => stopsAt_nn (n := n) (l := l) (t := fr) h)
      generalize stopsAt n l fr = i at *
      clear hb3 c0 RAr rN
      by_cases hi : 0 ≤ i
      · obtain ⟨_, j, hj, hij, hjf⟩ := HFI.out hi
        subst hij
        obtain ⟨bl, ol, hB, _, _, _, _, c4⟩ := HRK1.out.at3 j hj
        subst hB
        have hji : (j : Int) < (l.length : Int) := by omega
        have hj0 : (0 : Int) ≤ (j : Int) := by omega
        obtain ⟨u, hu⟩ : ∃ u, u = l[j].2.2 := ⟨_, rfl⟩
        rw [← hu] at c4
        have HU := Lib.hid hu
        have HJF := Lib.hid hjf
        clear hi hu hjf HFI
        by_cases hs : t ≤ u
        · have HO2 := Lib.hid (fun (m : Nat) (hm : m < l.length) (hjm : j < m) => HO.out j m hj hm hjm HJF.out (by rw [← HU.out]; exact hs))
          have hs2 : decide (u < t) = false := decide_eq_false (by omega)
          have wj : IntKind.i64.wrap ((j : Int) + 1) = (j : Int) + 1 := IntWalk.i64_in _ (by omega)
          clear hs HO
          go_wp2_with fail
          go_loop [14] (fun i => ∃ m : Nat, j < m ∧ m ≤ l.length ∧ i = .int .i64 m) (fun i => l.length - (intOf i).toNat)
          case atStart => exact ⟨j + 1, by omega, by omega, by go_num⟩
          case round =>
            obtain ⟨m, hjm, hml, rfl⟩ := hrel
            by_cases hm : m < l.length
            · obtain ⟨v0, v1, x, hx, hx0, hx1⟩ := HO2.out m hm hjm
              obtain ⟨bl', ol', hB, _, _, d0, d1, _⟩ := HRK1.out.at3 m hm
              injection hB with hB; injection hB with e1 e2; subst e1 e2
              generalize l[m].1 = v at *
              generalize l[m].2.1 = y at *
              have hvl : v.toNat < a.length := by omega
              obtain ⟨bT, oT, rfl, hb0', hbT, cT⟩ := HRA1.out.at1 v.toNat hvl
              rw [List.getElem?_eq_getElem hvl] at hx
              injection hx with hx
              rw [hx] at cT
              have hva : v < (a.length : Int) := by omega
              have hm0 : (0 : Int) ≤ (m : Int) := by omega
              have hm1 : (m : Int) < (l.length : Int) := by omega
              have hx3 : decide (x < 0) = false := decide_eq_false (by omega)
              have hx4 : decide (y < x) = false := decide_eq_false (by omega)
              clear hx
              go_wp2_with fail
              go_round
              case rel => exact ⟨m + 1, by omega, by omega, by go_num⟩
              case measure => simp [intOf]; omega
            · have hm1 : ¬ (m : Int) < (l.length : Int) := by omega
              go_wp2_with fail
              go_roundw
              case rel => exact ⟨k + 1, by omega, by go_num, HB3.out⟩
              case measure => simp [intOf]; omega
        · have hs2 : u < t := by omega
          clear hs HO
          go_wp2_with fail
          go_roundw
          case rel => exact ⟨k + 1, by omega, by go_num, HB3.out⟩
          case measure => simp [intOf]; omega
      · have hi2 : i < 0 := by omega
        clear hi HFI
        go_wp2_with fail
        go_roundw
        case rel => exact ⟨k + 1, by omega, by go_num, HB3.out⟩
        case measure => simp [intOf]; omega
    · have hbb := hb.trans (hb2.mono hbW)
      go_wp2_with fail
      go_ret
      exact ⟨rfl, hbb⟩

set_option maxRecDepth 100000 in
theorem postOne_lifted (os : Os) (started : os.Started) (H : Type) (enc : TypeId × Value → H) :
    ReturnsInHanded {} Try.checked os 9 .any (Rows.fnPostOneSpec.pre6 enc Try.prog Try.f9 Rows.fnPostOneRow.domain false) (Rows.fnPostOneSpec.post enc Try.prog Try.f9 false true false false) := by
  refine returnsInHanded_of_change (C := Try.checked) prog_own started (by kernel_rfl) Try.func9
    (ChangeSpec.witness6 (enc := enc) (C := Try.checked) false ⟨#[], #[.slice none 0 0], []⟩ 8 (by kernel_rfl) (by kernel_rfl) (by kernel_rfl) (by kernel_rfl)) ?_
  intro W base args ds gs before hval0 hW hcnd _
  have hval : ∀ (j : Nat) t v, Try.f9.params[j]? = some t → args[j]? = some v → Value.okWide Try.prog W .any base t v := hval0
  have hW' := hW
  obtain ⟨p, q, hA0, hV, rfl, hfz, hnd⟩ := hW
  have hA : DataW.TrodAll enc Try.prog W 0 (fun _ => true) true Try.f9.params.toList args.toList ds p := hA0
  rw [Try.params9] at hA hval
  obtain ⟨v0, vs0, d0, ds0, p0, q0, hargs, rfl, rfl, h0, r0⟩ := trodAll_cons hA
  obtain ⟨rfl, rfl, rfl⟩ := trodAll_nil r0
  obtain rfl : args = #[v0] := by cases args; simp_all
  obtain ⟨rfl, rfl⟩ := trodVars_none hV
  obtain ⟨a0, len0, cap0, rfl⟩ := okWide_slice Try.underlying22 (hval 0 22 v0 rfl rfl)
  have k0 := h0
  have lt0 : ∀ x ∈ p0, x.block < W.heap.size := by obtain ⟨m, hm⟩ := k0; exact DataW.trod_lt m _ _ _ hm
  obtain ⟨fuel0, hf0⟩ := h0
  obtain ⟨bs0, hm0, hb0, hc0⟩ := open_b1 Try.underlying22 Try.underlying5 (by kernel_rfl) hf0
  clear hA0 hval0
  refine (postOne_any a0 cap0 len0 bs0 W hm0 hb0 hc0).mono fun e W' ⟨he, bel⟩ => ?_
  subst he
  exact ⟨_, rfl, _, _, _, [], _, [], hW', trodAll_mk1 (shut_bool Try.underlying4 _), (trodAll_cons_mk (Below.trod prog_laidOut (by kernel_rfl) (of_decide_eq_true (by kernel_rfl)) k0 bel lt0) trodAll_mk0), rfl, bel.frame _, fun h => by cases h⟩

theorem postOne_holds : Rows.FnPostOneSaid :=
  OpenClaim.holds_of_wide 9 Try.f9 rfl rfl rfl rfl rfl rfl rfl ⟨rfl, rfl, rfl, rfl, rfl⟩ rfl rfl rfl rfl rfl (by kernel_rfl) Try.func9 (by kernel_rfl)
    (of_decide_eq_true (by kernel_rfl)) (by unfold Func.isWrapper; first | (rw [if_pos (by decide +kernel)]; kernel_rfl) | (rw [if_neg (by decide +kernel)]; exact ⟨rfl, rfl⟩))
    (fun os started H enc _ => postOne_lifted os started H enc)

end Go.Proofs.Ytdiichfdffhdaaa

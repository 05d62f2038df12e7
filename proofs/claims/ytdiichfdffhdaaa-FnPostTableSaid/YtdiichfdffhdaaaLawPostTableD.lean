/-
  For every input the law FnPostTable returns true: towns are reached one after the other.
-/
import Derived.Test.YtdiichfdffhdaaaPostLaws
import Derived.Test.YtdiichfdffhdaaaNetArgs
import Derived.Test.YtdiichfdffhdaaaInts
import Derived.Test.YtdiichfdffhdaaaClass
namespace Go.Proofs.Ytdiichfdffhdaaa
open Go.ChangeShapes Go.WideShapes Go.ChangeAt Go.RowKit

set_option maxRecDepth 100000 in
set_option maxHeartbeats 4000000 in
theorem postTable_any (A0 : Option Addr) (c0 n0 : Nat) (bs0 : Nat → Int) (A1 : Option Addr) (c1 n1 : Nat) (bs1 : Nat → Int) (w : World) (hm0 : n0 ≤ maxLen) (hb0 : Byt w w.heap.size A0 n0 bs0) (hc0 : n0 ≤ c0) (hm1 : n1 ≤ maxLen) (hb1 : Byt w w.heap.size A1 n1 bs1) (hc1 : n1 ≤ c1) :
    Calls Try.prog 7 #[.slice A0 n0 c0, .slice A1 n1 c1] w fun e w' => e = .returned (.bool true) ∧ Below w.heap.size w w' := by
  unfold maxLen at hm0 hm1
  by_cases hbig0 : (1048576 : Int) < n0
  · go_enter Try.func7, Try.ntmps7
    go_wp2_with fail
    go_ret
    exact ⟨rfl, Below.refl _ _⟩
  by_cases hbig1 : (1048576 : Int) < n1
  · go_enter Try.func7, Try.ntmps7
    go_wp2_with fail
    go_ret
    exact ⟨rfl, Below.refl _ _⟩
  have hn0 : n0 ≤ 1048576 := by omega
  have hni0 : (n0 : Int) ≤ 1048576 := by omega
  have hn1 : n1 ≤ 1048576 := by omega
  have hni1 : (n1 : Int) ≤ 1048576 := by omega
  clear hm0 hm1
  go_enter Try.func7, Try.ntmps7
  go_wp2_with fail
  refine (drawTable_any A0 n0 c0 bs0 _ hb0 hn0 hc0).mono ?_
  rintro e w1 ⟨n, A, c, fr, t, ch, net, rfl, hN1, hN2, ht, hch, r_N, hb⟩
  obtain ⟨ht0, ht1⟩ := ht
  obtain ⟨hch0, hch1⟩ := hch
  obtain ⟨a, ha⟩ : ∃ a, postTab n net fr t ch = a := ⟨_, rfl⟩
  have HA := Lib.hid ha
  have hal : a.length ≤ 8 := by rw [← ha]; exact postTab_len.1
  clear ha
  cases hok : postOk n net fr t ch
  · have HOK := Lib.hid hok
    clear hok
    go_wp2_with fail
    refine (iPostTable_any n _ _ _ net fr t ch _ (Nat.le_trans r_N.size (by omega)) r_N.2.2 (Nat.le_refl _)).mono ?_
    rintro e w2 ⟨P2, d2, rfl, o_a, hs⟩
    replace r_N := r_N.below hs
    replace hb := hb.trans (hs.mono hb.size)
    clear hs
    rw [HA.out] at o_a ⊢
    rw [HOK.out]
    go_wp2_with fail
    refine (sPostTable_any n _ _ _ net fr t ch _ (Nat.le_trans r_N.size (by omega)) r_N.2.2 (Nat.le_refl _)).mono ?_
    rintro e w3 ⟨P3, d3, rfl, o_a2, hs⟩
    replace r_N := r_N.below hs
    replace o_a := own_below o_a hs
    replace hb := hb.trans (hs.mono hb.size)
    clear hs
    rw [HA.out] at o_a2 ⊢
    rw [HOK.out]
    go_wp2_with fail
    refine (sameInts_any _ _ _ _ _ _ _ _ a a _ (by omega) (Rd.of_own o_a) (Rd.of_own o_a2)).mono ?_
    rintro e w4 ⟨rfl, hs⟩
    replace r_N := r_N.below hs
    replace o_a := own_below o_a hs
    replace o_a2 := own_below o_a2 hs
    replace hb := hb.trans (hs.mono hb.size)
    clear hs
    rw [show decide (a = a) = true from decide_eq_true rfl]
    go_wp2_with fail
    refine (sameInts_any _ _ _ _ _ _ _ _ a a _ (by omega) (Rd.of_own o_a) (Rd.of_own o_a2)).mono ?_
    rintro e w5 ⟨rfl, hs⟩
    replace r_N := r_N.below hs
    replace o_a := own_below o_a hs
    replace o_a2 := own_below o_a2 hs
    replace hb := hb.trans (hs.mono hb.size)
    clear hs
    rw [show decide (a = a) = true from decide_eq_true rfl]
    go_wp2_with fail
    go_ret
    exact ⟨rfl, by (repeat (first | exact Below.refl _ _ | assumption | apply below_alloc | apply below_drewN | apply Below.drew | refine Below.setCell ?_ (by simp; try omega) _))⟩
  have HOK := Lib.hid hok
  clear hok
  go_wp2_with fail
  refine (iPostTable_any n _ _ _ net fr t ch _ (Nat.le_trans r_N.size (by omega)) r_N.2.2 (Nat.le_refl _)).mono ?_
  rintro e w2 ⟨P2, d2, rfl, o_a, hs⟩
  replace r_N := r_N.below hs
  replace hb := hb.trans (hs.mono hb.size)
  clear hs
  rw [HA.out] at o_a ⊢
  rw [HOK.out]
  go_wp2_with fail
  refine (sPostTable_any n _ _ _ net fr t ch _ (Nat.le_trans r_N.size (by omega)) r_N.2.2 (Nat.le_refl _)).mono ?_
  rintro e w3 ⟨P3, d3, rfl, o_a2, hs⟩
  replace r_N := r_N.below hs
  replace o_a := own_below o_a hs
  replace hb := hb.trans (hs.mono hb.size)
  clear hs
  rw [HA.out] at o_a2 ⊢
  rw [HOK.out]
  go_wp2_with fail
  refine (sameInts_any _ _ _ _ _ _ _ _ a a _ (by omega) (Rd.of_own o_a) (Rd.of_own o_a2)).mono ?_
  rintro e w4 ⟨rfl, hs⟩
  replace r_N := r_N.below hs
  replace o_a := own_below o_a hs
  replace o_a2 := own_below o_a2 hs
  replace hb := hb.trans (hs.mono hb.size)
  clear hs
  rw [show decide (a = a) = true from decide_eq_true rfl]
  clear o_a2
  have HT := Lib.hid (show a = tableL n net fr t ch by rw [← HA.out, postTab, if_pos HOK.out])
  have HTL := Lib.hid (show a.length = n.toNat by rw [HT.out]; exact (tab_ok HOK.out).1)
  have hTn1 : (a.length : Int) ≤ n := by have := HTL.out; omega
  have hTn2 : n ≤ (a.length : Int) := by have := HTL.out; omega
  have NQ : ((a.length : Int) != n) = false := by rw [bne_eq_false_iff_eq]; omega
  obtain ⟨z, hz⟩ : ∃ z, z = (n1 : Int) % 20 := ⟨_, rfl⟩
  have hz0 : 0 ≤ z ∧ z < 20 := by omega
  have hdiv : Int.tmod (n1 : Int) 20 = z := by rw [hz, Int.tmod_eq_emod_of_nonneg (by omega)]
  obtain ⟨hz0, hz1⟩ := hz0
  clear hz
  have w1' : IntKind.i64.wrap (t + 1) = t + 1 := IntWalk.i64_in _ (by omega)
  have w2' : IntKind.i64.wrap (t + 1 + z) = t + 1 + z := IntWalk.i64_in _ (by omega)
  have w3' : IntKind.i64.wrap z = z := IntWalk.i64_in _ (by omega)
  obtain ⟨b, hb⟩ : ∃ b, b = postTab n net fr (t + 1 + z) ch := ⟨_, rfl⟩
  have Hb := Lib.hid hb
  clear hb
  obtain ⟨q, hq⟩ : ∃ q, q = postOk n net fr (t + 1 + z) ch := ⟨_, rfl⟩
  have Hq := Lib.hid hq
  clear hq
  go_wp2_with fail
  refine (iPostTable_any n _ _ _ net fr (t + 1 + z) ch _ (Nat.le_trans r_N.size (by omega)) r_N.2.2 (Nat.le_refl _)).mono ?_
  rintro e w5 ⟨P5, d5, rfl, o_b, hs⟩
  replace r_N := r_N.below hs
  replace o_a := own_below o_a hs
  replace hb := hb.trans (hs.mono hb.size)
  clear hs
  rw [← Hb.out] at o_b ⊢
  rw [← Hq.out]
  have HARR := Lib.hid (show ∀ (k : Nat) (x : Int), (k : Int) < n → a[k]? = some x → ∀ W, Below w5.heap.size w5 W → Calls Try.prog 17 #[.int .i64 n, .slice A net.length c, .int .i64 fr, .int .i64 k, .int .i64 t, .int .i64 ch] W (fun e W' => e = .returned (.int .i64 x) ∧ Below W.heap.size W W') from fun k x hk hx W hW => by
    have hb' := r_N.below hW
    have e : postArr n net fr (k : Int) t ch = x := by
      unfold postArr
      rw [if_pos (by simp only [Bool.and_eq_true, inB, decide_eq_true_eq]; exact ⟨HOK.out, by omega⟩), ← HT.out]
      obtain ⟨hl, hx⟩ := List.getElem?_eq_some_iff.1 hx
      have e := tg_get (T := a) (v := (k : Int)) (by omega) (by simpa using hl)
      simp only [Int.toNat_natCast] at e
      rw [e, hx]
    rw [← e]
    exact iPostArrive_any n _ _ _ net fr (k : Int) t ch W (Nat.le_trans hb'.size (by omega)) hb'.2.2 (Nat.le_refl _))
  have HGE := Lib.hid (show ∀ (k : Nat) (x : Int), (k : Int) < n → a[k]? = some x → 0 ≤ x → t ≤ x from fun k x hk hx h0 => by
    obtain ⟨hl, hx⟩ := List.getElem?_eq_some_iff.1 hx
    have e := tg_get (T := a) (v := (k : Int)) (by omega) (by simpa using hl)
    simp only [Int.toNat_natCast] at e
    rw [hx, HT.out] at e
    rw [← e] at h0 ⊢
    exact (tab_ge HOK.out (by omega) hk h0).1)
  have HLT := Lib.hid (show q = true → b.length = n.toNat ∧ ∀ (k : Nat) (x y : Int), (k : Int) < n → a[k]? = some x → b[k]? = some y → 0 ≤ y → 0 ≤ x ∧ x ≤ y from fun hq => by
    have hq' : postOk n net fr (t + 1 + z) ch = true := by rw [← Hq.out]; exact hq
    have hbT : b = tableL n net fr (t + 1 + z) ch := by rw [Hb.out, postTab, if_pos hq']
    refine ⟨by rw [hbT]; exact (tab_ok hq').1, fun k x y hk hx hy h0 => ?_⟩
    obtain ⟨hl, hx⟩ := List.getElem?_eq_some_iff.1 hx
    obtain ⟨hl', hy⟩ := List.getElem?_eq_some_iff.1 hy
    have e := tg_get (T := a) (v := (k : Int)) (by omega) (by simpa using hl)
    have e' := tg_get (T := b) (v := (k : Int)) (by omega) (by simpa using hl')
    simp only [Int.toNat_natCast] at e e'
    rw [hx, HT.out] at e
    rw [hy, hbT] at e'
    rw [← e'] at h0 ⊢
    rw [← e]
    exact tab_mono hq' HOK.out (fun _ h => h) (by omega) (Int.le_refl _) (by omega) hk h0)
  have HFR := Lib.hid (show a[fr.toNat]? = some t ∧ 0 ≤ fr ∧ fr < n from by
    obtain ⟨_, ⟨hf0, hf1⟩, _, _, _⟩ := postOk_and HOK.out
    have hl : fr.toNat < a.length := by have := HTL.out; omega
    have e := tg_get (T := a) hf0 hl
    have e2 : tg a fr = t := by rw [HT.out]; exact tab_from HOK.out
    refine ⟨?_, hf0, hf1⟩
    rw [List.getElem?_eq_getElem hl, ← e, e2])
  have RA := Rd.of_own o_a
  have RB := Rd.of_own o_b
  have hbW := hb.size
  clear w1' w2' w3' hdiv o_a o_b r_N
  go_wp2_with fail
  go_loopw [16] (fun i wr => ∃ k : Nat, (k : Int) ≤ n ∧ i = .int .i64 k ∧ Below w5.heap.size w5 wr) (fun i _ => (n - intOf i).toNat)
  case atStart => exact ⟨0, by omega, rfl, Below.refl _ _⟩
  case round =>
    obtain ⟨k, hk, rfl, hb2⟩ := hrel
    have hb2s := hb2.size
    have RAr := RA.below hb2 (Nat.le_refl _)
    have RBr := RB.below hb2 (Nat.le_refl _)
    by_cases hlt : (k : Int) < n
    · have hkT : k < a.length := by omega
      have hkT2 : (k : Int) < (a.length : Int) := by omega
      have hk0 : (0 : Int) ≤ (k : Int) := by omega
      obtain ⟨bT, oT, rfl, hb0', hbT, cT⟩ := RAr.at1 k hkT
      have hxa : a[k]? = some a[k] := List.getElem?_eq_getElem hkT
      generalize a[k] = x at *
      have HC := Lib.hid (HARR.out k x hlt hxa)
      have hge := HGE.out k x hlt hxa
      have hcA : ∀ m : WB w5, m.w.cell? ⟨bT, oT + k, none⟩ = some (.int .i64 x) := fun m => cell_two hb2 m.h hbT cT
      have hbTr : bT < wr.heap.size := by omega
      have HL := Lib.hid (HLT.out)
      have xx : (x != x) = false := by simp
      have XA := Lib.hid hxa
      clear hxa HARR HGE
      cases q
      · clear HL
        by_cases hx : 0 ≤ x
        · have hx1 := hge hx
          have hx2 : decide (x < t) = false := decide_eq_false (by omega)
          have hx3 : decide (0 ≤ x) = true := decide_eq_true hx
          have hx4 : decide (x < 0) = false := decide_eq_false (by omega)
          clear hge
          go_wp2_with fail
          refine wp_region_below (W := w5) (by kernel_rfl) (by kernel_rfl) hb2 ?_
          repeat (go_big_quiet_step ((go_at_call 17; exact Calls.below_of (HC.out _ (WB.h _)))))
          refine wpQuiet_nil ?_
          intro _ hw'
          obtain ⟨⟨wq, hb3⟩, rfl⟩ := hw'
          clear hb2
          go_wp2_with fail
          go_roundw
          case rel => exact ⟨k + 1, by omega, by go_num, hb3⟩
          case measure => simp [intOf]; omega
        · have hx3 : decide (0 ≤ x) = false := decide_eq_false hx
          have hx4 : decide (x < 0) = true := decide_eq_true (by omega)
          have hx5 : x < 0 := by omega
          clear hge hx
          go_wp2_with fail
          refine wp_region_below (W := w5) (by kernel_rfl) (by kernel_rfl) hb2 ?_
          repeat (go_big_quiet_step ((go_at_call 17; exact Calls.below_of (HC.out _ (WB.h _)))))
          refine wpQuiet_nil ?_
          intro _ hw'
          obtain ⟨⟨wq, hb3⟩, rfl⟩ := hw'
          clear hb2
          go_wp2_with fail
          go_roundw
          case rel => exact ⟨k + 1, by omega, by go_num, hb3⟩
          case measure => simp [intOf]; omega
      · obtain ⟨hbl, hcmp⟩ := HL.out rfl
        have hkU : k < b.length := by omega
        obtain ⟨bU, oU, rfl, hb0'', hbU, cU⟩ := RBr.at1 k hkU
        have hcmp := hcmp k x b[k] hlt XA.out (List.getElem?_eq_getElem hkU)
        have hkU2 : (k : Int) < (b.length : Int) := by omega
        have hbUr : bU < wr.heap.size := by omega
        generalize b[k] = y at *
        have hcU : ∀ m : WB w5, m.w.cell? ⟨bU, oU + k, none⟩ = some (.int .i64 y) := fun m => cell_two hb2 m.h hbU cU
        clear HL hbl
        by_cases hy : 0 ≤ y
        · obtain ⟨hy1, hy2⟩ := hcmp hy
          have hx1 := hge hy1
          have hx2 : decide (x < t) = false := decide_eq_false (by omega)
          have hx3 : decide (0 ≤ x) = true := decide_eq_true hy1
          have hx4 : decide (x < 0) = false := decide_eq_false (by omega)
          have hy3 : decide (0 ≤ y) = true := decide_eq_true hy
          have hy4 : decide (y < x) = false := decide_eq_false (by omega)
          clear hge hcmp
          go_wp2_with fail
          refine wp_region_below (W := w5) (by kernel_rfl) (by kernel_rfl) hb2 ?_
          repeat (go_big_quiet_step ((go_at_call 17; exact Calls.below_of (HC.out _ (WB.h _)))))
          refine wpQuiet_nil ?_
          intro _ hw'
          obtain ⟨⟨wq, hb3⟩, rfl⟩ := hw'
          clear hb2
          go_wp2_with fail
          go_roundw
          case rel => exact ⟨k + 1, by omega, by go_num, hb3⟩
          case measure => simp [intOf]; omega
        · have hy3 : decide (0 ≤ y) = false := decide_eq_false hy
          have hy5 : y < 0 := by omega
          clear hy hcmp
          by_cases hx : 0 ≤ x
          · have hx1 := hge hx
            have hx2 : decide (x < t) = false := decide_eq_false (by omega)
            have hx3 : decide (0 ≤ x) = true := decide_eq_true hx
            have hx4 : decide (x < 0) = false := decide_eq_false (by omega)
            clear hge
            go_wp2_with fail
            refine wp_region_below (W := w5) (by kernel_rfl) (by kernel_rfl) hb2 ?_
            repeat (go_big_quiet_step ((go_at_call 17; exact Calls.below_of (HC.out _ (WB.h _)))))
            refine wpQuiet_nil ?_
            intro _ hw'
            obtain ⟨⟨wq, hb3⟩, rfl⟩ := hw'
            clear hb2
            go_wp2_with fail
            go_roundw
            case rel => exact ⟨k + 1, by omega, by go_num, hb3⟩
            case measure => simp [intOf]; omega
          · have hx3 : decide (0 ≤ x) = false := decide_eq_false hx
            have hx4 : decide (x < 0) = true := decide_eq_true (by omega)
            have hx5 : x < 0 := by omega
            clear hge hx
            go_wp2_with fail
            refine wp_region_below (W := w5) (by kernel_rfl) (by kernel_rfl) hb2 ?_
            repeat (go_big_quiet_step ((go_at_call 17; exact Calls.below_of (HC.out _ (WB.h _)))))
            refine wpQuiet_nil ?_
            intro _ hw'
            obtain ⟨⟨wq, hb3⟩, rfl⟩ := hw'
            clear hb2
            go_wp2_with fail
            go_roundw
            case rel => exact ⟨k + 1, by omega, by go_num, hb3⟩
            case measure => simp [intOf]; omega
    · obtain ⟨hfa, hf0, hf1⟩ := HFR.out
      have hfl : fr.toNat < a.length := by omega
      obtain ⟨bT, oT, rfl, hb0', hbT, cT⟩ := RAr.at1 fr.toNat hfl
      have hft : fr < (a.length : Int) := by omega
      rw [List.getElem?_eq_getElem hfl] at hfa
      injection hfa with hfa
      rw [hfa] at cT
      have tt : (t == t) = true := by simp
      have hbb := hb.trans (hb2.mono hbW)
      clear hfa
      go_wp2_with fail
      go_ret
      exact ⟨rfl, hbb⟩

set_option maxRecDepth 100000 in
theorem postTable_lifted (os : Os) (started : os.Started) (H : Type) (enc : TypeId × Value → H) :
    ReturnsInHanded {} Try.checked os 7 .any (Rows.fnPostTableSpec.pre6 enc Try.prog Try.f7 Rows.fnPostTableRow.domain false) (Rows.fnPostTableSpec.post enc Try.prog Try.f7 false true false false) := by
  refine returnsInHanded_of_change (C := Try.checked) prog_own started (by kernel_rfl) Try.func7
    (ChangeSpec.witness6 (enc := enc) (C := Try.checked) false ⟨#[], #[.slice none 0 0, .slice none 0 0], []⟩ 8 (by kernel_rfl) (by kernel_rfl) (by kernel_rfl) (by kernel_rfl)) ?_
  intro W base args ds gs before hval0 hW hcnd _
  have hval : ∀ (j : Nat) t v, Try.f7.params[j]? = some t → args[j]? = some v → Value.okWide Try.prog W .any base t v := hval0
  have hW' := hW
  obtain ⟨p, q, hA0, hV, rfl, hfz, hnd⟩ := hW
  have hA : DataW.TrodAll enc Try.prog W 0 (fun _ => true) true Try.f7.params.toList args.toList ds p := hA0
  rw [Try.params7] at hA hval
  obtain ⟨v0, vs0, d0, ds0, p0, q0, hargs, rfl, rfl, h0, r0⟩ := trodAll_cons hA
  obtain ⟨v1, vs1, d1, ds1, p1, q1, rfl, rfl, rfl, h1, r1⟩ := trodAll_cons r0
  obtain ⟨rfl, rfl, rfl⟩ := trodAll_nil r1
  obtain rfl : args = #[v0, v1] := by cases args; simp_all
  obtain ⟨rfl, rfl⟩ := trodVars_none hV
  obtain ⟨a0, len0, cap0, rfl⟩ := okWide_slice Try.underlying22 (hval 0 22 v0 rfl rfl)
  have k0 := h0
  have lt0 : ∀ x ∈ p0, x.block < W.heap.size := by obtain ⟨m, hm⟩ := k0; exact DataW.trod_lt m _ _ _ hm
  obtain ⟨fuel0, hf0⟩ := h0
  obtain ⟨bs0, hm0, hb0, hc0⟩ := open_b1 Try.underlying22 Try.underlying5 (by kernel_rfl) hf0
  obtain ⟨a1, len1, cap1, rfl⟩ := okWide_slice Try.underlying22 (hval 1 22 v1 rfl rfl)
  have k1 := h1
  have lt1 : ∀ x ∈ p1, x.block < W.heap.size := by obtain ⟨m, hm⟩ := k1; exact DataW.trod_lt m _ _ _ hm
  obtain ⟨fuel1, hf1⟩ := h1
  obtain ⟨bs1, hm1, hb1, hc1⟩ := open_b1 Try.underlying22 Try.underlying5 (by kernel_rfl) hf1
  clear hA0 hval0
  refine (postTable_any a0 cap0 len0 bs0 a1 cap1 len1 bs1 W hm0 hb0 hc0 hm1 hb1 hc1).mono fun e W' ⟨he, bel⟩ => ?_
  subst he
  exact ⟨_, rfl, _, _, _, [], _, [], hW', trodAll_mk1 (shut_bool Try.underlying4 _), (trodAll_cons_mk (Below.trod prog_laidOut (by kernel_rfl) (of_decide_eq_true (by kernel_rfl)) k0 bel lt0) (trodAll_cons_mk (Below.trod prog_laidOut (by kernel_rfl) (of_decide_eq_true (by kernel_rfl)) k1 bel lt1) trodAll_mk0)), rfl, bel.frame _, fun h => by cases h⟩

theorem postTable_holds : Rows.FnPostTableSaid :=
  OpenClaim.holds_of_wide 7 Try.f7 rfl rfl rfl rfl rfl rfl rfl ⟨rfl, rfl, rfl, rfl, rfl⟩ rfl rfl rfl rfl rfl (by kernel_rfl) Try.func7 (by kernel_rfl)
    (of_decide_eq_true (by kernel_rfl)) (by unfold Func.isWrapper; first | (rw [if_pos (by decide +kernel)]; kernel_rfl) | (rw [if_neg (by decide +kernel)]; exact ⟨rfl, rfl⟩))
    (fun os started H enc _ => postTable_lifted os started H enc)

end Go.Proofs.Ytdiichfdffhdaaa

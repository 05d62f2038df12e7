/-
  For every input the law FnLateSlack returns true: slack is what stops have beyond the least.
-/
import Derived.Test.YteceohdchknbbaaSlackLaws
import Derived.Test.YteceohdchknbbaaLawFns
import Derived.Test.YteceohdchknbbaaLateArgs
import Derived.Test.YteceohdchknbbaaLate
namespace Go.Proofs.Yteceohdchknbbaa
open Go.ChangeShapes Go.WideShapes Go.ChangeAt Go.RowKit

set_option maxRecDepth 100000 in
set_option maxHeartbeats 4000000 in
theorem lateSlack_any (A0 : Option Addr) (c0 n0 : Nat) (bs0 : Nat → Int) (w : World) (hm0 : n0 ≤ maxLen) (hb0 : Byt w w.heap.size A0 n0 bs0) (hc0 : n0 ≤ c0) :
    Calls Try.prog 3 #[.slice A0 n0 c0] w fun e w' => e = .returned (.bool true) ∧ Below w.heap.size w w' := by
  unfold maxLen at hm0
  by_cases hbig0 : (1048576 : Int) < n0
  · go_enter Try.func3, Try.ntmps3
    go_wp2_with fail
    go_ret
    exact ⟨rfl, Below.refl _ _⟩
  have hn0 : n0 ≤ 1048576 := by omega
  have hni0 : (n0 : Int) ≤ 1048576 := by omega
  clear hm0
  go_enter Try.func3, Try.ntmps3
  go_wp2_with fail
  refine (drawLateSlack_any A0 n0 c0 bs0 _ hb0 hn0 hc0).mono ?_
  rintro e w1 ⟨n, A, c, l, least, rfl, hl, o_l, hb⟩
  have hcap := own_cap o_l
  obtain ⟨a, ha⟩ : ∃ a, slackL n l least = a := ⟨_, rfl⟩
  have HA := Lib.hid ha
  have hal : a.length ≤ 100 := by
    rw [← ha]; unfold slackL; split
    · rw [slacks_length]; exact hl
    · simp
  clear ha
  cases hok : slackOk n l least
  · have HOK := Lib.hid hok
    clear hok
    go_wp2_with fail
    refine (iSlack_any n _ _ _ _ l least _ (by omega) (Rd.of_own o_l) (Nat.le_refl _) hcap).mono ?_
    rintro e w2 ⟨P2, d2, rfl, o_a, hs⟩
    replace o_l := own_below o_l hs
    replace hb := hb.trans (hs.mono hb.size)
    clear hs
    rw [HA.out] at o_a ⊢
    rw [HOK.out]
    go_wp2_with fail
    refine (sSlack_any n _ _ _ _ l least _ (by omega) (Rd.of_own o_l) (Nat.le_refl _)).mono ?_
    rintro e w3 ⟨P3, d3, rfl, o_a2, hs⟩
    replace o_l := own_below o_l hs
    replace o_a := own_below o_a hs
    replace hb := hb.trans (hs.mono hb.size)
    clear hs
    rw [HA.out] at o_a2 ⊢
    rw [HOK.out]
    go_wp2_with fail
    refine (sameInts_any _ _ _ _ _ _ _ _ a a _ (by omega) (Rd.of_own o_a) (Rd.of_own o_a2)).mono ?_
    rintro e w4 ⟨rfl, hs⟩
    replace o_l := own_below o_l hs
    replace o_a := own_below o_a hs
    replace o_a2 := own_below o_a2 hs
    replace hb := hb.trans (hs.mono hb.size)
    clear hs
    rw [show decide (a = a) = true from decide_eq_true rfl]
    go_wp2_with fail
    refine (sameInts_any _ _ _ _ _ _ _ _ a a _ (by omega) (Rd.of_own o_a) (Rd.of_own o_a2)).mono ?_
    rintro e w5 ⟨rfl, hs⟩
    replace o_l := own_below o_l hs
    replace o_a := own_below o_a hs
    replace o_a2 := own_below o_a2 hs
    replace hb := hb.trans (hs.mono hb.size)
    clear hs
    rw [show decide (a = a) = true from decide_eq_true rfl]
    go_wp2_with fail
    go_ret
    exact ⟨rfl, by (repeat (first | exact Below.refl _ _ | assumption | apply below_alloc | apply below_drewN | apply Below.drew | refine Below.setCell ?_ (by simp; try omega) _))⟩
  have HOK := Lib.hid hok
  clear hok
  go_wp2_with fail
  refine (iSlack_any n _ _ _ _ l least _ (by omega) (Rd.of_own o_l) (Nat.le_refl _) hcap).mono ?_
  rintro e w2 ⟨P2, d2, rfl, o_a, hs⟩
  replace o_l := own_below o_l hs
  replace hb := hb.trans (hs.mono hb.size)
  clear hs
  rw [HA.out] at o_a ⊢
  rw [HOK.out]
  go_wp2_with fail
  refine (sSlack_any n _ _ _ _ l least _ (by omega) (Rd.of_own o_l) (Nat.le_refl _)).mono ?_
  rintro e w3 ⟨P3, d3, rfl, o_a2, hs⟩
  replace o_l := own_below o_l hs
  replace o_a := own_below o_a hs
  replace hb := hb.trans (hs.mono hb.size)
  clear hs
  rw [HA.out] at o_a2 ⊢
  rw [HOK.out]
  go_wp2_with fail
  refine (sameInts_any _ _ _ _ _ _ _ _ a a _ (by omega) (Rd.of_own o_a) (Rd.of_own o_a2)).mono ?_
  rintro e w4 ⟨rfl, hs⟩
  replace o_l := own_below o_l hs
  replace o_a := own_below o_a hs
  replace o_a2 := own_below o_a2 hs
  replace hb := hb.trans (hs.mono hb.size)
  clear hs
  rw [show decide (a = a) = true from decide_eq_true rfl]
  clear o_a2
  have haF : a = slacks least l := by rw [← HA.out, slackL, if_pos HOK.out]
  obtain ⟨hv, hle0, hle1⟩ := slackOk_and HOK.out
  obtain ⟨_, _, hl2, hl8⟩ := stopsB_n hv
  have HG := Lib.hid (fun k hk => stopsB_get hv k hk)
  obtain ⟨Z, hZ⟩ : ∃ Z, Z = slacks 0 l := ⟨_, rfl⟩
  have HO0 := Lib.hid (slackOk_zero HOK.out)
  have HZL := Lib.hid (show slackL n l 0 = Z by rw [slackL, if_pos HO0.out, hZ])
  have hll : l.length - 1 < l.length := by omega
  have hsum := slacks0_sum hv hll
  rw [← hZ] at hsum
  have HZM := Lib.hid (fun s hs => mem_slacks (least := 0) HO0.out s hs)
  have hZl : Z.length = l.length := by rw [hZ, slacks_length]
  have HZ := Lib.hid hZ
  have hZ8 : Z.length ≤ 8 := by omega
  have hale : a.length = l.length := by rw [haF, slacks_length]
  have q1 : a.length ≤ l.length := by omega
  have q2 : l.length ≤ a.length := by omega
  have HAF := Lib.hid haF
  have N3 := Lib.hid (show ((a.length : Int) == (l.length : Int)) = true by rw [beq_iff_eq]; omega)
  have HAK := Lib.hid (fun k hk h0 => slacks_get least l k hk h0)
  clear haF hZ hZl hale hv
  obtain ⟨x, hx⟩ : ∃ x, x = l[l.length - 1] := ⟨_, rfl⟩
  rw [← hx] at hsum
  have hgx := HG.out (l.length - 1) hll
  rw [← hx] at hgx
  have HX := Lib.hid hx
  clear hx
  obtain ⟨wt, hwt⟩ : ∃ wt, wt = waitS n l := ⟨_, rfl⟩
  obtain ⟨wb1, wb2⟩ : -1 ≤ wt ∧ wt ≤ 100000 := by rw [hwt]; exact waitS_bd
  rw [← hwt] at hsum
  have HWT := Lib.hid hwt
  obtain ⟨sZ, hsZ⟩ : ∃ s, s = sumI Z := ⟨_, rfl⟩
  rw [← hsZ] at hsum
  have HSZ := Lib.hid hsZ
  have HSUM := Lib.hid hsum
  clear hwt hsZ hsum
  have hx1 : 0 ≤ x.2.1 ∧ x.2.1 ≤ 10000 := by omega
  have hx2 : 0 ≤ x.2.2 ∧ x.2.2 ≤ 10000 := by omega
  obtain ⟨hx10, hx11⟩ := hx1
  obtain ⟨hx20, hx21⟩ := hx2
  clear hgx
  go_wp2_with fail
  refine (iSlack_any n _ _ _ _ l 0 _ (by omega) (Rd.of_own o_l) (Nat.le_refl _) hcap).mono ?_
  rintro e w5 ⟨P5, d5, rfl, o_z, hs⟩
  replace o_l := own_below o_l hs
  replace o_a := own_below o_a hs
  replace hb := hb.trans (hs.mono hb.size)
  clear hs
  rw [HZL.out] at o_z ⊢
  rw [HO0.out]
  obtain ⟨bl, ol, rfl, -, -, x0, x1, x2⟩ := (Rd.of_own o_l).at3 (l.length - 1) hll
  rw [← HX.out] at x0 x1 x2
  obtain ⟨ba, oa, rfl, ca⟩ := (Rd.of_own o_a).all1 (by omega)
  have RL := Lib.hid (Rd.of_own o_l)
  have RZ := Lib.hid (Rd.of_own o_z)
  have hbaw : ba < w5.heap.size := by have := World.block_lt_of_cell? _ _ (ca 0 (by omega)); simpa using this
  have CA := Lib.hid ca
  clear ca
  have hcast : ((l.length : Int) - 1).toNat = l.length - 1 := by omega
  have i1 : 0 ≤ (l.length : Int) - 1 := by omega
  clear o_l o_a o_z
  go_wp2_with fail
  clear hcast i1
  go_loopw [13, 14] (fun i dd wr => ∃ (k q : Nat), k ≤ a.length ∧ i = .int .i64 k ∧ wr = (w5.alloc (.cells #[.int .i64 x.1, .int .i64 x.2.1, .int .i64 x.2.2] 31)).drewN q) (fun i _ _ => a.length - (intOf i).toNat)
  case atStart => exact ⟨0, 0, by omega, rfl, rfl⟩
  case round =>
    obtain ⟨k, q, hk, rfl, rfl⟩ := hrel
    by_cases hlt : k < a.length
    · have hkl : k < l.length := by omega
      obtain ⟨b2, o2, e2, hlo2, hhi2, c0, c1, c2⟩ := (RL.out.alloc (Nat.le_refl _) (.cells #[.int .i64 x.1, .int .i64 x.2.1, .int .i64 x.2.2] 31)).at3 k hkl
      injection e2 with e2; injection e2 with e21 e22; subst e21 e22
      have a1 := (cell_alloc1 (p := ⟨ba, oa + k, none⟩) (.cells #[.int .i64 x.1, .int .i64 x.2.1, .int .i64 x.2.2] 31) hbaw).trans (CA.out k hlt)
      have hgk := HG.out k hkl
      have hS : a.getD k 0 = if k = 0 then 0 else slackOf least l[k] := by
        rw [HAF.out, getD_get (by rw [slacks_length]; exact hkl)]
        split
        · rename_i h0; subst h0; exact slacks_zero least l hkl
        · exact HAK.out k hkl (by omega)
      generalize a.getD k 0 = s at *
      obtain ⟨y, hy⟩ : ∃ y, y = l[k] := ⟨_, rfl⟩
      rw [← hy] at c0 c1 c2 hgk hS
      clear hy
      have hy1 : 0 ≤ y.2.1 ∧ y.2.1 ≤ 10000 := by omega
      have hy2 : 0 ≤ y.2.2 ∧ y.2.2 ≤ 10000 := by omega
      obtain ⟨hy10, hy11⟩ := hy1
      obtain ⟨hy20, hy21⟩ := hy2
      clear hgk
      have p1 : IntKind.i64.wrap (y.2.2 - y.2.1) = y.2.2 - y.2.1 := IntWalk.i64_in _ (by omega)
      have p2 : IntKind.i64.wrap (y.2.2 - y.2.1 - least) = y.2.2 - y.2.1 - least := IntWalk.i64_in _ (by omega)
      have z1 : (0 : Int) ≤ (k : Int) := by omega
      have z2 : (k : Int) < (l.length : Int) := by omega
      have z3 : (k : Int) < (a.length : Int) := by omega
      by_cases h0 : k = 0
      · subst h0
        have t1 : (s != 0) = false := not_wrong (by rw [hS]; rfl)
        clear hS
        simp only [Nat.zero_mul, Nat.add_zero] at c0 c1 c2 a1
        go_wp2_with fail
        go_quiet (fail)
        clear p1 p2
        go_wp2_with fail
        go_roundw
        case rel => exact ⟨1, _, by omega, by go_num, rfl⟩
        case measure => simp [intOf]; omega
      have hS2 : s = slackOf least y := by rw [hS, if_neg h0]
      have t0 : ((k : Int) == 0) = false := by rw [beq_eq_false_iff_ne]; omega
      have t9 : decide (0 < k) = true := decide_eq_true (by omega)
      have t8 : (0 : Int) < (k : Int) := by omega
      clear hS
      by_cases hmx : y.2.2 - y.2.1 - least < 0
      · have t2 : (s != 0) = false := not_wrong (by rw [hS2]; unfold slackOf; omega)
        clear hS2
        go_wp2_with fail
        go_quiet (fail)
        clear p1 p2
        go_wp2_with fail
        go_roundw
        case rel => exact ⟨k + 1, _, by omega, by go_num, rfl⟩
        case measure => simp [intOf]; omega
      · have t2 : (s != y.2.2 - y.2.1 - least) = false := not_wrong (by rw [hS2]; unfold slackOf; omega)
        have hmx2 : 0 ≤ y.2.2 - y.2.1 - least := by omega
        have hmx3 : least ≤ y.2.2 - y.2.1 := by omega
        clear hS2
        go_wp2_with fail
        go_quiet (fail)
        clear p1 p2
        go_wp2_with fail
        go_roundw
        case rel => exact ⟨k + 1, _, by omega, by go_num, rfl⟩
        case measure => simp [intOf]; omega
    have n3 := N3.out
    have t1 : (sZ == wt + x.2.2 - x.2.1) = true := by rw [beq_iff_eq]; exact HSUM.out
    have p1 : IntKind.i64.wrap (wt + x.2.2) = wt + x.2.2 := IntWalk.i64_in _ (by omega)
    have p2 : IntKind.i64.wrap (wt + x.2.2 - x.2.1) = wt + x.2.2 - x.2.1 := IntWalk.i64_in _ (by omega)
    have hbX : Below w.heap.size w (w5.alloc (.cells #[.int .i64 x.1, .int .i64 x.2.1, .int .i64 x.2.2] 31)) := below_alloc hb _
    obtain ⟨W, hW⟩ : ∃ W, W = w5.alloc (.cells #[.int .i64 x.1, .int .i64 x.2.1, .int .i64 x.2.2] 31) := ⟨_, rfl⟩
    have RLW : Rd W w.heap.size w5.heap.size (some ⟨bl, ol, none⟩) (flat3 l) := by rw [hW]; exact RL.out.alloc (Nat.le_refl _) _
    have RZW : Rd W w4.heap.size w5.heap.size P5 (ints Z) := by rw [hW]; exact RZ.out.alloc (Nat.le_refl _) _
    have b1 : W.cell? ⟨w5.heap.size, 1, none⟩ = some (.int .i64 x.2.1) := by rw [hW]; simp [go_sem]
    have b2 : W.cell? ⟨w5.heap.size, 2, none⟩ = some (.int .i64 x.2.2) := by rw [hW]; simp [go_sem]
    have hWs : w5.heap.size < W.heap.size := by rw [hW]; simp
    rw [← hW] at hbX ⊢
    clear hW
    have RLH := Lib.hid RLW
    have RZH := Lib.hid RZW
    obtain ⟨Wq, hWq⟩ : ∃ Wq, Wq = W.drewN q := ⟨_, rfl⟩
    have hbQ : Below w.heap.size w Wq := by rw [hWq]; exact below_drewN hbX q
    have b1q : Wq.cell? ⟨w5.heap.size, 1, none⟩ = some (.int .i64 x.2.1) := by rw [hWq]; exact b1
    have b2q : Wq.cell? ⟨w5.heap.size, 2, none⟩ = some (.int .i64 x.2.2) := by rw [hWq]; exact b2
    have RLQ := Lib.hid (show Rd Wq w.heap.size w5.heap.size (some ⟨bl, ol, none⟩) (flat3 l) by rw [hWq]; exact RLW)
    have RZQ := Lib.hid (show Rd Wq w4.heap.size w5.heap.size P5 (ints Z) by rw [hWq]; exact RZW)
    have hWQs : w5.heap.size < Wq.heap.size := by rw [hWq]; exact hWs
    rw [← hWq]
    clear hWq b1 b2 RLW RZW RLH RZH hbX hWs
    obtain ⟨bx, hbx⟩ : ∃ bx, bx = w5.heap.size := ⟨_, rfl⟩
    rw [← hbx] at b1q b2q RLQ RZQ hWQs ⊢
    clear hbx
    go_wp2_with fail
    go_region_held3 (fun w' => w'.cell? ⟨bx, 1, none⟩ = some (.int .i64 x.2.1) ∧ w'.cell? ⟨bx, 2, none⟩ = some (.int .i64 x.2.2)) (go_keep)
      (first | (go_at_call 19; refine (sumOf_any _ _ _ _ Z _ (by omega) (by exact RZQ.out.drew) (fun s hs => by have := HZM.out s (by rw [← HZ.out]; exact hs); omega)).mono ?_; rintro e w20 ⟨rfl, rfl⟩; rw [← HSZ.out]) | (go_at_call 20; refine (iStopsWait n _ _ _ _ l _ (by omega) (by exact RLQ.out.drew) (by simp; omega)).mono ?_; rintro e w21 ⟨rfl, hb2'⟩; rw [← HWT.out]; have hb2 := below_of_drew hb2'; have hcb : ∀ b o, b < Wq.heap.size → w21.cell? ⟨b, o, none⟩ = Wq.cell? ⟨b, o, none⟩ := cell_below hb2))
    have hb3 : Below w.heap.size w w21 := hbQ.trans (hb2.mono hbQ.size)
    clear hcb
    go_wp2_with fail
    go_ret
    exact ⟨rfl, hb3⟩

set_option maxRecDepth 100000 in
theorem lateSlack_lifted (os : Os) (started : os.Started) (H : Type) (enc : TypeId × Value → H) :
    ReturnsInHanded {} Try.checked os 3 .any (Rows.fnLateSlackSpec.pre6 enc Try.prog Try.f3 Rows.fnLateSlackRow.domain false) (Rows.fnLateSlackSpec.post enc Try.prog Try.f3 false true false false) := by
  refine returnsInHanded_of_change (C := Try.checked) prog_own started (by kernel_rfl) Try.func3
    (ChangeSpec.witness6 (enc := enc) (C := Try.checked) false ⟨#[], #[.slice none 0 0], []⟩ 8 (by kernel_rfl) (by kernel_rfl) (by kernel_rfl) (by kernel_rfl)) ?_
  intro W base args ds gs before hval0 hW hcnd _
  have hval : ∀ (j : Nat) t v, Try.f3.params[j]? = some t → args[j]? = some v → Value.okWide Try.prog W .any base t v := hval0
  have hW' := hW
  obtain ⟨p, q, hA0, hV, rfl, hfz, hnd⟩ := hW
  have hA : DataW.TrodAll enc Try.prog W 0 (fun _ => true) true Try.f3.params.toList args.toList ds p := hA0
  rw [Try.params3] at hA hval
  obtain ⟨v0, vs0, d0, ds0, p0, q0, hargs, rfl, rfl, h0, r0⟩ := trodAll_cons hA
  obtain ⟨rfl, rfl, rfl⟩ := trodAll_nil r0
  obtain rfl : args = #[v0] := by cases args; simp_all
  obtain ⟨rfl, rfl⟩ := trodVars_none hV
  obtain ⟨a0, len0, cap0, rfl⟩ := okWide_slice Try.underlying22 (hval 0 22 v0 rfl rfl)
  have k0 := h0
  have lt0 : ∀ x ∈ p0, x.block < W.heap.size := by obtain ⟨m, hm⟩ := k0; exact DataW.trod_lt m _ _ _ hm
  obtain ⟨fuel0, hf0⟩ := h0
  obtain ⟨bs0, hm0, hb0, hc0⟩ := open_b1 Try.underlying22 Try.underlying5 (by kernel_rfl) hf0
  clear hA0 hval0
  refine (lateSlack_any a0 cap0 len0 bs0 W hm0 hb0 hc0).mono fun e W' ⟨he, bel⟩ => ?_
  subst he
  exact ⟨_, rfl, _, _, _, [], _, [], hW', trodAll_mk1 (shut_bool Try.underlying4 _), (trodAll_cons_mk (Below.trod prog_laidOut (by kernel_rfl) (of_decide_eq_true (by kernel_rfl)) k0 bel lt0) trodAll_mk0), rfl, bel.frame _, fun h => by cases h⟩

theorem lateSlack_holds : Rows.FnLateSlackSaid :=
  OpenClaim.holds_of_wide 3 Try.f3 rfl rfl rfl rfl rfl rfl rfl ⟨rfl, rfl, rfl, rfl, rfl⟩ rfl rfl rfl rfl rfl (by kernel_rfl) Try.func3 (by kernel_rfl)
    (of_decide_eq_true (by kernel_rfl)) (by unfold Func.isWrapper; first | (rw [if_pos (by decide +kernel)]; kernel_rfl) | (rw [if_neg (by decide +kernel)]; exact ⟨rfl, rfl⟩))
    (fun os started H enc _ => lateSlack_lifted os started H enc)

end Go.Proofs.Yteceohdchknbbaa

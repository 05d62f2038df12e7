/-
  For every input the law FnGatesTrust returns true: each gate has one trust.
-/
import Derived.Test.YtgalkbnlpadpfaaTrust
import Derived.Test.YtgalkbnlpadpfaaGatesArgs
import Derived.Test.YtgalkbnlpadpfaaLawHas
namespace Go.Proofs.Ytgalkbnlpadpfaa
open Go.ChangeShapes Go.WideShapes Go.ChangeAt Go.RowKit


/-- How many gates the first trusts have. -/
def tsum (l : List T3) : Nat → Int
  | 0 => 0
  | k + 1 => tsum l k + (trustL l k).length
theorem tsum_bd (l : List T3) (k : Nat) : 0 ≤ tsum l k ∧ tsum l k ≤ k * l.length := by
  induction k with
  | zero => simp [tsum]
  | succ k ih =>
    have h : (trustL l k).length ≤ l.length := by unfold trustL; split; exact selI_len _ _ _; simp
    have e : ((k + 1 : Nat) : Int) * l.length = k * l.length + l.length := by rw [Int.natCast_add, Int.add_mul]; simp
    rw [tsum, e]; omega
theorem sel_count (l : List T3) (h : gatesB l = true) (k : Nat) (hk : k ≤ l.length) : (selI (onTrust 0) l k).length + (selI (onTrust 1) l k).length + (selI (onTrust 2) l k).length + (selI (onTrust 3) l k).length = k := by
  induction k with
  | zero => simp [selI_zero]
  | succ k ih =>
    have ih := ih (by omega)
    have hlt : k < l.length := by omega
    have ht := gatesB_trust h k hlt
    have key : ∀ t : Int, (selI (onTrust t) l (k + 1)).length = (selI (onTrust t) l k).length + if l[k].2.1 = t then 1 else 0 := by
      intro t
      by_cases e : l[k].2.1 = t
      · rw [selI_yes _ _ _ hlt (decide_eq_true e), if_pos e]; simp
      · rw [selI_no _ _ _ hlt (decide_eq_false e), if_neg e]; simp
    rw [key, key, key, key]
    have : l[k].2.1 = 0 ∨ l[k].2.1 = 1 ∨ l[k].2.1 = 2 ∨ l[k].2.1 = 3 := by omega
    rcases this with e | e | e | e <;> simp [e] <;> omega
theorem tsum_four (l : List T3) (h : gatesB l = true) : tsum l 4 = l.length := by
  have := sel_count l h l.length (Nat.le_refl _)
  have e : ∀ t : Int, trustL l t = selI (onTrust t) l l.length := fun t => by rw [trustL, if_pos h]
  simp only [tsum, e]
  have c0 : ((0 : Nat) : Int) = 0 := rfl
  have c1 : ((1 : Nat) : Int) = 1 := rfl
  have c2 : ((2 : Nat) : Int) = 2 := rfl
  have c3 : ((3 : Nat) : Int) = 3 := rfl
  rw [c0, c1, c2, c3]
  omega
theorem trustL_pos {l : List T3} {t : Int} (h : 0 < (trustL l t).length) : gatesB l = true ∧ ∀ k (hk : k < l.length), ((k : Int) ∈ trustL l t ↔ l[k].2.1 = t) := by
  unfold trustL at h ⊢
  split at h
  · rename_i hg
    refine ⟨hg, fun k hk => ?_⟩
    rw [if_pos hg, mem_selI]
    constructor
    · rintro ⟨i, e, _, hp⟩
      obtain rfl : k = i := by omega
      have := of_decide_eq_true hp
      simpa [List.getD, hk] using this
    · intro e
      exact ⟨k, rfl, hk, decide_eq_true (by simpa [List.getD, hk] using e)⟩
  · simp at h

set_option maxRecDepth 100000 in
set_option maxHeartbeats 4000000 in
theorem gatesTrust_any (A0 : Option Addr) (c0 n0 : Nat) (bs0 : Nat → Int) (w : World) (hm0 : n0 ≤ maxLen) (hb0 : Byt w w.heap.size A0 n0 bs0) (hc0 : n0 ≤ c0) :
    Calls Try.prog 4 #[.slice A0 n0 c0] w fun e w' => e = .returned (.bool true) ∧ Below w.heap.size w w' := by
  unfold maxLen at hm0
  by_cases hbig0 : (1048576 : Int) < n0
  · go_enter Try.func4, Try.ntmps4
    go_wp2_with fail
    go_ret
    exact ⟨rfl, Below.refl _ _⟩
  have hn0 : n0 ≤ 1048576 := by omega
  have hni0 : (n0 : Int) ≤ 1048576 := by omega
  clear hm0
  go_enter Try.func4, Try.ntmps4
  go_wp2_with fail
  refine (drawTrust_any A0 n0 c0 bs0 _ hb0 hn0 hc0).mono ?_
  rintro e w1 ⟨A, c, l, t, rfl, ht1, ht2, hl, o_l, hb⟩
  obtain ⟨a, ha⟩ : ∃ a, a = trustL l t := ⟨_, rfl⟩
  have hal : a.length ≤ l.length := by rw [ha]; unfold trustL; split; exact selI_len _ _ _; simp
  have HA := Lib.hid ha
  clear ha
  go_wp2_with fail
  refine (iTrust_any _ _ _ _ l t _ (by omega) (Rd.of_own o_l) (Nat.le_refl _) (by omega) (by omega)).mono ?_
  rintro e w2 ⟨P2, d2, rfl, o_a, hs⟩
  replace o_l := own_below o_l hs
  replace hb := hb.trans (hs.mono hb.size)
  clear hs
  rw [← HA.out] at o_a ⊢
  go_wp2_with fail
  refine (sTrust_any _ _ _ _ l t _ (by omega) (Rd.of_own o_l) (Nat.le_refl _)).mono ?_
  rintro e w3 ⟨P3, d3, rfl, o_a2, hs⟩
  replace o_l := own_below o_l hs
  replace o_a := own_below o_a hs
  replace hb := hb.trans (hs.mono hb.size)
  clear hs
  rw [← HA.out] at o_a2 ⊢
  go_wp2_with fail
  refine (sameInts_any _ _ _ _ _ _ _ _ a a _ (by omega) (Rd.of_own o_a) (Rd.of_own o_a2)).mono ?_
  rintro e w4 ⟨rfl, hs⟩
  replace o_l := own_below o_l hs
  replace o_a := own_below o_a hs
  replace o_a2 := own_below o_a2 hs
  replace hb := hb.trans (hs.mono hb.size)
  clear hs
  rw [show decide (a = a) = true from decide_eq_true rfl]
  rcases Nat.eq_zero_or_pos a.length with hz | hz
  · have hzd : ((a.length : Int) == 0) = true := by simp [hz]
    have HZ := Lib.hid hz
    clear hz
    go_wp2_with fail
    refine (sameInts_any _ _ _ _ _ _ _ _ a a _ (by omega) (Rd.of_own o_a) (Rd.of_own o_a2)).mono ?_
    rintro e w5 ⟨rfl, hs⟩
    replace o_l := own_below o_l hs
    replace o_a := own_below o_a hs
    replace o_a2 := own_below o_a2 hs
    replace hb := hb.trans (hs.mono hb.size)
    clear hs
    rw [show decide (a = a) = true from decide_eq_true rfl]
    go_wp2_with fail
    go_ret
    exact ⟨rfl, by (repeat (first | exact Below.refl _ _ | assumption | apply below_alloc | apply below_drewN | apply Below.drew | refine Below.setCell ?_ (by simp; try omega) _))⟩
  have hzd : ((a.length : Int) == 0) = false := by rw [beq_eq_false_iff_ne]; omega
  obtain ⟨hgb, hmem⟩ := trustL_pos (l := l) (t := t) (by rw [← HA.out]; exact hz)
  rw [← HA.out] at hmem
  have HM := Lib.hid hmem
  have H4 := Lib.hid (tsum_four l hgb)
  have hl10 : l.length ≤ 10 := gatesB_le10 hgb
  clear hgb hmem
  clear o_a2
  go_wp2_with fail
  go_loopw [7, 8] (fun s i wr => ∃ k : Nat, k ≤ 4 ∧ i = .int .i64 k ∧ s = .int .i64 (tsum l k) ∧ Below w4.heap.size w4 wr) (fun _ i _ => 4 - (intOf i).toNat)
  case atStart => exact ⟨0, by omega, rfl, rfl, Below.refl _ _⟩
  case round =>
    obtain ⟨k, hk, rfl, rfl, hbw⟩ := hrel
    have o_l := own_below o_l hbw
    have o_a := own_below o_a hbw
    have hb := hb.trans (hbw.mono hb.size)
    by_cases hk4 : k < 4
    · have hbd := tsum_bd l k
      have hbd2 : tsum l k ≤ 40 := by
        have : (k : Int) * l.length ≤ 4 * 10 := Int.mul_le_mul (by omega) (by omega) (by omega) (by omega)
        omega
      have hbd1 := hbd.1
      have hlk : (trustL l k).length ≤ 10 := by
        have : (trustL l k).length ≤ l.length := by unfold trustL; split; exact selI_len _ _ _; simp
        omega
      clear hbd
      have hst := Lib.hid (show tsum l (k + 1) = tsum l k + (trustL l k).length from rfl)
      obtain ⟨L, hL⟩ : ∃ L, L = trustL l k := ⟨_, rfl⟩
      rw [← hL] at hlk hst
      have HL := Lib.hid hL
      clear hL
      generalize tsum l k = s at *
      go_wp2_with fail
      refine (iTrust_any _ _ _ _ l (k : Int) _ (by omega) (Rd.of_own o_l) (Nat.le_refl _) (by omega) (by omega)).mono ?_
      rintro e w8 ⟨P8, d8, rfl, o8, hs⟩
      rw [← HL.out]
      clear o8
      have hb9 := hbw.trans (hs.mono hbw.size)
      go_wp2_with fail
      go_roundw
      case rel => exact ⟨k + 1, by omega, by go_num, by rw [hst.out], hb9⟩
      case measure => simp [intOf]; omega
    obtain rfl : k = 4 := by omega
    clear hk hk4
    have hres := Lib.hid (show tsum l 4 = (l.length : Int) from H4.out)
    obtain ⟨s, hs⟩ : ∃ s, s = tsum l 4 := ⟨_, rfl⟩
    rw [← hs] at hres ⊢
    clear hs H4
    obtain ⟨wk, rfl⟩ : ∃ wk, wk = wr := ⟨_, rfl⟩
    have RA := Lib.hid (Rd.of_own o_a)
    go_wp2_with fail
    go_loopw [9] (fun i wr => ∃ (k : Nat), k ≤ l.length ∧ i = .int .i64 k ∧ Below wk.heap.size wk wr) (fun i _ => l.length - (intOf i).toNat)
    case atStart => exact ⟨0, by omega, rfl, Below.refl _ _⟩
    case round =>
      obtain ⟨k, hk, rfl, hbk⟩ := hrel
      have o_l := own_below o_l hbk
      have RA := Lib.hid (Rd.of_own (own_below o_a hbk))
      have hb := hb.trans (hbk.mono hb.size)
      by_cases hlt : k < l.length
      · obtain ⟨bg, og, rfl, -, -, -, c1, -⟩ := (Rd.of_own o_l).at3 k hlt
        have hiff := HM.out k hlt
        obtain ⟨x, hx⟩ : ∃ x, x = l[k].2.1 := ⟨_, rfl⟩
        rw [← hx] at hiff c1
        have HI := Lib.hid hiff
        have z1 : (0 : Int) ≤ (k : Int) := by omega
        have z2 : (k : Int) < (l.length : Int) := by omega
        clear hx hiff
        by_cases hxt : x = t
        · have t1 : (x == t) = true := by simp [hxt]
          have HXT := Lib.hid hxt
          clear hxt
          have HCALL := Lib.hid (show ∀ m : Nat, Calls Try.prog 16 #[.slice P2 a.length d2, .int .i64 (k : Int)] (wr.drewN m) fun e w1 => e = .returned (.bool true) ∧ w1 = wr.drewN m from fun m => (hasInt_any _ _ _ _ a (k : Int) _ (by omega) (RA.out.drewN m)).mono fun _ _ ⟨h1, h2⟩ => ⟨by rw [h1, decide_eq_true (HI.out.2 HXT.out)], h2.symm⟩)
          go_wp2_with fail
          go_quiet ((go_at_call 16; exact Calls.quiet_of_same (HCALL.out _)))
          go_wp2_with fail
          go_roundw
          case rel => exact ⟨k + 1, by omega, by go_num, by (repeat (first | exact Below.refl _ _ | assumption | apply below_alloc | apply below_drewN | apply Below.drew | refine Below.setCell ?_ (by simp; try omega) _))⟩
          case measure => simp [intOf]; omega
        · have t1 : (x == t) = false := by simp [hxt]
          have HXT := Lib.hid hxt
          clear hxt
          have HCALL := Lib.hid (show ∀ m : Nat, Calls Try.prog 16 #[.slice P2 a.length d2, .int .i64 (k : Int)] (wr.drewN m) fun e w1 => e = .returned (.bool false) ∧ w1 = wr.drewN m from fun m => (hasInt_any _ _ _ _ a (k : Int) _ (by omega) (RA.out.drewN m)).mono fun _ _ ⟨h1, h2⟩ => ⟨by rw [h1, decide_eq_false (fun h => HXT.out (HI.out.1 h))], h2.symm⟩)
          go_wp2_with fail
          go_quiet ((go_at_call 16; exact Calls.quiet_of_same (HCALL.out _)))
          go_wp2_with fail
          go_roundw
          case rel => exact ⟨k + 1, by omega, by go_num, by (repeat (first | exact Below.refl _ _ | assumption | apply below_alloc | apply below_drewN | apply Below.drew | refine Below.setCell ?_ (by simp; try omega) _))⟩
          case measure => simp [intOf]; omega
      · have t1 : (s == (l.length : Int)) = true := by rw [beq_iff_eq]; exact hres.out
        go_wp2_with fail
        go_ret
        exact ⟨rfl, by (repeat (first | exact Below.refl _ _ | assumption | apply below_alloc | apply below_drewN | apply Below.drew | refine Below.setCell ?_ (by simp; try omega) _))⟩

set_option maxRecDepth 100000 in
theorem gatesTrust_lifted (os : Os) (started : os.Started) (H : Type) (enc : TypeId × Value → H) :
    ReturnsInHanded {} Try.checked os 4 .any (Rows.fnGatesTrustSpec.pre6 enc Try.prog Try.f4 Rows.fnGatesTrustRow.domain false) (Rows.fnGatesTrustSpec.post enc Try.prog Try.f4 false true false false) := by
  refine returnsInHanded_of_change (C := Try.checked) prog_own started (by kernel_rfl) Try.func4
    (ChangeSpec.witness6 (enc := enc) (C := Try.checked) false ⟨#[], #[.slice none 0 0], []⟩ 8 (by kernel_rfl) (by kernel_rfl) (by kernel_rfl) (by kernel_rfl)) ?_
  intro W base args ds gs before hval0 hW hcnd _
  have hval : ∀ (j : Nat) t v, Try.f4.params[j]? = some t → args[j]? = some v → Value.okWide Try.prog W .any base t v := hval0
  have hW' := hW
  obtain ⟨p, q, hA0, hV, rfl, hfz, hnd⟩ := hW
  have hA : DataW.TrodAll enc Try.prog W 0 (fun _ => true) true Try.f4.params.toList args.toList ds p := hA0
  rw [Try.params4] at hA hval
  obtain ⟨v0, vs0, d0, ds0, p0, q0, hargs, rfl, rfl, h0, r0⟩ := trodAll_cons hA
  obtain ⟨rfl, rfl, rfl⟩ := trodAll_nil r0
  obtain rfl : args = #[v0] := by cases args; simp_all
  obtain ⟨rfl, rfl⟩ := trodVars_none hV
  obtain ⟨a0, len0, cap0, rfl⟩ := okWide_slice Try.underlying29 (hval 0 29 v0 rfl rfl)
  have k0 := h0
  have lt0 : ∀ x ∈ p0, x.block < W.heap.size := by obtain ⟨m, hm⟩ := k0; exact DataW.trod_lt m _ _ _ hm
  obtain ⟨fuel0, hf0⟩ := h0
  obtain ⟨bs0, hm0, hb0, hc0⟩ := open_b1 Try.underlying29 Try.underlying5 (by kernel_rfl) hf0
  clear hA0 hval0
  refine (gatesTrust_any a0 cap0 len0 bs0 W hm0 hb0 hc0).mono fun e W' ⟨he, bel⟩ => ?_
  subst he
  exact ⟨_, rfl, _, _, _, [], _, [], hW', trodAll_mk1 (shut_bool Try.underlying4 _), (trodAll_cons_mk (Below.trod prog_laidOut (by kernel_rfl) (of_decide_eq_true (by kernel_rfl)) k0 bel lt0) trodAll_mk0), rfl, bel.frame _, fun h => by cases h⟩

theorem gatesTrust_holds : Rows.FnGatesTrustSaid :=
  OpenClaim.holds_of_wide 4 Try.f4 rfl rfl rfl rfl rfl rfl rfl ⟨rfl, rfl, rfl, rfl, rfl⟩ rfl rfl rfl rfl rfl (by kernel_rfl) Try.func4 (by kernel_rfl)
    (of_decide_eq_true (by kernel_rfl)) (by unfold Func.isWrapper; first | (rw [if_pos (by decide +kernel)]; kernel_rfl) | (rw [if_neg (by decide +kernel)]; exact ⟨rfl, rfl⟩))
    (fun os started H enc _ => gatesTrust_lifted os started H enc)

end Go.Proofs.Ytgalkbnlpadpfaa

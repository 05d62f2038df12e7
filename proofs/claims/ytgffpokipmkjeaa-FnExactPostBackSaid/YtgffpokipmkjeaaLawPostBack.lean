/-
  For every input the law FnExactPostBack returns true: the program's PostBack returns what the reference's returns, in memory of its own, and leaves its arguments as they were.
-/
import Derived.Test.YtgffpokipmkjeaaPostBack
import Derived.Test.YtgffpokipmkjeaaNetMark
import Derived.Test.YtgffpokipmkjeaaTri
import Derived.Test.YtgffpokipmkjeaaOpen
import Derived.Test.YtgffpokipmkjeaaOwn
import Derived.Test.YtgffpokipmkjeaaApart
namespace Go.Proofs.Ytgffpokipmkjeaa
open Go.ChangeShapes Go.WideShapes Go.ChangeAt Go.RowKit

set_option maxRecDepth 100000 in
set_option maxHeartbeats 4000000 in
theorem exactPostBack_any (n0 : Int) (A1 : Option Addr) (c1 : Nat) (l1 : Net) (n2 : Int) (w : World) (_ : in64 n0) (hm1 : l1.length ≤ maxLen) (hr1 : RdN w 0 w.heap.size A1 l1) (hin1 : ∀ x ∈ l1, x.length ≤ maxLen ∧ ∀ g ∈ x, in64 g.1 ∧ in64 g.2.1 ∧ in64 g.2.2) (_ : in64 n2) :
    Calls Try.prog 7 #[.int .i64 n0, .slice A1 l1.length c1, .int .i64 n2] w fun e w' => e = .returned (.bool true) ∧ Below w.heap.size w w' := by
  by_cases hbig1 : (1048576 : Int) < ((netSize l1 : Nat) : Int)
  · go_enter Try.func7, Try.ntmps7
    go_wp2_with fail
    refine (szStopSS_any _ _ _ _ l1 _ _ hm1 (fun x hx => (hin1 x hx).1) hr1 (by omega) (by omega)).mono ?_
    rw [szV, if_pos hbig1]
    rintro e w1 ⟨rfl, rfl⟩
    go_wp2_with fail
    go_ret
    exact ⟨rfl, Below.refl _ _⟩
  have hl1 : netSize l1 ≤ 1048576 := by omega
  have hls1 : netSum l1 ≤ 1048576 := by have := hl1; unfold netSize at this; omega
  have hnn1 : (0 : Int) ≤ (1048576 : Int) - ((netSize l1 : Nat) : Int) := by omega
  go_enter Try.func7, Try.ntmps7
  go_wp2_with fail
  refine (szStopSS_any _ _ _ _ l1 _ _ hm1 (fun x hx => (hin1 x hx).1) hr1 (by omega) (by omega)).mono ?_
  rw [szV, if_neg (by omega)]
  rintro e w1 ⟨rfl, rfl⟩
  clear hbig1 hm1
  have hne0 : ((backNOk n0 l1 n2) != (backNOk n0 l1 n2)) = false := by simp
  have heq0 : decide ((backN n0 l1 n2) = (backN n0 l1 n2)) = true := by simp
  have hL0 : netSize (backN n0 l1 n2) ≤ 1048576 := by exact backN_size
  have hLs0 : netSum (backN n0 l1 n2) ≤ 1048576 := by have := hL0; unfold netSize at this; omega
  have heqa1 : decide (l1 = l1) = true := by simp
  go_wp2_with fail
  refine (toStopSS_any _ _ _ _ _ _ hl1 hr1 (Nat.le_refl _)).mono ?_
  rintro e w1 ⟨P1, d1, rfl, o1, hs1⟩
  have hz1 := hs1.size
  have hc1 := hs1
  have o1B := OwnN.bound o1
  clear o1
  go_wp2_with fail
  refine (sPostBack_any n0 _ _ _ _ l1 n2 _ hl1 ((OwnN.rd (OwnNB.own o1B)).more (Nat.zero_le _) (Nat.le_refl _)) (Nat.le_refl _)).mono ?_
  rintro e w2 ⟨P2, d2, rfl, o2, hs2⟩
  have hz2 := hs2.size
  have hc2 := hc1.trans (hs2.mono hc1.size)
  have o1B_2 := OwnNB.below o1B hs2
  have o2B := OwnN.bound o2
  clear o2
  go_wp2_with fail
  refine (toStopSS_any _ _ _ _ _ _ hl1 (hr1.below hc2 (Nat.le_refl _)) hc2.size).mono ?_
  rintro e w3 ⟨P3, d3, rfl, o3, hs3⟩
  have hz3 := hs3.size
  have hc3 := hc2.trans (hs3.mono hc2.size)
  have o2B_3 := OwnNB.below o2B hs3
  have o3B := OwnN.bound o3
  clear o3
  go_wp2_with fail
  refine (iPostBack_any n0 _ _ _ _ l1 n2 _ hl1 ((OwnN.rd (OwnNB.own o3B)).more (Nat.zero_le _) (Nat.le_refl _)) (Nat.le_refl _)).mono ?_
  rintro e w4 ⟨P4, d4, rfl, o4, hs4⟩
  have hz4 := hs4.size
  have hc4 := hc3.trans (hs4.mono hc3.size)
  have o2B_4 := OwnNB.below o2B_3 hs4
  clear o2B_3
  have o3B_4 := OwnNB.below o3B hs4
  have o4B := OwnN.bound o4
  clear o4
  go_wp2_with fail
  refine (eqStopSS_any _ _ _ _ _ _ _ _ _ _ _ hL0 hL0 (OwnN.rd (OwnNB.own o4B)) (Nat.le_refl _) (OwnN.rd (OwnNB.own o2B_4)) (Nat.le_refl _)).mono ?_
  rintro e w5 ⟨rfl, hs5⟩
  have hz5 := hs5.size
  have hc5 := hc4.trans (hs5.mono hc4.size)
  have o2B_5 := OwnNB.below o2B_4 hs5
  clear o2B_4
  have o3B_5 := OwnNB.below o3B_4 hs5
  clear o3B_4
  have o4B_5 := OwnNB.below o4B hs5
  go_wp2_with fail
  refine (toStopSS_any _ _ _ _ _ _ hl1 (hr1.below hc5 (Nat.le_refl _)) hc5.size).mono ?_
  rintro e w6 ⟨P6, d6, rfl, o5, hs6⟩
  have hz6 := hs6.size
  have hc6 := hc5.trans (hs6.mono hc5.size)
  have o2B_6 := OwnNB.below o2B_5 hs6
  clear o2B_5
  have o3B_6 := OwnNB.below o3B_5 hs6
  clear o3B_5
  have o4B_6 := OwnNB.below o4B_5 hs6
  clear o4B_5
  have o5B := OwnN.bound o5
  clear o5
  go_wp2_with fail
  refine (eqStopSS_any _ _ _ _ _ _ _ _ _ _ _ hl1 hl1 (OwnN.rd (OwnNB.own o3B_6)) (Nat.le_refl _) (OwnN.rd (OwnNB.own o5B)) (Nat.le_refl _)).mono ?_
  rintro e w7 ⟨rfl, hs7⟩
  have hz7 := hs7.size
  have hc7 := hc6.trans (hs7.mono hc6.size)
  have o2B_7 := OwnNB.below o2B_6 hs7
  clear o2B_6
  have o3B_7 := OwnNB.below o3B_6 hs7
  clear o3B_6
  have o4B_7 := OwnNB.below o4B_6 hs7
  clear o4B_6
  have o5B_7 := OwnNB.below o5B hs7
  go_wp2_with fail
  refine (markStopSS_any _ _ _ _ l1 _ _ hl1 (by omega) (by omega) o3B_7).mono ?_
  rintro e w8 ⟨rfl, o3B_8, hg8⟩
  have hz8 := hg8.size
  have hc8 := below_in hc7 hc7.size (by omega) hg8
  have o2B_8 := OwnNB.apart o2B_7 hg8 (by omega)
  have o4B_8 := OwnNB.apart o4B_7 hg8 (by omega)
  go_wp2_with fail
  refine (eqStopSS_any _ _ _ _ _ _ _ _ _ _ _ hL0 hL0 (OwnN.rd (OwnNB.own o4B_8)) (Nat.le_refl _) (OwnN.rd (OwnNB.own o2B_8)) (Nat.le_refl _)).mono ?_
  rintro e w9 ⟨rfl, hs9⟩
  have hz9 := hs9.size
  have hc9 := hc8.trans (hs9.mono hc8.size)
  have o2B_9 := OwnNB.below o2B_8 hs9
  clear o2B_8
  have o4B_9 := OwnNB.below o4B_8 hs9
  clear o4B_8
  go_wp2_with fail
  refine (markStopSS_any _ _ _ _ (backN n0 l1 n2) _ _ hL0 (by omega) (by omega) o4B_9).mono ?_
  rintro e w10 ⟨rfl, o4B_10, hg10⟩
  have hz10 := hg10.size
  have hc10 := below_in hc9 hc9.size (by omega) hg10
  have o2B_10 := OwnNB.apart o2B_9 hg10 (by omega)
  go_wp2_with fail
  refine (heldStopSS_any _ _ _ _ _ 1 _ hL0 (by omega) (by omega) (OwnNB.rdMarks o4B_10)).mono ?_
  rintro e wq ⟨rfl, rfl⟩
  have hqq : ((1 : Int) + 3 * (netSum (backN n0 l1 n2) : Int) != (1 : Int) + 3 * (netSum (backN n0 l1 n2) : Int)) = false := by simp
  go_wp2_with fail
  refine (toStopSS_any _ _ _ _ _ _ hl1 (hr1.below hc10 (Nat.le_refl _)) hc10.size).mono ?_
  rintro e w11 ⟨P11, d11, rfl, o6, hs11⟩
  have hz11 := hs11.size
  have hc11 := hc10.trans (hs11.mono hc10.size)
  have o2B_11 := OwnNB.below o2B_10 hs11
  clear o2B_10
  have o4B_11 := OwnNB.below o4B_10 hs11
  clear o4B_10
  have o6B := OwnN.bound o6
  clear o6
  go_wp2_with fail
  refine (iPostBack_any n0 _ _ _ _ l1 n2 _ hl1 ((OwnN.rd (OwnNB.own o6B)).more (Nat.zero_le _) (Nat.le_refl _)) (Nat.le_refl _)).mono ?_
  rintro e w12 ⟨P12, d12, rfl, o7, hs12⟩
  have hz12 := hs12.size
  have hc12 := hc11.trans (hs12.mono hc11.size)
  have o2B_12 := OwnNB.below o2B_11 hs12
  clear o2B_11
  have o4B_12 := OwnNB.below o4B_11 hs12
  clear o4B_11
  have o6B_12 := OwnNB.below o6B hs12
  have o7B := OwnN.bound o7
  clear o7
  go_wp2_with fail
  refine (eqStopSS_any _ _ _ _ _ _ _ _ _ _ _ hL0 hL0 (OwnN.rd (OwnNB.own o7B)) (Nat.le_refl _) (OwnN.rd (OwnNB.own o2B_12)) (Nat.le_refl _)).mono ?_
  rintro e w13 ⟨rfl, hs13⟩
  have hz13 := hs13.size
  have hc13 := hc12.trans (hs13.mono hc12.size)
  have o2B_13 := OwnNB.below o2B_12 hs13
  clear o2B_12
  have o4B_13 := OwnNB.below o4B_12 hs13
  clear o4B_12
  have o7B_13 := OwnNB.below o7B hs13
  go_wp2_with fail
  refine (heldStopSS_any _ _ _ _ _ 1 _ hL0 (by omega) (by omega) (OwnNB.rdMarks o4B_13)).mono ?_
  rintro e wq ⟨rfl, rfl⟩
  go_wp2_with fail
  go_ret
  exact ⟨rfl, hc13⟩

set_option maxRecDepth 100000 in
theorem exactPostBack_lifted (os : Os) (started : os.Started) (H : Type) (enc : TypeId × Value → H) :
    ReturnsInHanded {} Try.checked os 7 .any (Rows.fnExactPostBackSpec.pre6 enc Try.prog Try.f7 Rows.fnExactPostBackRow.domain false) (Rows.fnExactPostBackSpec.post enc Try.prog Try.f7 false true false false) := by
  refine returnsInHanded_of_change (C := Try.checked) prog_own started (by kernel_rfl) Try.func7
    (ChangeSpec.witness6 (enc := enc) (C := Try.checked) false ⟨#[], #[.int .i64 0, .slice none 0 0, .int .i64 0], []⟩ 8 (by kernel_rfl) (by kernel_rfl) (by kernel_rfl) (by kernel_rfl)) ?_
  intro W base args ds gs before hval0 hW hcnd _
  have hval : ∀ (j : Nat) t v, Try.f7.params[j]? = some t → args[j]? = some v → Value.okWide Try.prog W .any base t v := hval0
  have hW' := hW
  obtain ⟨p, q, hA0, hV, rfl, hfz, hnd⟩ := hW
  have hA : DataW.TrodAll enc Try.prog W 0 (fun _ => true) true Try.f7.params.toList args.toList ds p := hA0
  rw [Try.params7] at hA hval
  obtain ⟨v0, vs0, d0, ds0, p0, q0, hargs, rfl, rfl, h0, r0⟩ := trodAll_cons hA
  obtain ⟨v1, vs1, d1, ds1, p1, q1, rfl, rfl, rfl, h1, r1⟩ := trodAll_cons r0
  obtain ⟨v2, vs2, d2, ds2, p2, q2, rfl, rfl, rfl, h2, r2⟩ := trodAll_cons r1
  obtain ⟨rfl, rfl, rfl⟩ := trodAll_nil r2
  obtain rfl : args = #[v0, v1, v2] := by cases args; simp_all
  obtain ⟨rfl, rfl⟩ := trodVars_none hV
  obtain ⟨n0, rfl, rfl, rfl, w0⟩ := open_int Try.underlying3 (hval 0 3 v0 rfl rfl) h0
  obtain ⟨a1, len1, cap1, rfl⟩ := okWide_slice Try.underlying22 (hval 1 22 v1 rfl rfl)
  have k1 := h1
  have lt1 : ∀ x ∈ p1, x.block < W.heap.size := by obtain ⟨m, hm⟩ := k1; exact DataW.trod_lt m _ _ _ hm
  obtain ⟨fuel1, hf1⟩ := h1
  obtain ⟨l1, rfl, hm1, hr1, hw1⟩ := open_ss3 Try.underlying22 Try.underlying34 Try.underlying75 (by kernel_rfl) (by kernel_rfl) (by kernel_rfl) Try.underlying3 Try.underlying3 Try.underlying3 hf1
  obtain ⟨n2, rfl, rfl, rfl, w2⟩ := open_int Try.underlying3 (hval 2 3 v2 rfl rfl) h2
  clear hA0 hval0
  refine (exactPostBack_any n0 a1 cap1 l1 n2 W (in64_of_wf w0) hm1 hr1 hw1 (in64_of_wf w2)).mono fun e W' ⟨he, bel⟩ => ?_
  subst he
  exact ⟨_, rfl, _, _, _, [], _, [], hW', trodAll_mk1 (shut_bool Try.underlying4 _), (trodAll_cons_mk (shut_int Try.underlying3 w0) (trodAll_cons_mk (Below.trod prog_laidOut (by kernel_rfl) (of_decide_eq_true (by kernel_rfl)) k1 bel lt1) (trodAll_cons_mk (shut_int Try.underlying3 w2) trodAll_mk0))), rfl, bel.frame _, fun h => by cases h⟩

theorem exactPostBack_holds : Rows.FnExactPostBackSaid :=
  OpenClaim.holds_of_wide 7 Try.f7 rfl rfl rfl rfl rfl rfl rfl ⟨rfl, rfl, rfl, rfl, rfl⟩ rfl rfl rfl rfl rfl (by kernel_rfl) Try.func7 (by kernel_rfl)
    (of_decide_eq_true (by kernel_rfl)) (by unfold Func.isWrapper; first | (rw [if_pos (by decide +kernel)]; kernel_rfl) | (rw [if_neg (by decide +kernel)]; exact ⟨rfl, rfl⟩))
    (fun os started H enc _ => exactPostBack_lifted os started H enc)

end Go.Proofs.Ytgffpokipmkjeaa

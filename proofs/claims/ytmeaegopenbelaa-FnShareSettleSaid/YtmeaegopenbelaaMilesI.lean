/-
  The program's iterator over the miles of a road: milesOf and its closure.
-/
import Derived.RangeFuncNested
import Derived.RangeFuncBound
import Derived.RangeFuncCalls
import Derived.RangeFuncLeaves
import Derived.Shelf.Abstract
import Derived.Shelf.RegionOpen
import Derived.OwnWalkIn
import Derived.TacticsInMore
import Derived.LoopNIn
import Derived.LoopIn
import Derived.Test.YtmeaegopenbelaaPartsMath
namespace Go.Proofs.Ytmeaegopenbelaa
open Go.RowKit Go.Shelf

attribute [local go_sem] Oper.semAt_some

/-- A mile and its owner. -/
abbrev Mo := Nat × Fin 6
def moE (x : Mo) : Array Value := #[.int .i64 (x.1 : Int), .int .i64 ((x.2.val : Nat) : Int)]
def toFin (o : Int) : Fin 6 := ⟨o.toNat % 6, Nat.mod_lt _ (by decide)⟩
theorem toFin_val {o : Int} (h0 : 0 ≤ o) (h1 : o ≤ 5) : (((toFin o).val : Nat) : Int) = o := by
  show (((o.toNat % 6 : Nat)) : Int) = o
  omega
def mile (own : List Int) (j : Nat) : Mo := (j, toFin (own.getD j 0))
def upTo (own : List Int) (k : Nat) : List Mo := (List.range k).map (mile own)
theorem upTo_succ (own : List Int) (k : Nat) : upTo own (k + 1) = upTo own k ++ [mile own k] := by simp [upTo, List.range_succ]
theorem upTo_len (own : List Int) (k : Nat) : (upTo own k).length = k := by simp [upTo]
/-- What a round keeps: all below n₀, and cells from L0 on. -/
structure KeepC (n₀ L0 : Nat) (W W' : World) : Prop where
  below : Below n₀ W W'
  cells : ∀ b, L0 ≤ b → ∀ o, W.heap[b]? = some o → o.isCells = true → W'.heap[b]? = some o
theorem KeepC.trans {n₀ L0 : Nat} {A B C : World} (h : KeepC n₀ L0 A B) (k : KeepC n₀ L0 B C) : KeepC n₀ L0 A C :=
  ⟨h.below.trans k.below, fun b hb o ho hc => k.cells b hb o (h.cells b hb o ho hc) hc⟩
theorem keepC_b {n₀ L0 : Nat} {w : World} (hn : n₀ ≤ w.heap.size) (W : World) (l : Nat) (o o' : Obj) (hl : w.heap.size ≤ l) (h : W.heap[l]? = some o) (hc : o.isCells = false) (hw : o.isWalk = false) : KeepC n₀ L0 W (W.putObj l o') :=
  ⟨belowK_b hn W l o o' hl h hc hw, fun b _ o2 ho hc2 => by
    by_cases e : b = l
    · subst e; rw [h] at ho; cases ho; rw [hc] at hc2; cases hc2
    · rw [World.putObj_heap_other e]; exact ho⟩
/-- The owner of a mile of part k. -/
theorem own_at {ps : List T2} {k j : Nat} (h : k < ps.length) (hj : (j : Int) < ps[k].2) : (ownersL ps).getD ((ownersL (ps.take k)).length + j) 0 = ps[k].1 ∧ (ownersL (ps.take k)).length + j < (ownersL ps).length := by
  have e : ps = ps.take k ++ (ps[k] :: ps.drop (k + 1)) := by
    conv => lhs; rw [← List.take_append_drop k ps, List.drop_eq_getElem_cons h]
  have e2 : ownersL ps = ownersL (ps.take k) ++ (List.replicate ps[k].2.toNat ps[k].1 ++ ownersL (ps.drop (k + 1))) := by
    conv => lhs; rw [e]
    rw [ownersL_append]; rfl
  rw [e2]
  constructor
  · rw [List.getD_eq_getElem?_getD, List.getElem?_append_right (by omega), Nat.add_sub_cancel_left, List.getElem?_append_left (by rw [List.length_replicate]; omega), List.getElem?_replicate, if_pos (by omega)]
    rfl
  · rw [List.length_append, List.length_append, List.length_replicate]; omega
theorem moe_is {own : List Int} {M : Nat} {o : Int} (h : own.getD M 0 = o) (h0 : 0 ≤ o) (h1 : o ≤ 5) : moE (mile own M) = #[.int .i64 (M : Int), .int .i64 o] := by
  unfold moE mile
  rw [h, toFin_val h0 h1]

set_option maxRecDepth 100000 in
set_option maxHeartbeats 4000000 in
theorem miles1_in (F : Fence) (n : Nat) (hf : F.fn 56) (hro : F.round = none) (hn : 1 ≤ n) (l Bs n₀ L0 hi c : Nat) (A : Option Addr) (ps : List T2) (hok : partsB ps = true) (hhi : hi ≤ n₀) (hL0 : n₀ ≤ L0) (J Jx : List Mo → World → Prop) (W : World) (hLW : L0 ≤ W.heap.size) (hnW : n₀ ≤ W.heap.size)
    (hJ : AbidesFrom W.heap.size J) (hr : Rd W 0 hi A (flat2 ps))
    (hY : ∀ pre x W, J pre W → pre.length < (ownersL ps).length → YieldAt F (n - 1) Try.prog l (moE x) W fun e W' =>
      (e = .returned (.bool true) ∧ J (pre ++ [x]) W' ∧ KeepC n₀ L0 W W') ∨ (e = .returned (.bool false) ∧ Jx (pre ++ [x]) W'))
    (hBs : W.cell? ⟨Bs, 0, none⟩ = some (.slice A ps.length c)) (h0 : J [] W) :
    CallsIn F n Try.prog 56 #[.func (.yield l) #[] #[], .pointer (some ⟨Bs, 0, none⟩)] W fun e W' => (∃ v, e = .returned v) ∧
      ((∃ ys, ys = upTo (ownersL ps) (ownersL ps).length ∧ J ys W') ∨ (∃ pre, (∃ k, k ≤ (ownersL ps).length ∧ pre = upTo (ownersL ps) k) ∧ Jx pre W')) := by
  obtain ⟨hin, hl1, hl2⟩ := parts_and hok
  have HIN := Lib.hid hin
  have hNb := (parts_pos hok).2.2.1
  have HE := Lib.hid (show ∀ k, ps.length ≤ k → ownersL (ps.take k) = ownersL ps from fun k hk => by rw [List.take_of_length_le hk])
  have HAT := Lib.hid (fun k j (h : k < ps.length) hj => own_at (ps := ps) (k := k) (j := j) h hj)
  have HST := Lib.hid (fun k (h : k < ps.length) => owners_take_succ (ps := ps) h)
  have HJ := Lib.hid hJ
  have HY := Lib.hid hY
  have H0 := Lib.hid h0
  have H00 := Lib.hid (show upTo (ownersL ps) 0 = [] from rfl)
  obtain ⟨own, ho⟩ : ∃ own, own = ownersL ps := ⟨_, rfl⟩
  rw [← ho] at HAT HY HE hNb H00 ⊢
  clear hin hok ho hJ hY h0
  refine callsIn_of_wp Try.func56 rfl hf ?_ hro
  simp only [Try.ntmps56, List.size_toArray, List.length_cons, List.length_nil, Nat.reduceAdd, Nat.reduceSub, Array.replicate_succ, Array.replicate_zero, List.push_toArray, List.append_toArray, List.nil_append, List.cons_append]
  gi_wp2
  gi_loopw [3, 5, 8] (fun m _ i wr => ∃ (k M : Nat), k ≤ ps.length ∧ i = .int .i64 k ∧ m = .int .i64 M ∧ M = (ownersL (ps.take k)).length ∧ J (upTo own M) wr ∧ Below n₀ W wr)
    (fun _ _ i _ => ps.length - (intOf i).toNat)
  case atStart => exact ⟨0, 0, Nat.zero_le _, rfl, rfl, by simp [ownersL], by rw [H00.out]; exact H0.out, Below.refl _ _⟩
  case round =>
    obtain ⟨k, M, hk, rfl, rfl, hM, hJw, hb⟩ := hrel
    have hbs := hb.size
    by_cases hlt : k < ps.length
    · have HA := Lib.hid (fun j hj => HAT.out k j hlt hj)
      rw [← hM] at HA
      have HS := Lib.hid (show (ownersL (ps.take (k + 1))).length = M + ps[k].2.toNat by rw [HST.out k hlt, List.length_append, List.length_replicate, ← hM])
      have HM := Lib.hid hM
      clear hM
      obtain ⟨b, off, rfl, _, hbh, c0, c1⟩ := (hr.below hb hhi).at2 k hlt
      have hx := HIN.out ps[k] (List.getElem_mem hlt)
      generalize ps[k] = x at *
      obtain ⟨x0, x1, x2, x3⟩ := hx
      obtain ⟨wo, hwo⟩ : ∃ wo : World, wo = wr := ⟨_, rfl⟩
      subst hwo
      gi_wp2
      gi_loopw [3, 14] (fun m i wr => ∃ j : Nat, (j : Int) ≤ x.2 ∧ i = .int .i64 j ∧ m = .int .i64 ((M + j : Nat) : Int) ∧ J (upTo own (M + j)) wr ∧ Below n₀ W wr ∧ wr.heap[wo.heap.size]? = some (.cells #[.int .i64 x.1, .int .i64 x.2] 63 (0, 0)))
        (fun _ i _ => x.2.toNat - (intOf i).toNat)
      case atStart => exact ⟨0, by omega, rfl, rfl, HJ.out _ wo _ none hJw (World.grownBy_alloc wo _ none) (fun r e => by cases e), hb.alloc (Nat.le_trans hnW hbs) _, heap_alloc_new wo _⟩
      case round =>
        obtain ⟨j, hj, rfl, rfl, hJ2, hb2, hbox⟩ := hrel
        by_cases hjx : (j : Int) < x.2
        · obtain ⟨ha1, ha2⟩ := HA.out j hjx
          obtain ⟨fn, tmps, assign, body, hy, hR⟩ := HY.out _ (mile own (M + j)) wr hJ2 (by rw [upTo_len]; exact ha2)
          rw [moe_is ha1 x0 x1, Int.natCast_add] at hy
          have d0 : wr.cell? ⟨wo.heap.size, 0, none⟩ = some (.int .i64 x.1) := by simp [World.cell?, hbox]
          have HBX := Lib.hid hbox
          have HA1 := Lib.hid ha1
          clear hbox ha1
          gi_wp2
          refine hR.mono ?_
          rintro e W3 (⟨rfl, hJ3, hk3⟩ | ⟨rfl, hJx3⟩)
          · have hbox3 := hk3.cells wo.heap.size (by omega) _ HBX.out rfl
            rw [← upTo_succ] at hJ3
            gi_wp2
            go_roundw
            case rel => exact ⟨j + 1, by omega, by go_num, by go_num, hJ3, hb2.trans hk3.below, hbox3⟩
            case measure => simp [intOf]; omega
          · rw [← upTo_succ] at hJx3
            gi_wp2
            refine bodyPost_ret (results_none rfl _ _ _) rfl ?_
            exact ⟨⟨_, rfl⟩, .inr ⟨_, ⟨M + j + 1, by omega, rfl⟩, hJx3⟩⟩
        · have hfin := Lib.hid (show M + j = (ownersL (ps.take (k + 1))).length by rw [HS.out]; omega)
          gi_wp2
          go_roundw
          case rel => exact ⟨k + 1, M + j, by omega, by go_num, rfl, hfin.out, hJ2, hb2⟩
          case measure => simp [intOf]; omega
    · have hfin := Lib.hid (show M = own.length by rw [hM, HE.out k (by omega)])
      gi_wp2
      go_end0
      exact ⟨⟨_, rfl⟩, .inl ⟨_, rfl, by rw [← hfin.out]; exact hJw⟩⟩

end Go.Proofs.Ytmeaegopenbelaa

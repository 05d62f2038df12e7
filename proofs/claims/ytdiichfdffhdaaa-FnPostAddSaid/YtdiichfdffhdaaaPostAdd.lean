/-
  Contracts of PostAdd, the reference's and the program's.
-/
import Derived.Test.YtdiichfdffhdaaaNetApp
import Derived.Test.YtdiichfdffhdaaaNetBig
import Derived.Test.YtdiichfdffhdaaaJourneyMath
namespace Go.Proofs.Ytdiichfdffhdaaa
open Go.RowKit

def addNOk (n : Int) (net : Net) (l : List T3) : Bool := netB n (net ++ [l])
def addN (n : Int) (net : Net) (l : List T3) : Net := if addNOk n net l then net ++ [l] else []
theorem netSum_eight {net : Net} (h : ∀ k (hk : k < net.length), net[k].length ≤ 8) : netSum net ≤ 8 * net.length := by
  induction net with
  | nil => simp [netSum]
  | cons a r ih =>
    have h0 := h 0 (by simp)
    have h1 := ih fun k hk => h (k + 1) (Nat.succ_lt_succ hk)
    simp only [netSum, List.length_cons, List.getElem_cons_zero] at h0 ⊢
    omega
theorem net_small {n : Int} {net : Net} (h : netB n net = true) : netSize net ≤ 1048576 := by
  obtain ⟨_, h6, hs⟩ := netB_and h
  have := netSum_eight fun k hk => (stopsB_n (hs k hk)).2.2.2
  unfold netSize; omega
theorem net_lenA {net : Net} (h : netSize net ≤ 1048576) : net.length ≤ 1048576 ∧ ∀ k (hk : k < net.length), net[k].length ≤ 1048576 := by
  refine ⟨by unfold netSize at h; omega, fun k hk => ?_⟩
  have := netSum_get net k hk; unfold netSize at h; omega
theorem addN_size {n : Int} {net : Net} {l : List T3} : netSize (addN n net l) ≤ 1048576 := by
  unfold addN
  split
  · next h => exact net_small h
  · simp [netSize, netSum]
theorem addN_no {n : Int} {net : Net} {l : List T3} (h : addNOk n net l = false) : addN n net l = [] := by simp [addN, h]
theorem addN_yes {n : Int} {net : Net} {l : List T3} (h : addNOk n net l = true) : addN n net l = net ++ [l] := by simp [addN, h]
theorem add_sub {n : Int} {net : Net} {l : List T3} (h : netB n net = false) : addNOk n net l = false := by
  cases hn : addNOk n net l
  · rfl
  · exfalso
    unfold addNOk netB at hn
    unfold netB at h
    simp only [Bool.and_eq_true, decide_eq_true_eq, List.length_append, List.length_cons, List.length_nil, List.all_append] at hn
    rw [show (decide (1 ≤ n ∧ n ≤ 8 ∧ net.length ≤ 6)) = true from decide_eq_true (by omega), hn.2.1] at h
    cases h
theorem OwnN.nil (w : World) (base : Nat) (E EH : TypeId) (hb : base ≤ w.heap.size) : OwnN (w.alloc (.cells #[] EH)) base E EH (.slice (some ⟨w.heap.size, 0, none⟩) ([] : Net).length 0) [] :=
  ⟨[], own_lit0 w base EH 1 hb, trivial, by rw [blks_cons]; simp only [blks, List.filterMap_nil, List.append_nil]; exact blks_one_nodup _⟩
def RetNB (net : Net) (b : Bool) (w : World) (e : Ending) (w' : World) : Prop :=
  ∃ A c, e = .returned (.tuple #[.slice A net.length c, .bool b]) ∧ OwnN w' w.heap.size 30 31 (.slice A net.length c) net ∧ Below w.heap.size w w'
theorem retNB_no {w w1 : World} {net : Net} {b : Bool} (hb : Below w.heap.size w w1) (h1 : net = []) (h2 : b = false) :
    RetNB net b w (.returned (.tuple #[.slice (some ⟨w1.heap.size, 0, none⟩) 0 0, .bool false])) (w1.alloc (.cells #[] 31)) := by
  subst h1 h2
  exact ⟨some ⟨w1.heap.size, 0, none⟩, 0, rfl, OwnN.nil w1 _ _ _ hb.size, below_alloc hb _⟩
theorem retNB_yes {w w1 : World} {net net' : Net} {b : Bool} {A : Option Addr} {c m : Nat} (hm : net'.length = m) (hb : Below w.heap.size w w1) (h1 : net = net') (h2 : b = true) (ho : OwnN w1 w.heap.size 30 31 (.slice A net'.length c) net') :
    RetNB net b w (.returned (.tuple #[.slice A m c, .bool true])) w1 := by
  subst h1 h2 hm
  exact ⟨A, c, rfl, ho, hb⟩
theorem rows_snoc {net : Net} {l : List T3} (h8 : ∀ k (hk : k < net.length), net[k].length ≤ 1048576) (hl : l.length ≤ 1048576) : ∀ k (hk : k < (net ++ [l]).length), (net ++ [l])[k].length ≤ 1048576 := by
  intro k hk
  rw [List.getElem_append]
  split
  · next h => exact h8 k h
  · simpa using hl
theorem infoHdr : (Try.prog.info? 31).map (fun i => (i.zero, i.size, i.bytes)) = some (some (.slice none 0 0), 1, 24) := by kernel_rfl
theorem infoStopA : (Try.prog.info? 30).map (fun i => (i.zero, i.size, i.bytes)) = some (some (.agg #[.int .i64 0, .int .i64 0, .int .i64 0]), 3, 24) := by kernel_rfl

set_option maxRecDepth 100000 in
set_option maxHeartbeats 4000000 in
theorem sPostAdd_any (n : Int) (A : Option Addr) (c lo hi : Nat) (net : Net) (B : Option Addr) (d lo' hi' : Nat) (l : List T3) (w : World) (hl : netSize net ≤ 1048576) (hr : RdN w lo hi A net) (hh : hi ≤ w.heap.size) (hll : l.length ≤ 1048576) (hrl : Rd w lo' hi' B (flat3 l)) (hh' : hi' ≤ w.heap.size) :
    Calls Try.prog 28 #[.int .i64 n, .slice A net.length c, .slice B l.length d] w (RetNB (addN n net l) (addNOk n net l) w) := by
  obtain ⟨hln, h8⟩ := net_lenA hl
  have H8 := Lib.hid h8
  clear h8
  obtain ⟨i0, hi0, hz0, hz1, hz2⟩ := info_parts infoStopA
  obtain ⟨i1, hi1, hy0, hy1, hy2⟩ := info_parts infoHdr
  go_enter Try.func28, Try.ntmps28
  have hbA := below_alloc (Below.refl w.heap.size w) (.cells #[] 31)
  have hN0 := OwnN.nil w w.heap.size 30 31 (Nat.le_refl _)
  go_wp2_with fail
  go_loopw [9, 8] (fun i v wr => ∃ k : Nat, k ≤ net.length ∧ i = .int .i64 k ∧ (∃ A' c', v = .slice A' (net.take k).length c' ∧ OwnN wr w.heap.size 30 31 (.slice A' (net.take k).length c') (net.take k)) ∧ Below w.heap.size w wr) (fun i _ _ => net.length - (intOf i).toNat)
  case atStart => exact ⟨0, Nat.zero_le _, rfl, ⟨_, _, rfl, hN0⟩, hbA⟩
  case round =>
    obtain ⟨k, hk, rfl, ⟨A', c', rfl, hN⟩, hb⟩ := hrel
    have hbs := hb.size
    clear hbA hN0
    by_cases hlt : k < net.length
    · obtain ⟨b, off, B', cc, rfl, hlo, hhi, c0, hc, hrk⟩ := (hr.below hb hh) k hlt
      have hlk := H8.out k hlt
      have hbw : b < wr.heap.size := by omega
      have HT := Lib.hid (List.take_succ_eq_append_getElem hlt)
      have htl : (net.take k).length ≤ 2097152 := by rw [List.length_take]; omega
      generalize net[k] = row at *
      have ho' : (wr.alloc (.cells #[] 30)).ownsRow wr.heap.size 30 3 (.slice (some ⟨wr.heap.size, 0, none⟩) 0 0) ([] : List T3).length (flat3 []) := own_lit0 wr wr.heap.size 30 3 (Nat.le_refl _)
      have hrA := hrk.below (below_alloc (Below.refl wr.heap.size wr) (.cells #[] 30)) (Nat.le_trans hh hbs)
      have hNA := hN.bound.below (below_alloc (Below.refl wr.heap.size wr) (.cells #[] 30))
      have hbB := below_alloc hb (.cells #[] 30)
      generalize hT : net.take k = T at *
      have tok1 := True.intro
      go_wp2_with (first | (at_builtin; have _t := tok1; go_must (refine wpList_appendA3 rfl _ _ 31 rfl wr.heap.size 30 i0 _ Try.underlying31 hi0 hz0 hz1 hz2 rfl (.slice (some ⟨wr.heap.size, 0, none⟩) 0 0) [] rfl ho' B' row cc lo hi hrA rfl (by simp) (by omega) (by simp) ?_); intro P2 d2 w2 hown2 hg2 hor2; simp only [List.nil_append] at hown2 ⊢; have hN2 := hNA.apartRow hg2 (fun b e => .inr (by have := (ho'.lt b e).1; omega)); have hb2 := below_grown hbB hbB.size ho' hbs hg2; have hN3 := hN2.below (below_alloc (Below.refl w2.heap.size w2) (.cells #[.slice P2 row.length d2] 31)); have hown3 := own_below hown2 (below_alloc (Below.refl w2.heap.size w2) (.cells #[.slice P2 row.length d2] 31)); have hb3 := below_alloc hb2 (.cells #[.slice P2 row.length d2] 31); clear hb2 hN2 hown2 hg2 hor2 hbB hNA hrA ho' hN; clear tok1 _t) | (at_builtin; go_must (refine wpList_snocN rfl _ _ 23 rfl w.heap.size wr.heap.size wr.heap.size 30 31 i1 _ Try.underlying23 hi1 hy0 hy1 hy2 rfl A' c' T rfl hN3 P2 d2 row hown3 w2.heap.size (Rd.lit w2 _ _) rfl htl (Nat.le_refl _) hbs hb3.size ?_); intro A4 c4 w4 hN4 hg4 hge4; have hb4 := hb3.grown hg4 hb3.size hge4))
      rw [← HT.out] at hN4
      go_roundw
      case rel => exact ⟨k + 1, by omega, by go_num, ⟨A4, c4, by rw [HT.out]; simp, hN4⟩, hb4⟩
      case measure => simp [intOf]; omega
    · have hkn : k = net.length := by omega
      have hT : net.take k = net := by rw [hkn]; exact List.take_length
      rw [hT] at hN
      have htl : net.length ≤ 2097152 := by omega
      have ho' : (wr.alloc (.cells #[] 30)).ownsRow wr.heap.size 30 3 (.slice (some ⟨wr.heap.size, 0, none⟩) 0 0) ([] : List T3).length (flat3 []) := own_lit0 wr wr.heap.size 30 3 (Nat.le_refl _)
      have hrA := (hrl.below hb hh').below (below_alloc (Below.refl wr.heap.size wr) (.cells #[] 30)) (Nat.le_trans hh' hbs)
      have hNA := hN.bound.below (below_alloc (Below.refl wr.heap.size wr) (.cells #[] 30))
      have hbB := below_alloc hb (.cells #[] 30)
      rw [hT]
      clear hT
      subst hkn
      have tok1 := True.intro
      go_wp2_with (first | (at_builtin; have _t := tok1; go_must (refine wpList_appendA3 rfl _ _ 31 rfl wr.heap.size 30 i0 _ Try.underlying31 hi0 hz0 hz1 hz2 rfl (.slice (some ⟨wr.heap.size, 0, none⟩) 0 0) [] rfl ho' B l d lo' hi' hrA rfl (by simp) (by omega) (by simp) ?_); intro P2 d2 w2 hown2 hg2 hor2; simp only [List.nil_append] at hown2 ⊢; have hN2 := hNA.apartRow hg2 (fun b e => .inr (by have := (ho'.lt b e).1; omega)); have hb2 := below_grown hbB hbB.size ho' hbs hg2; have hN3 := hN2.below (below_alloc (Below.refl w2.heap.size w2) (.cells #[.slice P2 l.length d2] 31)); have hown3 := own_below hown2 (below_alloc (Below.refl w2.heap.size w2) (.cells #[.slice P2 l.length d2] 31)); have hb3 := below_alloc hb2 (.cells #[.slice P2 l.length d2] 31); clear hb2 hN2 hown2 hg2 hor2 hbB hNA hrA ho' hN; clear tok1 _t) | (at_builtin; go_must (refine wpList_snocN rfl _ _ 23 rfl w.heap.size wr.heap.size wr.heap.size 30 31 i1 _ Try.underlying23 hi1 hy0 hy1 hy2 rfl A' c' net rfl hN3 P2 d2 l hown3 w2.heap.size (Rd.lit w2 _ _) rfl htl (Nat.le_refl _) hbs hb3.size ?_); intro A4 c4 w4 hN4 hg4 hge4; have hb4 := hb3.grown hg4 hb3.size hge4))
      have HL := Lib.hid (rows_snoc H8.out hll)
      have hbs4 := hb4.size
      have hML := Lib.hid (show (net ++ [l]).length = net.length + 1 by simp)
      have hM := Lib.hid (show ∃ M, M = net ++ [l] from ⟨_, rfl⟩)
      obtain ⟨M, hM⟩ := hM.out
      rw [← hM] at hN4 HL hML
      have C := Lib.hid (sNetValidL n A4 c4 _ _ M w4 (by rw [hML.out]; omega) HL.out hN4.rd (Nat.le_refl _))
      rw [hML.out] at C
      have HM := Lib.hid hM
      clear hM
      go_wp2_with fail
      refine C.out.mono ?_
      rintro e w5 ⟨rfl, hb5⟩
      have hN5 := hN4.below hb5
      have hb45 := hb4.trans (hb5.mono hbs4)
      clear hN4 hb5 hb4
      cases hv : netB n M
      · have hno := Lib.hid (show addNOk n net l = false by unfold addNOk; rw [← HM.out]; exact hv)
        clear hv
        go_wp2_with fail
        go_ret2
        exact retNB_no hb45 (addN_no hno.out) hno.out
      · have hyes := Lib.hid (show addNOk n net l = true by unfold addNOk; rw [← HM.out]; exact hv)
        clear hv
        go_wp2_with fail
        go_ret2
        exact retNB_yes hML.out hb45 ((addN_yes hyes.out).trans HM.out.symm) hyes.out hN5

def RetCloneS (l : List T3) (w : World) (e : Ending) (w' : World) : Prop :=
  ∃ B c, e = .returned (.slice B l.length c) ∧ w'.ownsRow w.heap.size 30 3 (.slice B l.length c) l.length (flat3 l) ∧ Below w.heap.size w w'
theorem retClone0 {l : List T3} {w : World} (h : l = []) : RetCloneS l w (.returned (.slice none 0 0)) w := by
  subst h
  exact ⟨none, 0, rfl, ⟨rfl, .inl ⟨rfl, rfl⟩⟩, Below.refl _ _⟩
set_option maxRecDepth 100000 in
set_option maxHeartbeats 2000000 in
theorem cloneS_any (B : Option Addr) (d lo hi : Nat) (l : List T3) (w : World) (hl : l.length ≤ 1048576) (hr : Rd w lo hi B (flat3 l)) (hh : hi ≤ w.heap.size) :
    Calls Try.prog 69 #[.slice B l.length d] w (RetCloneS l w) := by
  obtain ⟨i0, hi0, hz0, hz1, hz2⟩ := info_parts infoStopA
  have qT : ∀ (w : World) (a : Option Addr) (n c n' c' : Nat), (binOp .eql 31 (.slice a n c) (.slice none n' c')).run Try.prog w = .ok (.bool a.isNone) w := fun w a n c n' c' => Lib.run_eql_slice_nil w _ _ a n c n' c' Try.underlying31
  rcases B with _ | a
  · have h0 : l = [] := by
      cases l with
      | nil => rfl
      | cons g r => obtain ⟨_, _, e, _⟩ := hr 0 (by rw [flat3_length]; simp); cases e
    have HR := Lib.hid (retClone0 (w := w) h0)
    go_enter Try.func69, Try.ntmps69
    go_wp2_with fail
    go_ret
    exact HR.out
  · have ho' : (w.alloc (.cells #[] 30)).ownsRow w.heap.size 30 3 (.slice (some ⟨w.heap.size, 0, none⟩) 0 0) ([] : List T3).length (flat3 []) := own_lit0 w w.heap.size 30 3 (Nat.le_refl _)
    have hbA := below_alloc (Below.refl w.heap.size w) (.cells #[] 30)
    have hrA := hr.below hbA hh
    go_enter Try.func69, Try.ntmps69
    go_wp2_with (at_builtin; go_must (refine wpList_appendA3 rfl _ _ 31 rfl w.heap.size 30 i0 _ Try.underlying31 hi0 hz0 hz1 hz2 rfl (.slice (some ⟨w.heap.size, 0, none⟩) 0 0) [] rfl ho' (some a) l d lo hi hrA rfl (by simp) (by omega) (by simp) ?_); intro P2 d2 w2 hown2 hg2 hor2)
    have hb2 := below_grown hbA hbA.size ho' (Nat.le_refl _) hg2
    simp only [List.nil_append] at hown2 ⊢
    go_ret
    exact ⟨P2, d2, rfl, hown2, hb2⟩

set_option maxRecDepth 100000 in
set_option maxHeartbeats 4000000 in
theorem iPostAdd_any (n : Int) (A : Option Addr) (c lo hi : Nat) (net : Net) (B : Option Addr) (d lo' hi' : Nat) (l : List T3) (w : World) (hl : netSize net ≤ 1048576) (hr : RdN w lo hi A net) (hh : hi ≤ w.heap.size) (hll : l.length ≤ 1048576) (hrl : Rd w lo' hi' B (flat3 l)) (hh' : hi' ≤ w.heap.size) :
    Calls Try.prog 27 #[.int .i64 n, .slice A net.length c, .slice B l.length d] w (RetNB (addN n net l) (addNOk n net l) w) := by
  obtain ⟨hln, h8⟩ := net_lenA hl
  have H8 := Lib.hid h8
  clear h8
  obtain ⟨i1, hi1, hy0, hy1, hy2⟩ := info_parts infoHdr
  go_enter Try.func27, Try.ntmps27
  have hbA := below_alloc (Below.refl w.heap.size w) (.cells #[] 31)
  have hN0 := OwnN.nil w w.heap.size 30 31 (Nat.le_refl _)
  go_wp2_with fail
  go_loopw [14, 8] (fun i v wr => ∃ k : Nat, k ≤ net.length ∧ i = .int .i64 k ∧ (∃ A' c', v = .slice A' (net.take k).length c' ∧ OwnN wr w.heap.size 30 31 (.slice A' (net.take k).length c') (net.take k)) ∧ Below w.heap.size w wr) (fun i _ _ => net.length - (intOf i).toNat)
  case atStart => exact ⟨0, Nat.zero_le _, rfl, ⟨_, _, rfl, hN0⟩, hbA⟩
  case round =>
    obtain ⟨k, hk, rfl, ⟨A', c', rfl, hN⟩, hb⟩ := hrel
    have hbs := hb.size
    clear hbA hN0
    by_cases hlt : k < net.length
    · obtain ⟨b, off, B', cc, rfl, hlo, hhi, c0, hc, hrk⟩ := (hr.below hb hh) k hlt
      have hlk := H8.out k hlt
      have hbw : b < wr.heap.size := by omega
      have HT := Lib.hid (List.take_succ_eq_append_getElem hlt)
      have htl : (net.take k).length ≤ 2097152 := by rw [List.length_take]; omega
      generalize net[k] = row at *
      generalize hT : net.take k = T at *
      go_wp2_with fail
      refine (cloneS_any B' cc lo hi row wr hlk hrk (Nat.le_trans hh hbs)).mono ?_
      rintro e w2 ⟨P2, d2, rfl, hown2, hb2⟩
      have hN2 := hN.bound.below hb2
      have hb02 := hb.trans (hb2.mono hbs)
      have hN3 := hN2.below (below_alloc (Below.refl w2.heap.size w2) (.cells #[.slice P2 row.length d2] 31))
      have hown3 := own_below hown2 (below_alloc (Below.refl w2.heap.size w2) (.cells #[.slice P2 row.length d2] 31))
      have hb3 := below_alloc hb02 (.cells #[.slice P2 row.length d2] 31)
      clear hb2 hN2 hown2 hN hb02
      go_wp2_with (at_builtin; go_must (refine wpList_snocN rfl _ _ 23 rfl w.heap.size wr.heap.size wr.heap.size 30 31 i1 _ Try.underlying23 hi1 hy0 hy1 hy2 rfl A' c' T rfl hN3 P2 d2 row hown3 w2.heap.size (Rd.lit w2 _ _) rfl htl (Nat.le_refl _) hbs hb3.size ?_); intro A4 c4 w4 hN4 hg4 hge4; have hb4 := hb3.grown hg4 hb3.size hge4)
      rw [← HT.out] at hN4
      go_roundw
      case rel => exact ⟨k + 1, by omega, by go_num, ⟨A4, c4, by rw [HT.out]; simp, hN4⟩, hb4⟩
      case measure => simp [intOf]; omega
    · have hkn : k = net.length := by omega
      have hT : net.take k = net := by rw [hkn]; exact List.take_length
      rw [hT] at hN
      have htl : net.length ≤ 2097152 := by omega
      rw [hT]
      clear hT
      subst hkn
      go_wp2_with fail
      refine (cloneS_any B d lo' hi' l wr hll (hrl.below hb hh') (Nat.le_trans hh' hbs)).mono ?_
      rintro e w2 ⟨P2, d2, rfl, hown2, hb2⟩
      have hN2 := hN.bound.below hb2
      have hb02 := hb.trans (hb2.mono hbs)
      have hN3 := hN2.below (below_alloc (Below.refl w2.heap.size w2) (.cells #[.slice P2 l.length d2] 31))
      have hown3 := own_below hown2 (below_alloc (Below.refl w2.heap.size w2) (.cells #[.slice P2 l.length d2] 31))
      have hb3 := below_alloc hb02 (.cells #[.slice P2 l.length d2] 31)
      clear hb2 hN2 hown2 hN hb02
      go_wp2_with (at_builtin; go_must (refine wpList_snocN rfl _ _ 23 rfl w.heap.size wr.heap.size wr.heap.size 30 31 i1 _ Try.underlying23 hi1 hy0 hy1 hy2 rfl A' c' net rfl hN3 P2 d2 l hown3 w2.heap.size (Rd.lit w2 _ _) rfl htl (Nat.le_refl _) hbs hb3.size ?_); intro A4 c4 w4 hN4 hg4 hge4; have hb4 := hb3.grown hg4 hb3.size hge4)
      have HL := Lib.hid (rows_snoc H8.out hll)
      have hbs4 := hb4.size
      have hML := Lib.hid (show (net ++ [l]).length = net.length + 1 by simp)
      have hM := Lib.hid (show ∃ M, M = net ++ [l] from ⟨_, rfl⟩)
      obtain ⟨M, hM⟩ := hM.out
      rw [← hM] at hN4 HL hML
      have HM := Lib.hid hM
      clear hM
      go_wp2_with fail
      refine (iNetValidL n _ _ _ _ net _ (by omega) H8.out (hr.below hb4 hh) (Nat.le_trans hh hbs4)).mono ?_
      rintro e w5 ⟨rfl, hb5⟩
      have hN5 := hN4.below hb5
      have hb45 := hb4.trans (hb5.mono hbs4)
      clear hN4 hb5 hb4
      cases hv0 : netB n net
      · have hno := Lib.hid (add_sub (l := l) hv0)
        clear hv0
        go_wp2_with fail
        go_ret2
        exact retNB_no hb45 (addN_no hno.out) hno.out
      clear hv0
      have C := Lib.hid (iNetValidL n A4 c4 _ _ M w5 (by rw [hML.out]; omega) HL.out hN5.rd (Nat.le_refl _))
      rw [hML.out] at C
      go_wp2_with fail
      refine C.out.mono ?_
      rintro e w6 ⟨rfl, hb6⟩
      have hN6 := hN5.below hb6
      have hb46 := hb45.trans (hb6.mono hb45.size)
      clear hN5 hb6 hb45 C
      cases hv : netB n M
      · have hno := Lib.hid (show addNOk n net l = false by unfold addNOk; rw [← HM.out]; exact hv)
        clear hv
        go_wp2_with fail
        go_ret2
        exact retNB_no hb46 (addN_no hno.out) hno.out
      · have hyes := Lib.hid (show addNOk n net l = true by unfold addNOk; rw [← HM.out]; exact hv)
        clear hv
        go_wp2_with fail
        go_ret2
        exact retNB_yes hML.out hb46 ((addN_yes hyes.out).trans HM.out.symm) hyes.out hN6

end Go.Proofs.Ytdiichfdffhdaaa

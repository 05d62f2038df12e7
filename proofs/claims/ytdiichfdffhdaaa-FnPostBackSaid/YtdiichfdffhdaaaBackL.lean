/-
  Contracts of the program's linked list of stops: opposite, list, checked.
-/
import Derived.Test.YtdiichfdffhdaaaBackMath
import Derived.Test.YtdiichfdffhdaaaStopsI
import Derived.Test.YtdiichfdffhdaaaStopsRun
import Derived.Test.YtdiichfdffhdaaaTri
namespace Go.Proofs.Ytdiichfdffhdaaa
open Go.RowKit

theorem infoStopBL : (Try.prog.info? 30).map (fun i => (i.zero, i.size, i.bytes)) = some (some (.agg #[.int .i64 0, .int .i64 0, .int .i64 0]), 3, 24) := by kernel_rfl
def RetC (l : List T3) (w : World) (e : Ending) (w' : World) : Prop :=
  ∃ p, e = .returned (.pointer p) ∧ Chain w' w.heap.size w'.heap.size p l ∧ Below w.heap.size w w'
theorem Chain.more {w : World} {lo hi lo' hi' : Nat} {p : Option Addr} {l : List T3} (h : Chain w lo hi p l) (h1 : lo' ≤ lo) (h2 : hi ≤ hi') : Chain w lo' hi' p l := by
  induction l generalizing p with
  | nil => exact h
  | cons s r ih =>
    obtain ⟨b, q, rfl, g1, g2, c0, c1, c2, c3, hr⟩ := h
    exact ⟨b, q, rfl, by omega, by omega, c0, c1, c2, c3, ih hr⟩
theorem Chain.alloc {w : World} {lo hi : Nat} {p : Option Addr} {l : List T3} (h : Chain w lo hi p l) (hh : hi ≤ w.heap.size) (o : Obj) : Chain (w.alloc o) lo hi p l :=
  h.keep fun b o' _ h2 => World.cell?_alloc_lt _ _ _ (by show b < _; omega)
theorem Chain.push {w : World} {lo : Nat} {p : Option Addr} {l : List T3} (h : Chain w lo w.heap.size p l) (hl : lo ≤ w.heap.size) (x : T3) (E : TypeId) :
    Chain (w.alloc (.cells #[.int .i64 x.1, .int .i64 x.2.1, .int .i64 x.2.2, .pointer p] E)) lo (w.alloc (.cells #[.int .i64 x.1, .int .i64 x.2.1, .int .i64 x.2.2, .pointer p] E)).heap.size (some ⟨w.heap.size, 0, none⟩) (x :: l) :=
  ⟨w.heap.size, p, rfl, hl, by simp, by simp [go_sem], by simp [go_sem], by simp [go_sem], by simp [go_sem], (h.alloc (Nat.le_refl _) _).more (Nat.le_refl _) (by simp)⟩
theorem cell_grownL {w w' : World} {g b o : Nat} (hg : w.grownBy w' (some g)) (hb : b < w.heap.size) (hne : b ≠ g) : w'.cell? ⟨b, o, none⟩ = w.cell? ⟨b, o, none⟩ :=
  World.cell?_of_block (hg.block b hb (fun e => hne (by injection e)))
def chkV (n : Int) (l : List T3) : List T3 := if stopsB n l then l else []
theorem rev_step (l : List T3) (k : Nat) (hk : k < l.length) : (l.take (k + 1)).reverse = l[k] :: (l.take k).reverse := by
  rw [List.take_succ_eq_append_getElem hk, List.reverse_append]; rfl

set_option maxRecDepth 100000 in
set_option maxHeartbeats 2000000 in
theorem opp_any (p : Option Addr) (lo hi : Nat) (l : List T3) (w : World) (hc : Chain w lo hi p l) (hh : hi ≤ w.heap.size) :
    Calls Try.prog 93 #[.pointer p] w (RetC l.reverse w) := by
  have HC := Lib.hid hc
  clear hc
  go_enter Try.func93, Try.ntmps93
  go_wp2_with fail
  go_loopg [0, 3] l.length (fun g i v wr => ∃ (k : Nat) (Q F : Option Addr), g + k = l.length ∧ i = .pointer Q ∧ v = .pointer F ∧ Chain wr lo hi Q (l.drop k) ∧ Chain wr w.heap.size wr.heap.size F (l.take k).reverse ∧ Below w.heap.size w wr)
  case atStart => exact ⟨0, _, _, by omega, rfl, rfl, by simpa using HC.out, rfl, Below.refl _ _⟩
  case round =>
    obtain ⟨k, Q, F, hgk, rfl, rfl, hcq, hcf, hb⟩ := hrel
    have HGK := Lib.hid hgk
    have hbs := hb.size
    by_cases hlt : k < l.length
    · obtain ⟨b, q', rfl, hlo, hhi, c0, c1, c2, c3, hcr⟩ := chain_at hcq hlt
      have HST := Lib.hid (rev_step l k hlt)
      have hbw : b < wr.heap.size := by omega
      generalize l[k] = x at *
      have HF := Lib.hid (hcf.push hbs x 92)
      have HR := Lib.hid (hcr.alloc (Nat.le_trans hh hbs) (.cells #[.int .i64 x.1, .int .i64 x.2.1, .int .i64 x.2.2, .pointer F] 92))
      clear hcq hcf hcr hgk
      go_wp2_with fail
      go_roundg (gk - 1)
      case rel => exact ⟨k + 1, _, _, by have := HGK.out; omega, rfl, rfl, HR.out, by rw [HST.out]; exact HF.out, below_alloc hb _⟩
      case measure => have := HGK.out; omega
    · obtain rfl := chain_end hcq hlt
      have e : l.take k = l := List.take_of_length_le (by omega)
      rw [e] at hcf
      clear e hgk hcq
      go_wp2_with fail
      go_ret
      exact ⟨F, rfl, hcf, hb⟩

def RetLs (l : List T3) (w : World) (e : Ending) (w' : World) : Prop :=
  ∃ A c, e = .returned (.slice A l.length c) ∧ w'.ownsRow w.heap.size 30 3 (.slice A l.length c) l.length (flat3 l) ∧ Below w.heap.size w w'
set_option maxRecDepth 100000 in
set_option maxHeartbeats 2000000 in
theorem list_any (p : Option Addr) (lo hi : Nat) (l : List T3) (w : World) (hl : l.length ≤ 1048576) (hc : Chain w lo hi p l) (hh : hi ≤ w.heap.size) :
    Calls Try.prog 101 #[.pointer p] w (RetLs l w) := by
  obtain ⟨i0, hi0, hz0, hz1, hz2⟩ := info_parts infoStopBL
  have HC := Lib.hid hc
  clear hc
  have hbA := below_alloc (Below.refl w.heap.size w) (.cells #[] 30)
  have ho0 : (w.alloc (.cells #[] 30)).ownsRow w.heap.size 30 3 (.slice (some ⟨w.heap.size, 0, none⟩) ([] : List T3).length 0) ([] : List T3).length (flat3 []) := own_lit0 w w.heap.size 30 3 (Nat.le_refl _)
  go_enter Try.func101, Try.ntmps101
  go_wp2_with fail
  go_loopg [0, 3] l.length (fun g i v wr => ∃ (k : Nat) (Q : Option Addr) (gb cap : Nat) (L : List T3), g + k = l.length ∧ i = .pointer Q ∧ v = .slice (some ⟨gb, 0, none⟩) L.length cap ∧ Hid (L = l.take k) ∧ Hid (L.length = k) ∧ wr.ownsRow w.heap.size 30 3 (.slice (some ⟨gb, 0, none⟩) L.length cap) L.length (flat3 L) ∧ Chain wr lo hi Q (l.drop k) ∧ Below w.heap.size w wr)
  case atStart => exact ⟨0, _, w.heap.size, 0, [], by omega, rfl, rfl, by simp [Hid], by simp [Hid], ho0, by simpa using HC.out.alloc hh _, hbA⟩
  case round =>
    obtain ⟨k, Q, gb, cap, L, hgk, rfl, rfl, HL, HLn, hown, hcq, hb⟩ := hrel
    have HGK := Lib.hid hgk
    have hbs := hb.size
    clear hbA ho0
    by_cases hlt : k < l.length
    · obtain ⟨b, q', rfl, hlo, hhi, c0, c1, c2, c3, hcr⟩ := chain_at hcq hlt
      have HST := Lib.hid (List.take_succ_eq_append_getElem hlt)
      have hbw : b < wr.heap.size := by omega
      generalize l[k] = x at *
      have HR := Lib.hid (hcr.alloc (Nat.le_trans hh hbs) (.cells #[.int .i64 x.1, .int .i64 x.2.1, .int .i64 x.2.2] 30))
      clear hcq hcr hgk
      have hgl := own_lt hown
      obtain ⟨hgl1, hgl2⟩ := hgl
      have hbg : b ≠ gb := by omega
      have hbw1 : b < (wr.alloc (.cells #[.int .i64 x.1, .int .i64 x.2.1, .int .i64 x.2.2] 30)).heap.size := by rw [World.size_alloc]; omega
      have c31 := (cell_alloc1 (p := ⟨b, 3, none⟩) (.cells #[.int .i64 x.1, .int .i64 x.2.1, .int .i64 x.2.2] 30) hbw).trans c3
      go_wp2_with (at_builtin; go_must (refine wpList_append3 rfl _ _ 31 rfl w.heap.size 30 i0 _ Try.underlying31 hi0 hz0 hz1 hz2 rfl (.slice (some ⟨gb, 0, none⟩) L.length cap) L rfl (hown.alloc _) wr.heap.size x.1 x.2.1 x.2.2 (nb1 _ _) rfl (by have := HLn.out; omega) (ls1 hbs _) ?_); intro g2 cap2 w2 hown2 hg2 hor2 hlt2; have hb2 := below_grown (below_alloc hb _) (ls1 hbs _) (hown.alloc _) (Nat.le_refl _) hg2; have c32 := (cell_grownL (b := b) (o := 3) hg2 hbw1 hbg).trans c31; have hb2w : b < w2.heap.size := Nat.lt_of_lt_of_le hbw1 hg2.size)
      have HR2 := Lib.hid (HR.out.keep (w' := w2) fun b' o h1 h2 => cell_grownL hg2 (by rw [World.size_alloc]; exact Nat.lt_succ_of_lt (Nat.lt_of_lt_of_le h2 (Nat.le_trans hh hbs))) (Nat.ne_of_lt (Nat.lt_of_lt_of_le h2 (Nat.le_trans hh hgl1))))
      clear HR c0 c1 c2 c3 c31
      go_wp2_with fail
      go_roundg (gk - 1)
      case rel =>
        refine ⟨k + 1, _, g2, cap2, L ++ [x], by have := HGK.out; omega, rfl, by simp, ?_, by have := HLn.out; simp [Hid]; omega, by simpa using hown2, HR2.out, hb2⟩
        show L ++ [x] = _
        rw [HST.out, ← HL.out]
      case measure => have := HGK.out; omega
    · obtain rfl := chain_end hcq hlt
      have e : L = l := HL.out.trans (List.take_of_length_le (by omega))
      subst e
      clear hgk hcq
      go_wp2_with fail
      go_ret
      exact ⟨_, _, rfl, hown, hb⟩

set_option maxRecDepth 100000 in
set_option maxHeartbeats 2000000 in
theorem checked_any (n : Int) (p : Option Addr) (lo hi : Nat) (l : List T3) (w : World) (hl : l.length ≤ 1048576) (hc : Chain w lo hi p l) (hh : hi ≤ w.heap.size) :
    Calls Try.prog 96 #[.pointer p, .int .i64 n] w (RetBk 30 (chkV n l) (stopsB n l) w) := by
  go_enter Try.func96, Try.ntmps96
  go_wp2_with fail
  refine (list_any p lo hi l w hl hc hh).mono ?_
  rintro e w1 ⟨A, c, rfl, hown, hb1⟩
  go_wp2_with fail
  refine (iStopsValid n _ _ _ _ l _ hl (Rd.of_own hown) (Nat.le_refl _)).mono ?_
  rintro e w2 ⟨rfl, hb2⟩
  have hown2 := own_below hown hb2
  have hb02 := hb1.trans (hb2.mono hb1.size)
  clear hown hb1 hb2 hc
  cases hv : stopsB n l
  · have HV := Lib.hid hv
    clear hv
    go_wp2_with fail
    go_ret2
    exact retBk_no hb02 (show chkV n l = [] by simp [chkV, HV.out]) HV.out
  · have HV := Lib.hid hv
    clear hv
    go_wp2_with fail
    go_ret2
    exact retBk_yes rfl hb02 (show chkV n l = l by simp [chkV, HV.out]) HV.out hown2

end Go.Proofs.Ytdiichfdffhdaaa

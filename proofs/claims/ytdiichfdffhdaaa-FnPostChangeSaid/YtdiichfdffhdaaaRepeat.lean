/-
  Contract of slices.Repeat at []int with one element, up to eight times.
-/
import Derived.Test.YtdiichfdffhdaaaOwn
import Derived.Laws.CopyOwn
import Derived.Deep.RegionLaw
namespace Go.Proofs.Ytdiichfdffhdaaa
open Go.RowKit

theorem mul64_one (n : Nat) (w : World) (h0 : 1 ≤ n) (h1 : n ≤ 8) :
    Calls Try.prog 103 #[.int .u64 1, .int .u64 n] w fun e w' => e = .returned (.tuple #[.int .u64 0, .int .u64 n]) ∧ w = w' := by
  have hm1 : bits BinOp.and IntKind.u64 1 4294967295 = 1 := by decide +kernel
  have hm0 : bits BinOp.and IntKind.u64 0 4294967295 = 0 := by decide +kernel
  have key : ∀ k : Nat, k ≤ 8 → bits BinOp.and IntKind.u64 (k : Int) 4294967295 = (k : Int) := by decide +kernel
  have hmn := key n h1
  have hd : ((n : Int) / 4294967296) = 0 := by omega
  clear key
  go_enter Try.func103, Try.ntmps103
  go_wp2
  go_ret2
  exact ⟨by simp, rfl⟩
theorem mul_one (n : Nat) (w : World) (h0 : 1 ≤ n) (h1 : n ≤ 8) :
    Calls Try.prog 97 #[.int .u64 1, .int .u64 n] w fun e w' => e = .returned (.tuple #[.int .u64 0, .int .u64 n]) ∧ w = w' := by
  go_enter Try.func97, Try.ntmps97
  go_wp2_with (go_at_call 103; refine (mul64_one n _ h0 h1).mono ?_; rintro e w' ⟨rfl, rfl⟩)
  go_ret2
  exact ⟨by simp, rfl⟩

theorem infoIntR : (Try.prog.info? 3).map (fun i => (i.zero, i.size, i.bytes)) = some (some (.int .i64 0), 1, 8) := by kernel_rfl
theorem infoIntR1 : (Try.prog.info? 3).map (·.size) = some 1 := by kernel_rfl
def RetR (x : Int) (n : Nat) (w : World) (e : Ending) (w' : World) : Prop :=
  e = .returned (.slice (some ⟨w.heap.size, 0, none⟩) n n) ∧ w'.ownsRow w.heap.size 3 1 (.slice (some ⟨w.heap.size, 0, none⟩) n n) n (ints (List.replicate n x)) ∧ Below w.heap.size w w'
theorem splice_rep (x y : Value) (n k m : Nat) (h : k + m ≤ n) : splice (List.replicate k x ++ List.replicate (n - k) y) k (List.replicate m x) = List.replicate (k + m) x ++ List.replicate (n - (k + m)) y := by
  unfold splice
  rw [List.take_left' (by simp), List.drop_append, List.drop_eq_nil_of_le (by simp), List.nil_append, List.length_replicate, List.length_replicate, List.drop_replicate, ← List.append_assoc, List.replicate_append_replicate]
  congr 2; omega
theorem made_ints (n : Nat) : (madeCells (Value.int .i64 0).cells (n * 1)).toList = List.replicate n (.int .i64 0) := by
  rw [Nat.mul_one]
  show (madeCells #[Value.int .i64 0] n).toList = _
  rw [toList_madeCells_one]

theorem made_block {w1 : World} {base g n : Nat} {E : TypeId} {xs : List Value} (hown : w1.ownsRow base E 1 (.slice (some ⟨g, 0, none⟩) n n) n xs) : w1.heap[g]? = some (.cells xs.toArray E (0, 0)) := by
  rcases hown.2 with ⟨h1, _⟩ | ⟨g', cap, cur, h1, _, h3, _, _, h6, h7⟩
  · cases h1
  · injection h1 with e1 _ e3
    subst e3
    injection e1 with e1; injection e1 with e1; subst e1
    rw [List.take_of_length_le (by rw [Array.length_toList, h6]; exact Nat.le_refl _)] at h7
    rw [h3, ← h7]
theorem own_of_block {w1 : World} {base g n : Nat} {E : TypeId} {xs : List Value} (hb : w1.heap[g]? = some (.cells xs.toArray E (0, 0))) (hn : xs.length = n) (hm : n ≤ maxLen) (hbase : base ≤ g) : w1.ownsRow base E 1 (.slice (some ⟨g, 0, none⟩) n n) n xs :=
  ⟨by omega, .inr ⟨g, n, xs.toArray, rfl, hbase, hb, Nat.le_refl _, hm, by simp [hn], by simp [← hn]⟩⟩
theorem block_cell {w1 : World} {g : Nat} {E : TypeId} {xs : List Value} (hb : w1.heap[g]? = some (.cells xs.toArray E (0, 0))) (j : Nat) (v : Value) (hv : xs[j]? = some v) : w1.cell? ⟨g, j, none⟩ = some v := by
  unfold World.cell?
  rw [hb]
  simpa using hv

set_option maxRecDepth 100000 in
set_option maxHeartbeats 2000000 in
theorem repeat_any (x : Int) (g0 c0 : Nat) (n : Nat) (w : World) (h0 : 1 ≤ n) (h1 : n ≤ 8) (hx : w.cell? ⟨g0, 0, none⟩ = some (.int .i64 x)) (hg0 : g0 < w.heap.size) :
    Calls Try.prog 77 #[.slice (some ⟨g0, 0, none⟩) 1 c0, .int .i64 n] w (RetR x n w) := by
  obtain ⟨i0, hi0, hz0, hz1, hz2⟩ := info_parts infoIntR
  have hc1 : i0.bytes * n ≤ 281474976710656 := by rw [hz2]; omega
  have hc2 : n ≤ maxLen := by simp only [maxLen]; omega
  have hmul := Lib.hid (mul_one n w h0 h1)
  have w1 : IntKind.u64.wrap (n : Int) = (n : Int) := by rw [IntKind.wrap_u64]; omega
  have w2 : IntKind.i64.wrap (n : Int) = (n : Int) := IntWalk.i64_in _ (by omega)
  go_enter Try.func77, Try.ntmps77
  have HX := Lib.hid hx
  clear hx
  go_wp2_with (first
    | (go_at_call 97; refine hmul.out.mono ?_; rintro e w' ⟨rfl, rfl⟩)
    | (at_make; go_must (refine wpList_make_full _ rfl _ _ 48 rfl w.heap.size 3 i0 _ 1 Try.underlying48 hi0 hz0 hz1 _ _ _ _ n rfl rfl rfl rfl hc1 hc2 (Nat.le_refl _) ?_); intro w1 hown hg; rw [made_ints] at hown; have hblk := Lib.hid (made_block hown); have hbl := (Below.refl w.heap.size w).grown hg (Nat.le_refl _) (by simp); have hz := hbl.size; clear hown hg)
    | (with_reducible refine wpList_copy_splice rfl (.tmp 31) (.tmp 32) 48 48 rfl 3 Try.underlying48 infoIntR1 _ _ _ _ _ _ rfl rfl w.heap.size 0 _ 3 hblk.out [.int .i64 x] (Nat.min_eq_left h0).symm (fun _ => ⟨rfl, ⟨g0, 0, none⟩, rfl, (by intro j v hv; cases j with | zero => (simp only [List.getElem?_cons_zero, Option.some.injEq] at hv; subst hv; rw [Addr.add_lit]; exact (hbl.cell (p := ⟨g0, 0, none⟩) hg0).trans HX.out) | succ j => simp at hv)⟩) (by simp; omega) (by simp [Value.oneCell']) w.heap.size w hbl (Nat.le_refl _) ?_; intro w3 HG3 hB3))
  have HB := Lib.hid (show w3.heap[w.heap.size]? = some (.cells (List.replicate 1 (Value.int .i64 x) ++ List.replicate (n - 1) (Value.int .i64 0)).toArray 3 (0, 0)) by
    have := HG3.out
    rw [show splice (List.replicate n (Value.int .i64 0)) 0 [Value.int .i64 x] = List.replicate 1 (Value.int .i64 x) ++ List.replicate (n - 1) (Value.int .i64 0) by simpa using splice_rep (Value.int .i64 x) (Value.int .i64 0) n 0 1 (by omega)] at this
    exact this)
  clear hblk HG3 hbl hz
  go_loopw [8] (fun i wr => ∃ k : Nat, 1 ≤ k ∧ k ≤ n ∧ i = .int .i64 k ∧ Hid (wr.heap[w.heap.size]? = some (.cells (List.replicate k (Value.int .i64 x) ++ List.replicate (n - k) (Value.int .i64 0)).toArray 3 (0, 0))) ∧ Below w.heap.size w wr) (fun i _ => n - (intOf i).toNat)
  case atStart => exact ⟨1, by omega, h0, rfl, HB, hB3⟩
  case round =>
    obtain ⟨k, hk0, hk1, rfl, HK, hbk⟩ := hrel
    clear HB hB3
    by_cases hlt : k < n
    · have hzk := hbk.size
      obtain ⟨d, hd1, hd2, hd3, hd4⟩ : ∃ d : Nat, d = Nat.min k (n - k) ∧ d ≤ n - k ∧ d ≤ k ∧ 1 ≤ d := ⟨_, rfl, Nat.min_le_right _ _, Nat.min_le_left _ _, Nat.le_min.2 ⟨hk0, by omega⟩⟩
      have HMN := Lib.hid (show (List.replicate d (Value.int .i64 x)).length = Nat.min k (n - k) by rw [List.length_replicate, hd1])
      clear hd1
      have HKd := Lib.hid (show wr.drew.heap[w.heap.size]? = some (.cells (List.replicate k (Value.int .i64 x) ++ List.replicate (n - k) (Value.int .i64 0)).toArray 3 (0, 0)) from HK.out)
      have hbd : Below w.heap.size w wr.drew := hbk.drew
      have HP := Lib.hid (show ∀ (j : Nat) (v : Value), (List.replicate d (Value.int .i64 x))[j]? = some v → wr.drew.cell? ((⟨w.heap.size, 0, none⟩ : Addr).add j) = some v from fun j v hv => by
          rw [Addr.add_lit, Nat.zero_add]
          refine block_cell HKd.out j v ?_
          rw [List.getElem?_replicate] at hv
          split at hv
          · rename_i hj
            rw [List.getElem?_append_left (by rw [List.length_replicate]; omega), List.getElem?_replicate, if_pos (by omega)]; exact hv
          · cases hv)
      have hne : (n = k) = False := by simp; omega
      have HF := Lib.hid (show k + (List.replicate d (Value.int .i64 x)).length ≤ (List.replicate k (Value.int .i64 x) ++ List.replicate (n - k) (Value.int .i64 0)).length by simp; omega)
      have H1 := Lib.hid (show ∀ v ∈ List.replicate d (Value.int .i64 x), v.oneCell' = true by intro v hv; rw [List.eq_of_mem_replicate hv]; rfl)
      have HK2l : k + d ≤ n := by omega
      have hwr : IntKind.i64.wrap ((k : Int) + (d : Int)) = (k : Int) + (d : Int) := IntWalk.i64_in _ (by omega)
      go_wp2_with fail
      go_region_law (refine step_copy_splice rfl (.tmp 41) (.tmp 44) 48 48 rfl 3 Try.underlying48 infoIntR1 (some ⟨w.heap.size, k, none⟩) (some ⟨w.heap.size, 0, none⟩) (n - k) (n - k) k n (by simp [Act.eval, Act.put]) (by simp [Act.eval, Act.put]) w.heap.size k _ 3 HKd.out (List.replicate d (Value.int .i64 x)) HMN.out (fun _ => ⟨rfl, _, rfl, HP.out⟩) HF.out H1.out w.heap.size w hbd (Nat.le_refl _) ?_; intro w4 HG4 hB4)
      all_goals
        have HK2 := Lib.hid (show w4.heap[w.heap.size]? = some (.cells (List.replicate (k + d) (Value.int .i64 x) ++ List.replicate (n - (k + d)) (Value.int .i64 0)).toArray 3 (0, 0)) by
          have := HG4.out
          rw [splice_rep _ _ _ _ _ HK2l] at this
          exact this)
        clear hwr
        go_simp
        go_wp2_with fail
        go_roundw
        case rel => exact ⟨k + d, by omega, by omega, by go_num, HK2, hB4⟩
        case measure => simp [intOf]; omega
    · obtain rfl : k = n := by omega
      have hown := own_of_block (base := w.heap.size) HK.out (n := k) (by simp) hc2 (Nat.le_refl _)
      have HO := Lib.hid (show wr.ownsRow w.heap.size 3 1 (.slice (some ⟨w.heap.size, 0, none⟩) k k) k (ints (List.replicate k x)) by
        simpa [ints] using hown)
      clear hown hmul
      go_wp2_with fail
      go_ret
      exact ⟨rfl, HO.out, hbk⟩

end Go.Proofs.Ytdiichfdffhdaaa

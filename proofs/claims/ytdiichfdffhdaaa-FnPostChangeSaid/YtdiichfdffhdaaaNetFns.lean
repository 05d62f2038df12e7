/-
  Contracts on nets: the law's helpers (count, copy, compare), NetValid of the reference and of the program.
-/
import Derived.Test.YtdiichfdffhdaaaNet
import Derived.Test.YtdiichfdffhdaaaStopsS
import Derived.Test.YtdiichfdffhdaaaStopsI
namespace Go.Proofs.Ytdiichfdffhdaaa
open Go.RowKit

def szV (left : Int) (s : Nat) : Int := if left < s then -1 else left - s
def RetN (E EH : TypeId) (net : Net) (w : World) (e : Ending) (w' : World) : Prop :=
  ∃ A c, e = .returned (.slice A net.length c) ∧ OwnN w' w.heap.size E EH (.slice A net.length c) net ∧ Below w.heap.size w w'
def netB (n : Int) (net : Net) : Bool := decide (1 ≤ n ∧ n ≤ 8 ∧ net.length ≤ 6) && net.all (stopsB n)
theorem netAll_take_succ {n : Int} {net : Net} (k : Nat) (hk : k < net.length) (h : (net.take k).all (stopsB n) = true) (hd : stopsB n net[k] = true) : (net.take (k + 1)).all (stopsB n) = true := by
  rw [List.take_succ_eq_append_getElem hk, List.all_append, h]; simp [hd]
theorem netAll_false {n : Int} {net : Net} (k : Nat) (hk : k < net.length) (hd : stopsB n net[k] = false) : netB n net = false := by
  have : net.all (stopsB n) = false := by rw [List.all_eq_false]; exact ⟨net[k], List.getElem_mem hk, by simp [hd]⟩
  rw [netB, this, Bool.and_false]

set_option maxHeartbeats 1000000 in
theorem sNetValid (n : Int) (A : Option Addr) (c lo hi : Nat) (net : Net) (w : World) (hl : netSize net ≤ 1048576) (hr : RdN w lo hi A net) (hh : hi ≤ w.heap.size) :
    Calls Try.prog 64 #[.int .i64 n, .slice A net.length c] w fun e w' => e = .returned (.bool (netB n net)) ∧ Below w.heap.size w w' := by
  have hln : net.length ≤ 1048576 := by unfold netSize at hl; omega
  go_enter Try.func64, Try.ntmps64
  go_wp2_with fail
  go_loopw [5] (fun i wr => ∃ k : Nat, k ≤ net.length ∧ i = .int .i64 k ∧ Hid ((net.take k).all (stopsB n) = true) ∧ Below w.heap.size w wr) (fun i _ => net.length - (intOf i).toNat)
  case atStart => exact ⟨0, Nat.zero_le _, rfl, by simp [Hid], Below.refl _ _⟩
  case round =>
    obtain ⟨k, hk, rfl, H, hb⟩ := hrel
    have hbs := hb.size
    by_cases hlt : k < net.length
    · obtain ⟨b, off, B, cc, rfl, _, _, c0, hc, hrk⟩ := (hr.below hb hh) k hlt
      have hlk : net[k].length ≤ 1048576 := by have := netSum_get net k hlt; unfold netSize at hl; omega
      have hno := Lib.hid (fun h => netAll_false (n := n) k hlt h)
      have hgo := Lib.hid (fun h => netAll_take_succ (n := n) k hlt H.out h)
      generalize net[k] = l at *
      go_wp2_with fail
      refine (sStopsValid n _ _ _ _ l _ hlk hrk (Nat.le_trans hh hbs)).mono ?_
      rintro e w1 ⟨rfl, hb1⟩
      have hb01 := hb.trans (hb1.mono hbs)
      cases hv : stopsB n l
      · have hres := Lib.hid (hno.out hv)
        clear hv hno hgo
        go_wp2_with fail
        go_ret
        exact ⟨ret_bool hres.out.symm, hb01⟩
      · have hres := Lib.hid (hgo.out hv)
        clear hv hno hgo
        go_wp2_with fail
        go_roundw
        case rel => exact ⟨k + 1, by omega, by go_num, hres, hb01⟩
        case measure => simp [intOf]; omega
    · have hres := Lib.hid (show netB n net = (inB n 1 8 && decide (net.length ≤ 6)) by
        have h := H.out
        rw [List.take_of_length_le (by omega)] at h
        rw [netB, h, Bool.and_true, inB]
        rw [Bool.eq_iff_iff]
        simp only [decide_eq_true_eq, Bool.and_eq_true]
        omega)
      go_wp2_with fail
      refine (l6In_any _ _ _ _).mono ?_
      rintro e w1 ⟨rfl, rfl⟩
      cases hv : inB n 1 8
      · have HV := Lib.hid hv
        clear hv
        go_wp2_with fail
        go_ret
        exact ⟨ret_bool (by rw [hres.out, HV.out]; rfl), hb⟩
      · have HV := Lib.hid hv
        clear hv
        go_wp2_with fail
        go_ret
        refine ⟨ret_bool ?_, hb⟩
        rw [hres.out, HV.out, Bool.true_and, Bool.eq_iff_iff]
        simp
        omega

set_option maxHeartbeats 1000000 in
theorem iNetValid (n : Int) (A : Option Addr) (c lo hi : Nat) (net : Net) (w : World) (hl : netSize net ≤ 1048576) (hr : RdN w lo hi A net) (hh : hi ≤ w.heap.size) :
    Calls Try.prog 37 #[.int .i64 n, .slice A net.length c] w fun e w' => e = .returned (.bool (netB n net)) ∧ Below w.heap.size w w' := by
  have hln : net.length ≤ 1048576 := by unfold netSize at hl; omega
  by_cases hs : 1 ≤ n ∧ n ≤ 8 ∧ net.length ≤ 6
  case neg =>
    have hres := Lib.hid (show netB n net = false by rw [netB, decide_eq_false hs, Bool.false_and])
    go_enter Try.func37, Try.ntmps37
    go_wp2_with fail
    all_goals first
      | (exfalso; omega)
      | (go_ret; exact ⟨ret_bool hres.out.symm, Below.refl _ _⟩)
  case pos =>
    have hall := Lib.hid (show netB n net = net.all (stopsB n) by rw [netB, decide_eq_true hs, Bool.true_and])
    obtain ⟨hn1, hn2, hn6⟩ := hs
    have hno0 := Lib.hid (fun k hk h => netAll_false (n := n) (net := net) k hk h)
    go_enter Try.func37, Try.ntmps37
    go_wp2_with fail
    go_loopw [20] (fun i wr => ∃ k : Nat, k ≤ net.length ∧ i = .int .i64 k ∧ Hid ((net.take k).all (stopsB n) = true) ∧ Below w.heap.size w wr) (fun i _ => net.length - (intOf i).toNat)
    case atStart => exact ⟨0, Nat.zero_le _, rfl, by simp [Hid], Below.refl _ _⟩
    case round =>
      obtain ⟨k, hk, rfl, H, hb⟩ := hrel
      have hbs := hb.size
      by_cases hlt : k < net.length
      · obtain ⟨b, off, B, cc, rfl, _, _, c0, hc, hrk⟩ := (hr.below hb hh) k hlt
        have hlk : net[k].length ≤ 1048576 := by have := netSum_get net k hlt; unfold netSize at hl; omega
        have hno := Lib.hid (fun h => hno0.out k hlt h)
        have hgo := Lib.hid (fun h => netAll_take_succ (n := n) k hlt H.out h)
        generalize net[k] = l at *
        go_wp2_with fail
        refine (iStopsValid n _ _ _ _ l _ hlk hrk (Nat.le_trans hh hbs)).mono ?_
        rintro e w1 ⟨rfl, hb1⟩
        have hb01 := hb.trans (hb1.mono hbs)
        cases hv : stopsB n l
        · have hres := Lib.hid (hno.out hv)
          clear hv hno hgo
          go_wp2_with fail
          go_ret
          exact ⟨ret_bool hres.out.symm, hb01⟩
        · have hres := Lib.hid (hgo.out hv)
          clear hv hno hgo
          go_wp2_with fail
          go_roundw
          case rel => exact ⟨k + 1, by omega, by go_num, hres, hb01⟩
          case measure => simp [intOf]; omega
      · have hres := Lib.hid (show netB n net = true by
          have h := H.out
          rw [List.take_of_length_le (by omega)] at h
          rw [hall.out, h])
        go_wp2_with fail
        go_ret
        exact ⟨ret_bool hres.out.symm, hb⟩

end Go.Proofs.Ytdiichfdffhdaaa

/-
  Plain laws of slacks and waits.
-/
import Derived.Test.YteceohdchknbbaaStopsRun
import Derived.Test.YteceohdchknbbaaLateLaws2
namespace Go.Proofs.Yteceohdchknbbaa
open Go.RowKit

theorem slacks0_sum {n : Int} {l : List T3} (h : stopsB n l = true) (hl : l.length - 1 < l.length) : sumI (slacks 0 l) = waitS n l + l[l.length - 1].2.2 - l[l.length - 1].2.1 := by
  obtain ⟨_, _, h2, _⟩ := stopsB_n h
  have hg := fun k (hk : k < l.length) => stopsB_get h k hk
  rw [waitS, if_pos h]
  have e1 : sumI (slacks 0 l) = sumI ((l.drop 1).map durS) := by
    cases l with
    | nil => simp at h2
    | cons s r =>
      have : r.map (slackOf 0) = r.map durS := by
        apply List.map_congr_left
        intro x hx
        obtain ⟨k, hk, rfl⟩ := List.mem_iff_getElem.1 hx
        have := hg (k + 1) (by simpa using hk)
        simp only [List.getElem_cons_succ] at this
        unfold slackOf durS; omega
      simp [slacks, sumI_cons, this]
  rw [e1]
  have hp : 0 < ((l.drop 1).map durS).length := by simp; omega
  have e2 := sumI_init ((l.drop 1).map durS) hp
  have e3 : ((l.drop 1).map durS).length - 1 = l.length - 2 := by simp; omega
  have e4 : ((l.drop 1).map durS)[((l.drop 1).map durS).length - 1] = durS l[l.length - 1] := by
    simp only [List.getElem_map, List.getElem_drop]
    congr 2
    simp; omega
  rw [e2, e4, e3, ← List.map_take]
  unfold durS; omega
theorem waitS_bd {n : Int} {l : List T3} : -1 ≤ waitS n l ∧ waitS n l ≤ 100000 := by
  unfold waitS
  split
  · rename_i h
    obtain ⟨_, _, h2, h8⟩ := stopsB_n h
    have := sumI_bd (((l.drop 1).take (l.length - 2)).map durS) 10000 (fun k hk => by
      simp only [List.getElem_map, List.getElem_take, List.getElem_drop]
      simp only [List.length_map, List.length_take, List.length_drop] at hk
      have := stopsB_get h (1 + k) (by omega)
      unfold durS; omega)
    simp only [List.length_map, List.length_take, List.length_drop] at this
    omega
  · omega
theorem slackOk_zero {n : Int} {l : List T3} {least : Int} (h : slackOk n l least = true) : slackOk n l 0 = true := by
  obtain ⟨hv, _, _⟩ := slackOk_and h
  simp only [slackOk, hv, Bool.true_and]; exact inB_true (by omega)

end Go.Proofs.Yteceohdchknbbaa

/-
  Plain words on the fewest rides.
-/
import Derived.Test.YtdiichfdffhdaaaPostMath
namespace Go.Proofs.Ytdiichfdffhdaaa

def fewN (n : Int) (net : Net) (f t0 ch to : Int) : Nat → Nat → Nat
  | 0, k => k
  | fuel + 1, k => if 0 ≤ tg (tabK n net f t0 ch k) to then k else fewN n net f t0 ch to fuel (k + 1)
theorem fewN_here {n : Int} {net : Net} {f t0 ch to : Int} {k : Nat} (h : 0 ≤ tg (tabK n net f t0 ch k) to) (fuel i : Nat) (hi : i ≤ k) (hk : k ≤ i + fuel) (hno : ∀ j, i ≤ j → j < k → ¬ 0 ≤ tg (tabK n net f t0 ch j) to) : fewN n net f t0 ch to fuel i = k := by
  induction fuel generalizing i with
  | zero => have : i = k := by omega
            exact this
  | succ fuel ih =>
    unfold fewN
    by_cases e : i = k
    · subst e; rw [if_pos h]
    · rw [if_neg (hno i (Nat.le_refl _) (by omega))]
      exact ih (i + 1) (by omega) (by omega) (fun j h1 h2 => hno j (by omega) h2)
/-- Somebody who gets there at all gets there with fewer rides than towns. -/
theorem few_some {n : Int} {net : Net} {f t0 ch to : Int} (hok : postOk n net f t0 ch = true) (hto : 0 ≤ to ∧ to < n) (h : 0 ≤ tg (tableL n net f t0 ch) to) : ∃ m : Nat, m + 1 ≤ n.toNat ∧ 0 ≤ tg (tabK n net f t0 ch m) to := by
  obtain ⟨hnet, hf, ht, hch, hn⟩ := postOk_and hok
  have hT := tableL_is hok
  have hk := (hT.2 to hto.1 hto.2).2.1 (by rw [keyF_nn h]; have := (hT.1.tg hto.1 hto.2).2; omega)
  obtain ⟨y, hy, hr⟩ := least_fast (edF_ok hnet hch.1) hf.1 hf.2 ht.1 (by omega) (k := n.toNat - 1) (by omega) hk
  refine ⟨n.toNat - 1, by omega, ?_⟩
  have h1 := ((tabK_is hok (n.toNat - 1)).2 to hto.1 hto.2).2.2 y hr
  rw [keyF_nn h] at hy
  exact (keyF_le (x := y) h1 (by have := (hT.1.tg hto.1 hto.2).2; omega)).1
def fewV (n : Int) (net : Net) (f to t0 ch : Int) : Int := if postOk n net f t0 ch && inB to 0 (n - 1) && decide (0 ≤ tg (tableL n net f t0 ch) to) then (fewN n net f t0 ch to n.toNat 0 : Nat) else -1
/-- One round more. -/
theorem step_done {n : Int} {net : Net} {f t0 ch : Int} {k : Nat} {T T2 : List Int} (hok : postOk n net f t0 ch = true) (hT : IsTabK n net f t0 ch k T) (h2 : TabOk n T2) (hle : LeT T2 T) (hs : SndT n (Rk (EdF net f ch) f t0 (k + 1)) T2) (hc : ∀ a b, Hop net a b → rdyB T f ch a = true → keyF T2 b.1 ≤ b.2.1) : T2 = stepL f ch net T := by
  obtain ⟨hnet, hf, ht, hch, hn⟩ := postOk_and hok
  refine IsTabK.eq (n := n) (net := net) (f := f) (t0 := t0) (ch := ch) (k := k + 1) ⟨h2, fun v h0 h1 => ⟨(h2.key h0 h1).1, fun hk => ?_, fun x hx => ?_⟩⟩ (step_isTabK hok hT)
  · obtain ⟨k1, k2⟩ := keyF_lt hk
    rw [k2]; exact hs v h0 h1 k1
  · rcases hx with hx | ⟨u, y, thr, hu, ⟨a, b, hh, rfl, rfl, rfl, rfl⟩, hy⟩
    · exact Int.le_trans (hle v) ((hT.2 v h0 h1).2.2 x hx)
    · have ho := hop_ok hnet hh
      refine hc a b hh ((rdy_key (by omega) hch.1).2 ?_)
      have := (hT.2 a.1 (by omega) (by omega)).2.2 y hu
      omega

end Go.Proofs.Ytdiichfdffhdaaa

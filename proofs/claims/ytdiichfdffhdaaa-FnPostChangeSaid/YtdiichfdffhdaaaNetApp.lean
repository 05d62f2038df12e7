/-
  append of one row to a net of the call's own; slices.Clone of stops.
-/
import Derived.Test.YtdiichfdffhdaaaNetMark
import Derived.Test.YtdiichfdffhdaaaReverse
import Derived.Lib.SliceRun
namespace Go.Proofs.Ytdiichfdffhdaaa
open Go.RowKit

theorem Rd.lit (w : World) (v : Value) (E : TypeId) : Rd (w.alloc (.cells #[v] E)) w.heap.size (w.heap.size + 1) (some ⟨w.heap.size, 0, none⟩) [v] := by
  intro k hk
  have : k = 0 := by simpa using hk
  subst this
  exact ⟨w.heap.size, 0, rfl, Nat.le_refl _, Nat.lt_succ_self _, by simp [go_sem]⟩
theorem blks_cons (v : Value) (hs : List Value) : blks (v :: hs) = blks [v] ++ blks hs := by
  rw [← blks_append]; rfl
theorem blks_one_mem {v : Value} {b : Nat} : b ∈ blks [v] ↔ v.ownBlock = some b := by
  simp [blks]
theorem blks_one_nodup (v : Value) : (blks [v]).Nodup := by
  cases h : v.ownBlock <;> simp [blks, h]
theorem own_weaken {w : World} {B B' e size n : Nat} {v : Value} {xs : List Value} (h : w.ownsRow B' e size v n xs) (hB : B ≤ B') : w.ownsRow B e size v n xs := by
  refine ⟨h.1, ?_⟩
  rcases h.2 with h1 | ⟨g, cap, cur, h1, h2, h3⟩
  · exact .inl h1
  · exact .inr ⟨g, cap, cur, h1, Nat.le_trans hB h2, h3⟩
section
variable {P : Program} {w w' : World} {base top base1 : Nat} {E EH : TypeId} {v v' u : Value} {net : Net} {l : List T3} {hs : List Value}
theorem own_snoc (h1 : w.ownsRow base EH 1 v net.length hs) (h2 : OwnRows w base E hs net) (h3 : (blks (v :: hs)).Nodup) (h4 : ∀ b ∈ blks (v :: hs), b < top) (htop : top ≤ base1) (hb1 : base ≤ base1)
    (hu : ∃ B c, u = .slice B l.length c) (hrow : w.ownsRow base1 E 3 u l.length (flat3 l)) (hg : w.grownBy w' v.ownBlock) (hv' : v'.ownBlock = v.ownBlock ∨ v'.ownBlock = some w.heap.size)
    (ho : w'.ownsRow base EH 1 v' (net.length + 1) (hs ++ [u])) : OwnN w' base E EH v' (net ++ [l]) := by
  have hvlt : ∀ b, v.ownBlock = some b → b < top := fun b e => h4 b (by rw [blks_cons]; exact List.mem_append_left _ (blks_one_mem.2 e))
  have hslt : ∀ b ∈ blks hs, b < top := fun b e => h4 b (by rw [blks_cons]; exact List.mem_append_right _ e)
  have hult : ∀ b, u.ownBlock = some b → base1 ≤ b ∧ b < w.heap.size := fun b e => hrow.lt b e
  rw [blks_cons, List.nodup_append] at h3
  obtain ⟨n1, n2, n3⟩ := h3
  have hrow' : w'.ownsRow base E 3 u l.length (flat3 l) := by
    have h := hrow.kept hg (by
      cases hv : u.ownBlock with
      | none => exact .inl rfl
      | some k => exact .inr (fun e => by have := hvlt k e.symm; have := hult k hv; omega))
    exact own_weaken h hb1
  refine ⟨hs ++ [u], by simpa using ho, (h2.keep fun x hx n xs h => h.kept hg ?_).snoc hu hrow', ?_⟩
  · cases hv : x.ownBlock with
    | none => exact .inl rfl
    | some k =>
      refine .inr (fun e => ?_)
      exact n3 k (blks_one_mem.2 e.symm) k (List.mem_filterMap.2 ⟨x, hx, hv⟩) rfl
  · rw [blks_cons, blks_append, List.nodup_append]
    have hlt2 := h2.lt
    refine ⟨blks_one_nodup _, ?_, ?_⟩
    · rw [List.nodup_append]
      refine ⟨n2, blks_one_nodup _, ?_⟩
      intro a ha b hb e
      subst e
      have := hslt a ha; have := hult a (blks_one_mem.1 hb); omega
    · intro a ha b hb e
      subst e
      rw [blks_one_mem] at ha
      rw [List.mem_append, blks_one_mem] at hb
      rcases hv' with e | e
      · rw [e] at ha
        rcases hb with hb | hb
        · exact n3 a (blks_one_mem.2 ha) a hb rfl
        · have := hvlt a ha; have := hult a hb; omega
      · rw [e] at ha
        injection ha with ha
        rcases hb with hb | hb
        · have := hlt2 a hb; omega
        · have := hult a hb; omega
variable {ops : Array Oper} {rest : List Oper} {o : Oper} {a : Act} {Q : Exit → Act → World → Prop}
/-- append(net, row). -/
theorem wpList_snocN (hgd : o.guard = none) (s x : Operand) (t : TypeId) (ho : o.op = .call { callee := .builtin .append, args := #[s, x], argTypes := #[t, t] })
    (base top base1 : Nat) (E EH : TypeId) (i : TypeInfo) (z : Value) (ht : P.underlying t = some (.slice EH)) (hi : P.info? EH = some i) (hz : i.zero = some z) (hsize : i.size = 1) (hby : i.bytes = 24) (hzs : z.cells.size = 1)
    (A : Option Addr) (c : Nat) (net : Net) (hs : a.eval s = .slice A net.length c) (hN : OwnNB w base top E EH (.slice A net.length c) net) (B : Option Addr) (d : Nat) (l : List T3) (hrow : w.ownsRow base1 E 3 (.slice B l.length d) l.length (flat3 l))
    (n : Nat) (hn : Rd w n (n + 1) (some ⟨n, 0, none⟩) [.slice B l.length d]) (hx : a.eval x = .slice (some ⟨n, 0, none⟩) 1 1) (hl : net.length ≤ 2097152) (htop : top ≤ base1) (hbt : base ≤ base1) (hbase : base ≤ w.heap.size)
    (h : ∀ A' c' w', OwnN w' base E EH (.slice A' (net ++ [l]).length c') (net ++ [l]) → w.grownBy w' (Value.slice A net.length c).ownBlock → (∀ b, (Value.slice A net.length c).ownBlock = some b → base ≤ b) → wpList P ops Q rest (a.put o.dst (.slice A' (net ++ [l]).length c')) w') : wpList P ops Q (o :: rest) a w := by
  obtain ⟨hh, h1, h2, h3, h4⟩ := hN
  refine wpList_plain hgd fun _ hK => wp_appendRd s x t ho base EH i z 1 24 ht hi hz hsize hby hzs (by omega) _ net.length hh hs h1 n (n + 1) (some ⟨n, 0, none⟩) 1 1 [.slice B l.length d] hx hn rfl (by simp [Value.oneCell']) (by unfold maxLen; omega) (by omega) hbase ?_
  intro A' c' w' g1 g2 g3
  have e1 : net.length + 1 = (net ++ [l]).length := by simp
  have key := own_snoc (v' := .slice A' (net.length + 1) c') h1 h2 h3 h4 htop hbt ⟨B, d, rfl⟩ hrow g2 g3 g1
  rw [e1] at key ⊢
  exact hK _ _ (h A' c' w' key g2 fun b e => (h1.lt b e).1)
end

end Go.Proofs.Ytdiichfdffhdaaa

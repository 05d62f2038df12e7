/-
  Contracts of the drawer of inputs: l6Open, pick. What is drawn is some number in its range.
-/
import Derived.Test.YtdiichfdffhdaaaOwn
namespace Go.Proofs.Ytdiichfdffhdaaa
open Go.RowKit

/-- The bytes of a code. -/
def Byt (w : World) (hi : Nat) (A : Option Addr) (n : Nat) (bs : Nat → Int) : Prop :=
  ∀ j, j < n → ∃ b off, A = some ⟨b, off, none⟩ ∧ b < hi ∧ w.cell? ⟨b, off + j, none⟩ = some (.int .u8 (bs j)) ∧ 0 ≤ bs j ∧ bs j ≤ 255
/-- What is drawn at a place, below a bound. -/
def drawF (bs : Nat → Int) (l p : Nat) (n : Int) : Int :=
  if n < 1 ∨ l = 0 then 0 else if p < l then bs p % n else
    (bits BinOp.xor IntKind.i64 (bs (p % l) * 131 + bs ((p * 7 + 3) % l) * 1117 + (p : Int) * 29 + ((p / l : Nat) : Int) * 53) ((bs (p % l) * 131 + bs ((p * 7 + 3) % l) * 1117 + (p : Int) * 29 + ((p / l : Nat) : Int) * 53) / 64)).tmod n
/-- A reader in block R, at its place p. -/
structure Rdr (w : World) (R p : Nat) (A : Option Addr) (n c : Nat) (bs : Nat → Int) : Prop where
  lt : R < w.heap.size
  small : n ≤ 2000
  c0 : w.cell? ⟨R, 0, none⟩ = some (.slice A n c)
  c1 : w.cell? ⟨R, 1, none⟩ = some (.int .i64 p)
  f1 : w.frozen? ⟨R, 1, none⟩ = false
  byt : Byt w R A n bs
def IsRdr (w : World) (R p : Nat) (f : Nat → Int → Int) : Prop := ∃ A n c bs, f = drawF bs n ∧ Rdr w R p A n c bs
theorem Byt.keep {w w' : World} {hi : Nat} {A : Option Addr} {n : Nat} {bs : Nat → Int} (h : Byt w hi A n bs) (hk : ∀ b o, b < hi → w'.cell? ⟨b, o, none⟩ = w.cell? ⟨b, o, none⟩) : Byt w' hi A n bs := fun j hj => by
  obtain ⟨b, off, e, h1, h2, h3⟩ := h j hj
  exact ⟨b, off, e, h1, (hk b _ h1).trans h2, h3⟩
section
variable {w w' : World} {R p : Nat} {f : Nat → Int → Int}
theorem IsRdr.keep (h : IsRdr w R p f) (hk : ∀ b, b ≤ R → w'.heap[b]? = w.heap[b]?) (hs : w.heap.size ≤ w'.heap.size) : IsRdr w' R p f := by
  obtain ⟨A, n, c, bs, hf, h⟩ := h
  refine ⟨A, n, c, bs, hf, ⟨Nat.lt_of_lt_of_le h.lt hs, h.small, ?_, ?_, ?_, h.byt.keep fun b o hb => World.cell?_of_block (hk b (by omega))⟩⟩
  · rw [World.cell?_of_block (hk R (Nat.le_refl _))]; exact h.c0
  · rw [World.cell?_of_block (hk R (Nat.le_refl _))]; exact h.c1
  · rw [World.frozen?_of_block (hk R (Nat.le_refl _))]; exact h.f1
theorem IsRdr.lt (h : IsRdr w R p f) : R < w.heap.size := by obtain ⟨_, _, _, _, _, h⟩ := h; exact h.lt
theorem IsRdr.below (h : IsRdr w R p f) (hb : Below w.heap.size w w') : IsRdr w' R p f :=
  h.keep (fun b hb' => hb.block b (by have := h.lt; omega)) hb.size
theorem IsRdr.alloc (h : IsRdr w R p f) (o : Obj) : IsRdr (w.alloc o) R p f := h.below (below_alloc (Below.refl _ _) o)
theorem IsRdr.drew (h : IsRdr w R p f) : IsRdr w.drew R p f := h.keep (fun _ _ => rfl) (Nat.le_refl _)
theorem IsRdr.drewN (h : IsRdr w R p f) (q : Nat) : IsRdr (w.drewN q) R p f := h.keep (fun _ _ => rfl) (Nat.le_refl _)
theorem IsRdr.grown {g m c : Nat} (h : IsRdr w R p f) (hg : w.grownBy w' (Value.slice (some ⟨g, 0, none⟩) m c).ownBlock) (hne : R < g) : IsRdr w' R p f :=
  h.keep (fun b hb' => hg.block b (by have := h.lt; omega) (fun e => by simp only [Value.ownBlock, Option.some.injEq] at e; omega)) hg.size
theorem IsRdr.setCell {S o : Nat} {u : Value} (h : IsRdr w R p f) (hne : R < S) : IsRdr (w.setCell ⟨S, o, none⟩ u) R p f :=
  h.keep (fun b hb' => Below.heap_setCell _ _ _ _ (fun e => by simp only at e; omega)) (by simp)
theorem IsRdr.step (h : IsRdr w R p f) : IsRdr (w.setCell ⟨R, 1, none⟩ (.int .i64 ((p : Int) + 1))) R (p + 1) f := by
  obtain ⟨A, l, c, bs, hf, h⟩ := h
  refine ⟨A, l, c, bs, hf, ⟨by simpa using h.lt, h.small, (cell_set_ne (.inr (by omega))).trans h.c0, ?_, by rw [World.frozen?_setCell]; exact h.f1, h.byt.keep fun b o hb => cell_set_ne (.inl (by omega))⟩⟩
  have := cell_set_same (u := .int .i64 ((p : Int) + 1)) h.c1
  simpa using this
theorem IsRdr.step' {v : Int} (h : IsRdr w R p f) (hv : v = (p : Int) + 1) : IsRdr (w.setCell ⟨R, 1, none⟩ (.int .i64 v)) R (p + 1) f := by subst hv; exact h.step
/-- The place alone has gone on. -/
def Stepped (R p : Nat) (w w' : World) : Prop := ∃ q, w' = (w.setCell ⟨R, 1, none⟩ (.int .i64 ((p : Int) + 1))).drewN q
theorem Stepped.rdr (h : Stepped R p w w') (hr : IsRdr w R p f) : IsRdr w' R (p + 1) f := by obtain ⟨q, rfl⟩ := h; exact hr.step.drewN q
theorem Stepped.grown (h : Stepped R p w w') : w.grownBy w' (some R) := by
  obtain ⟨q, rfl⟩ := h
  exact ⟨rfl, rfl, rfl, by simp, fun k _ hk => Below.heap_setCell _ _ _ _ (fun e => hk (by rw [e]))⟩
theorem Stepped.size (h : Stepped R p w w') : w'.heap.size = w.heap.size := by obtain ⟨q, rfl⟩ := h; simp
theorem Stepped.own {base size n : Nat} {e : TypeId} {v : Value} {xs : List Value} (h : Stepped R p w w') (ho : w.ownsRow base e size v n xs) (hR : R < base) : w'.ownsRow base e size v n xs :=
  ho.kept h.grown (by
    cases hv : v.ownBlock with
    | none => exact .inl rfl
    | some k => refine .inr (fun e => ?_); have := (ho.lt k hv).1; injection e with e; omega)
theorem Stepped.below {B : Nat} {a : World} (h : Stepped R p w w') (hb : Below B a w) (hB : B ≤ w.heap.size) (hR : B ≤ R) : Below B a w' :=
  hb.grown h.grown hB (fun k hk => by injection hk with hk; omega)
end

section
variable {a w : World} {row : Option Nat} {R : Nat}
theorem gr_alloc (h : a.grownBy w row) (o : Obj) : a.grownBy (w.alloc o) row :=
  h.trans ⟨rfl, rfl, rfl, by simp, fun k hk _ => Below.heap_alloc w o k hk⟩
theorem gr_drew (h : a.grownBy w row) : a.grownBy w.drew row := ⟨h.os, h.tape, h.output, h.size, h.block⟩
theorem gr_drewN (h : a.grownBy w row) (q : Nat) : a.grownBy (w.drewN q) row := ⟨h.os, h.tape, h.output, h.size, h.block⟩
theorem gr_set (h : a.grownBy w (some R)) (o : Nat) (u : Value) : a.grownBy (w.setCell ⟨R, o, none⟩ u) (some R) :=
  h.trans ⟨rfl, rfl, rfl, by simp, fun k _ hk => Below.heap_setCell _ _ _ _ (fun e => hk (by rw [e]))⟩
theorem gr_refl (w : World) (row : Option Nat) : w.grownBy w row := ⟨rfl, rfl, rfl, Nat.le_refl _, fun _ _ _ => rfl⟩
end

theorem Stepped.cell {R p : Nat} {w w' : World} (h : Stepped R p w w') {b o : Nat} (hb : b ≠ R) : w'.cell? ⟨b, o, none⟩ = w.cell? ⟨b, o, none⟩ := by
  obtain ⟨q, rfl⟩ := h; rw [World.cell?_drewN]; exact cell_set_ne (.inl hb)
theorem Stepped.frozen {R p : Nat} {w w' : World} (h : Stepped R p w w') {b o : Nat} : w'.frozen? ⟨b, o, none⟩ = w.frozen? ⟨b, o, none⟩ := by
  obtain ⟨q, rfl⟩ := h; rw [World.frozen?_drewN, World.frozen?_setCell]
/-- A literal of integers, looked at. -/
theorem lit_cell (w : World) (cs : List Int) (E : TypeId) (j : Nat) (hj : j < cs.length) : (w.alloc (.cells (cs.map (Value.int .i64)).toArray E)).cell? ⟨w.heap.size, j, none⟩ = some (.int .i64 cs[j]) := by
  rw [World.cell?_alloc_new]; simp [hj]
theorem flat3_set_any (L : List T3) (j : Nat) (n : Int) (hj : j < L.length * 3) : ∃ L' : List T3, L'.length = L.length ∧ (flat3 L).set j (.int .i64 n) = flat3 L' := by
  induction L generalizing j with
  | nil => simp at hj
  | cons g r ih =>
    match j with
    | 0 => exact ⟨(n, g.2.1, g.2.2) :: r, rfl, rfl⟩
    | 1 => exact ⟨(g.1, n, g.2.2) :: r, rfl, rfl⟩
    | 2 => exact ⟨(g.1, g.2.1, n) :: r, rfl, rfl⟩
    | j + 3 =>
      obtain ⟨L', h1, h2⟩ := ih j (by simp only [List.length_cons] at hj; omega)
      exact ⟨g :: L', by simp [h1], by simp only [flat3, List.set_cons_succ, h2]⟩
theorem own_write {w : World} {B g n cap j : Nat} {E : TypeId} {xs ys : List Value} {u : Value} (h : w.ownsRow B E 3 (.slice (some ⟨g, 0, none⟩) n cap) n xs) (he : xs.set j u = ys) : (w.setCell ⟨g, j, none⟩ u).ownsRow B E 3 (.slice (some ⟨g, 0, none⟩) n cap) n ys := by
  rw [← he]; exact (h.stored j u).1
theorem own_alloc {w : World} {base size n : Nat} {e : TypeId} {v : Value} {xs : List Value} (h : w.ownsRow base e size v n xs) (o : Obj) : (w.alloc o).ownsRow base e size v n xs := h.alloc o
theorem own_drew {w : World} {base size n : Nat} {e : TypeId} {v : Value} {xs : List Value} (h : w.ownsRow base e size v n xs) : w.drew.ownsRow base e size v n xs := h
/-- One number is drawn: n is its bound. -/
def Picked (n : Int) (R p : Nat) (f : Nat → Int → Int) (w : World) (e : Ending) (w' : World) : Prop :=
  e = .returned (.int .i64 (f p n)) ∧ Stepped R p w w'
theorem picked_mk {n : Int} {R p : Nat} {f : Nat → Int → Int} {w : World} {v : Int} (hv : f p n = v) (q : Nat) : Picked n R p f w (.returned (.int .i64 v)) ((w.setCell ⟨R, 1, none⟩ (.int .i64 ((p : Int) + 1))).drewN q) := by
  subst hv; exact ⟨rfl, q, rfl⟩

theorem tmod_nat (a b : Nat) : Int.tmod (a : Int) (b : Int) = ((a % b : Nat) : Int) := by
  rw [Int.tmod_eq_emod_of_nonneg (by omega)]; rfl
theorem tdiv_nat (a b : Nat) : Int.tdiv (a : Int) (b : Int) = ((a / b : Nat) : Int) := by
  rw [Int.tdiv_eq_ediv_of_nonneg (by omega)]; rfl

theorem bits_xor_nat (a b : Nat) (ha : a < 2 ^ 40) (hb : b < 2 ^ 40) : bits .xor .i64 (a : Int) (b : Int) = ((a ^^^ b : Nat) : Int) := by
  have hx : a ^^^ b < 2 ^ 40 := Nat.xor_lt_two_pow ha hb
  have e : IntKind.i64.bits = 64 := rfl
  have ha' : a % 2 ^ 64 = a := Nat.mod_eq_of_lt (Nat.lt_of_lt_of_le ha (by decide))
  have hb' : b % 2 ^ 64 = b := Nat.mod_eq_of_lt (Nat.lt_of_lt_of_le hb (by decide))
  simp only [bits, BitVec.ofInt_natCast, BitVec.toNat_xor, BitVec.toNat_ofNat, e, ha', hb']
  have h40 : (2 : Nat) ^ 40 = 1099511627776 := by decide
  rw [h40] at hx
  exact IntWalk.i64_in _ (by omega)
theorem drawn_range (x n : Int) (h0 : 0 ≤ x) (h1 : x ≤ 100000000) (hn : 1 ≤ n) : 0 ≤ (bits BinOp.xor IntKind.i64 x (x / 64)).tmod n ∧ (bits BinOp.xor IntKind.i64 x (x / 64)).tmod n < n := by
  obtain ⟨a, rfl⟩ := Int.eq_ofNat_of_zero_le h0
  have e : ((a : Int) / 64) = ((a / 64 : Nat) : Int) := by omega
  have h40 : (2 : Nat) ^ 40 = 1099511627776 := by decide
  rw [e, bits_xor_nat a (a / 64) (by rw [h40]; omega) (by rw [h40]; omega)]
  rw [Int.tmod_eq_emod_of_nonneg (by omega)]
  exact ⟨Int.emod_nonneg _ (by omega), Int.emod_lt_of_pos _ (by omega)⟩

theorem drawF_bd {w : World} {R p0 p : Nat} {f : Nat → Int → Int} {n : Int} (h : IsRdr w R p0 f) (hp : p ≤ 1000000) (hn : 1 ≤ n) : 0 ≤ f p n ∧ f p n < n := by
  obtain ⟨A, l, c, bs, rfl, h⟩ := h
  unfold drawF
  split
  · omega
  · rename_i hc
    have hl : 0 < l := by omega
    have hb : ∀ j, j < l → 0 ≤ bs j ∧ bs j ≤ 255 := fun j hj => by obtain ⟨_, _, _, _, _, h3⟩ := h.byt j hj; exact h3
    split
    · exact ⟨Int.emod_nonneg _ (by omega), Int.emod_lt_of_pos _ (by omega)⟩
    · have h1 := hb (p % l) (Nat.mod_lt _ hl)
      have h2 := hb ((p * 7 + 3) % l) (Nat.mod_lt _ hl)
      have hdv : p / l ≤ p := Nat.div_le_self _ _
      generalize p / l = dv at hdv ⊢
      exact drawn_range _ n (by omega) (by omega) hn

set_option maxRecDepth 100000 in
set_option maxHeartbeats 4000000 in
theorem pick_any (n : Int) (R p : Nat) (f : Nat → Int → Int) (w : World) (h : IsRdr w R p f) (hp : p ≤ 1000000) (hn : n ≤ 1000000) (hn0 : -1000000 ≤ n) :
    Calls Try.prog 68 #[.pointer (some ⟨R, 0, none⟩), .int .i64 n] w (Picked n R p f w) := by
  obtain ⟨A, l, c, bs, hf, h⟩ := h
  have HF := Lib.hid hf
  have r0 := h.c0
  have r1 := h.c1
  have f1 := h.f1
  have hRl := h.lt
  have hl := h.small
  have HB := Lib.hid h.byt
  clear h hf
  by_cases hn1 : n < 1
  · have hv := Lib.hid (show f p n = 0 by rw [HF.out, drawF, if_pos (.inl hn1)])
    go_enter Try.func68, Try.ntmps68
    go_wp2
    go_ret
    exact picked_mk hv.out 0
  have hn1' : 1 ≤ n := by omega
  clear hn1
  rcases Nat.eq_zero_or_pos l with hz | hz
  · have hv := Lib.hid (show f p n = 0 by rw [HF.out, drawF, if_pos (.inr hz)])
    have hz' : ((l : Int) == 0) = true := by simp [hz]
    clear hz
    go_enter Try.func68, Try.ntmps68
    go_wp2
    go_ret
    exact picked_mk hv.out 0
  have hz' : ((l : Int) == 0) = false := by simp; omega
  have hv0 := Lib.hid (show f p n = drawF bs l p n by rw [HF.out])
  by_cases hpl : p < l
  · have hv := Lib.hid (show f p n = bs p % n by rw [hv0.out, drawF, if_neg (by omega), if_pos hpl])
    obtain ⟨b, off, rfl, hb, cv, hv0, hv1⟩ := HB.out p hpl
    have hbR : b ≠ R := by omega
    generalize bs p = v at *
    go_enter Try.func68, Try.ntmps68
    go_wp2
    go_ret
    exact picked_mk hv.out 0
  · have hv := Lib.hid (show f p n = (bits BinOp.xor IntKind.i64 (bs (p % l) * 131 + bs ((p * 7 + 3) % l) * 1117 + (p : Int) * 29 + ((p / l : Nat) : Int) * 53) ((bs (p % l) * 131 + bs ((p * 7 + 3) % l) * 1117 + (p : Int) * 29 + ((p / l : Nat) : Int) * 53) / 64)).tmod n by rw [hv0.out, drawF, if_neg (by omega), if_neg hpl])
    have hj1 : p % l < l := Nat.mod_lt _ hz
    have hj2 : (p * 7 + 3) % l < l := Nat.mod_lt _ hz
    obtain ⟨b, off, rfl, hb, cv1, hv0, hv1⟩ := HB.out (p % l) hj1
    obtain ⟨b', off', e, hb', cv2, hu0, hu1⟩ := HB.out ((p * 7 + 3) % l) hj2
    injection e with e; injection e with e1 e2; subst e1 e2
    have hdv : p / l ≤ p := Nat.div_le_self _ _
    generalize bs (p % l) = v1 at *
    generalize bs ((p * 7 + 3) % l) = v2 at *
    obtain ⟨j1, hj1e⟩ : ∃ j, j = p % l := ⟨_, rfl⟩
    obtain ⟨j2, hj2e⟩ : ∃ j, j = (p * 7 + 3) % l := ⟨_, rfl⟩
    obtain ⟨dv, hdve⟩ : ∃ j, j = p / l := ⟨_, rfl⟩
    rw [← hj1e] at cv1 hj1
    rw [← hj2e] at cv2 hj2
    rw [← hdve] at hdv hv
    have t1 : Int.tmod (p : Int) (l : Int) = (j1 : Int) := by rw [tmod_nat, hj1e]
    have t2 : Int.tmod ((p : Int) * 7 + 3) (l : Int) = (j2 : Int) := by rw [hj2e, ← tmod_nat]; congr 1
    have t3 : Int.tdiv (p : Int) (l : Int) = (dv : Int) := by rw [tdiv_nat, hdve]
    clear hj1e hj2e hdve
    have hbR : b ≠ R := by omega
    have hpl' : ¬ ((p : Int) < (l : Int)) := by omega
    have hx0 : 0 ≤ v1 * 131 + v2 * 1117 + (p : Int) * 29 + (dv : Int) * 53 := by omega
    have hx1 : v1 * 131 + v2 * 1117 + (p : Int) * 29 + (dv : Int) * 53 ≤ 100000000 := by omega
    have k1 : IntKind.i64.wrap v1 = v1 := IntWalk.i64_in _ (by omega)
    have k2 : IntKind.i64.wrap v2 = v2 := IntWalk.i64_in _ (by omega)
    have k3 : IntKind.i64.wrap (v1 * 131) = v1 * 131 := IntWalk.i64_in _ (by omega)
    have k4 : IntKind.i64.wrap (v2 * 1117) = v2 * 1117 := IntWalk.i64_in _ (by omega)
    have k5 : IntKind.i64.wrap ((p : Int) * 7) = (p : Int) * 7 := IntWalk.i64_in _ (by omega)
    have k6 : IntKind.i64.wrap ((p : Int) * 7 + 3) = (p : Int) * 7 + 3 := IntWalk.i64_in _ (by omega)
    have k7 : IntKind.i64.wrap (v1 * 131 + v2 * 1117) = v1 * 131 + v2 * 1117 := IntWalk.i64_in _ (by omega)
    have k8 : IntKind.i64.wrap ((p : Int) * 29) = (p : Int) * 29 := IntWalk.i64_in _ (by omega)
    have k9 : IntKind.i64.wrap (v1 * 131 + v2 * 1117 + (p : Int) * 29) = v1 * 131 + v2 * 1117 + (p : Int) * 29 := IntWalk.i64_in _ (by omega)
    have k10 : IntKind.i64.wrap ((dv : Int) * 53) = (dv : Int) * 53 := IntWalk.i64_in _ (by omega)
    have k11 : IntKind.i64.wrap (v1 * 131 + v2 * 1117 + (p : Int) * 29 + (dv : Int) * 53) = v1 * 131 + v2 * 1117 + (p : Int) * 29 + (dv : Int) * 53 := IntWalk.i64_in _ (by omega)
    have k12 : IntKind.i64.wrap (j1 : Int) = (j1 : Int) := IntWalk.i64_in _ (by omega)
    have k13 : IntKind.i64.wrap (j2 : Int) = (j2 : Int) := IntWalk.i64_in _ (by omega)
    have k14 : IntKind.i64.wrap (dv : Int) = (dv : Int) := IntWalk.i64_in _ (by omega)
    have i1 : (0 : Int) ≤ (j1 : Int) := by omega
    have i2 : (0 : Int) ≤ (j2 : Int) := by omega
    have i3 : (j1 : Int) < (l : Int) := by omega
    have i4 : (j2 : Int) < (l : Int) := by omega
    go_enter Try.func68, Try.ntmps68
    go_wp2
    go_quiet (fail)
    clear k1 k2 k3 k4 k5 k6 k7 k8 k9 k10 k11 k12 k13 k14 t1 t2 t3
    generalize v1 * 131 + v2 * 1117 + (p : Int) * 29 + (dv : Int) * 53 = x at *
    go_wp2
    go_ret
    exact picked_mk hv.out _

/-- A reader is opened: what lay stays as it was. -/
def Opened (w : World) (e : Ending) (w' : World) : Prop :=
  ∃ f, e = .returned (.pointer (some ⟨w.heap.size, 0, none⟩)) ∧ IsRdr w' w.heap.size 0 f ∧ Below w.heap.size w w' ∧ w'.heap.size = w.heap.size + 1
theorem opened_mk {w : World} {A : Option Addr} {n m c' : Nat} {bs : Nat → Int} (h : Byt w w.heap.size A n bs) (hm : m ≤ n) (hs : m ≤ 2000) : Opened w (.returned (.pointer (some ⟨w.heap.size, 0, none⟩))) (w.alloc (.cells #[.slice A m c', .int .i64 0] 102)) := by
  refine ⟨_, rfl, ⟨A, m, c', bs, rfl, ⟨by simp, hs, by simp [go_sem], by simp [go_sem], by simp [go_sem], ?_⟩⟩, below_alloc (Below.refl _ _) _, by simp⟩
  intro j hj
  obtain ⟨b, off, e, h1, h2, h3⟩ := h j (by omega)
  exact ⟨b, off, e, h1, (cell_alloc1 (p := ⟨b, off + j, none⟩) _ h1).trans h2, h3⟩
set_option maxHeartbeats 1000000 in
theorem open_any (A : Option Addr) (n c : Nat) (bs : Nat → Int) (w : World) (h : Byt w w.heap.size A n bs) (hn : n ≤ 1048576) (hc : n ≤ c) :
    Calls Try.prog 52 #[.slice A n c] w (Opened w) := by
  by_cases hb : 2000 < n
  · obtain ⟨b, off, rfl, _⟩ := h 0 (by omega)
    have hb' : (2000 : Int) < (n : Int) := by omega
    have HB := Lib.hid h
    clear h
    go_enter Try.func52, Try.ntmps52
    go_wp2
    go_ret
    exact opened_mk HB.out (by omega) (by omega)
  · have hb' : ¬ (2000 : Int) < (n : Int) := by omega
    have HB := Lib.hid h
    clear h
    go_enter Try.func52, Try.ntmps52
    go_wp2
    go_ret
    exact opened_mk HB.out (Nat.le_refl _) (by omega)

end Go.Proofs.Ytdiichfdffhdaaa

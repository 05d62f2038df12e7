/-
  slices.SortStableFunc of six numbers, by the program's comparison of rests.
-/
import Derived.Test.YtmeaegopenbelaaShareS
import Derived.BigRegion
namespace Go.Proofs.Ytmeaegopenbelaa
open Go.RowKit

/-- What the comparison captures: an amount, miles, their sum; none of it lies in the row that is sorted. -/
structure ShW (w : World) (g Ba Bm Bs lo hi c : Nat) (A : Option Addr) (m : List Int) (a S : Int) : Prop where
  ca : w.cell? ⟨Ba, 0, none⟩ = some (.int .i64 a)
  cm : w.cell? ⟨Bm, 0, none⟩ = some (.slice A m.length c)
  cs : w.cell? ⟨Bs, 0, none⟩ = some (.int .i64 S)
  rd : Rd w lo hi A (ints m)
  na : Ba ≠ g
  nm : Bm ≠ g
  ns : Bs ≠ g
  nr : g < lo ∨ hi ≤ g
section
variable {w : World} {g Ba Bm Bs lo hi c : Nat} {A : Option Addr} {m : List Int} {a S : Int}
theorem ShW.drewN (h : ShW w g Ba Bm Bs lo hi c A m a S) (q : Nat) : ShW (w.drewN q) g Ba Bm Bs lo hi c A m a S := ⟨h.ca, h.cm, h.cs, h.rd, h.na, h.nm, h.ns, h.nr⟩
theorem ShW.drew (h : ShW w g Ba Bm Bs lo hi c A m a S) : ShW w.drew g Ba Bm Bs lo hi c A m a S := ⟨h.ca, h.cm, h.cs, h.rd, h.na, h.nm, h.ns, h.nr⟩
theorem ShW.setCell (h : ShW w g Ba Bm Bs lo hi c A m a S) (o : Nat) (u : Value) : ShW (w.setCell ⟨g, o, none⟩ u) g Ba Bm Bs lo hi c A m a S :=
  ⟨(cell_set_ne (.inl h.na)).trans h.ca, (cell_set_ne (.inl h.nm)).trans h.cm, (cell_set_ne (.inl h.ns)).trans h.cs,
    h.rd.keep fun p h1 h2 => World.cell?_setCell_other _ _ _ _ (fun e => by rw [← e] at h1 h2; simp only at h1 h2; have := h.nr; omega), h.na, h.nm, h.ns, h.nr⟩
end
/-- What the sharing asks of miles and amount. -/
structure ShOk (m : List Int) (a S : Int) : Prop where
  six : m.length = 6
  bd : ∀ x ∈ m, 0 ≤ x ∧ x ≤ 1188
  le : ∀ x ∈ m, x ≤ S
  s0 : 0 < S
  s1 : S ≤ 7128
  a0 : 0 ≤ a
  a1 : a ≤ 1000000

set_option maxHeartbeats 2000000 in
theorem cmp_any {g Ba Bm Bs lo hi c : Nat} {A : Option Addr} {m : List Int} {a S : Int} (i j : Int) (w : World) (hok : ShOk m a S) (h : ShW w g Ba Bm Bs lo hi c A m a S) (hi0 : 0 ≤ i) (hi1 : i < 6) (hj0 : 0 ≤ j) (hj1 : j < 6) :
    Calls Try.prog 53 #[.int .i64 i, .int .i64 j, .pointer (some ⟨Ba, 0, none⟩), .pointer (some ⟨Bm, 0, none⟩), .pointer (some ⟨Bs, 0, none⟩)] w fun e w' => e = .returned (.int .i64 ((resL m a S).getD j.toNat 0 - (resL m a S).getD i.toNat 0)) ∧ ∃ q, w' = w.drewN q := by
  have h6 := hok.six
  have hil : i.toNat < m.length := by omega
  have hjl : j.toNat < m.length := by omega
  obtain ⟨b, off, rfl, _, _, d0⟩ := h.rd.at1 i.toNat hil
  obtain ⟨b', off', e', _, _, d1⟩ := h.rd.at1 j.toNat hjl
  injection e' with e'; injection e' with e1 e2; subst e1 e2
  have hy := hok.bd m[i.toNat] (List.getElem_mem hil)
  have hz := hok.bd m[j.toNat] (List.getElem_mem hjl)
  have hyS := hok.le m[i.toNat] (List.getElem_mem hil)
  have hzS := hok.le m[j.toNat] (List.getElem_mem hjl)
  have hR := Lib.hid (show (resL m a S).getD j.toNat 0 - (resL m a S).getD i.toNat 0 = a * m[j.toNat] % S - a * m[i.toNat] % S by
    rw [res_get hil, res_get hjl, List.getD_eq_getElem?_getD, List.getD_eq_getElem?_getD, List.getElem?_eq_getElem hil, List.getElem?_eq_getElem hjl]; rfl)
  rw [hR.out]
  generalize m[i.toNat] = y at *
  generalize m[j.toNat] = z at *
  obtain ⟨n0, n1, n2, n3, n4, n5, n6, n7⟩ := share_num ⟨hok.a0, hok.a1⟩ hy hyS ⟨hok.s0, hok.s1⟩
  obtain ⟨k0, k1, k2, k3, k4, k5, k6, k7⟩ := share_num ⟨hok.a0, hok.a1⟩ hz hzS ⟨hok.s0, hok.s1⟩
  have ca := h.ca
  have cm := h.cm
  have cs := h.cs
  have s0 := hok.s0
  have s1 := hok.s1
  generalize a * y % S = ry at *
  generalize a * z % S = rz at *
  have wp : IntKind.i64.wrap (a * y) = a * y := IntWalk.i64_in _ (by omega)
  have wq : IntKind.i64.wrap (a * z) = a * z := IntWalk.i64_in _ (by omega)
  have wr : IntKind.i64.wrap (rz - ry) = rz - ry := IntWalk.i64_in _ (by omega)
  have wy : IntKind.i64.wrap ry = ry := IntWalk.i64_in _ (by omega)
  have wz : IntKind.i64.wrap rz = rz := IntWalk.i64_in _ (by omega)
  have hS0 : (S == 0) = false := by rw [beq_eq_false_iff_ne]; omega
  have hil2 : i < (m.length : Int) := by omega
  have hjl2 : j < (m.length : Int) := by omega
  clear n2 k2 n4 n5 k4 k5 hR h6 hil hjl h hok hy hz
  go_enter Try.func53, Try.ntmps53
  go_wp2
  go_quiet (fail)
  go_wp2
  go_ret
  exact ⟨rfl, _, rfl⟩

/-- The numbers from i on, below six. -/
def restL (i : Nat) : List Int := (List.range (6 - i)).map fun k => ((i + k : Nat) : Int)
theorem restL_next {i : Nat} (h : i < 6) : restL i = (i : Int) :: restL (i + 1) := by
  unfold restL
  rw [show 6 - i = (6 - (i + 1)) + 1 by omega, List.range_succ_eq_map, List.map_cons, List.map_map]
  congr 1
  apply List.map_congr_left
  intro k _
  simp; omega
theorem restL_len (i : Nat) : (restL i).length = 6 - i := by simp [restL]
/-- Before the comparison in a round. -/
theorem swap_list {X B : List Int} {x y : Int} {rest : List Int} : (((X ++ [x]) ++ y :: (B ++ rest)).set (X.length + 1) x).set X.length y = X ++ y :: ((x :: B) ++ rest) := by
  rw [List.append_assoc]
  simp [List.set_append_right]
theorem at_next {X B : List Int} {x y : Int} {rest : List Int} (h : X.length + 1 < ((X ++ [x]) ++ y :: (B ++ rest)).length) : ((X ++ [x]) ++ y :: (B ++ rest))[X.length + 1] = y := by
  rw [List.getElem_append_right (by simp)]
  simp
theorem at_prev {X B : List Int} {x y : Int} {rest : List Int} (h : X.length < ((X ++ [x]) ++ y :: (B ++ rest)).length) : ((X ++ [x]) ++ y :: (B ++ rest))[X.length] = x := by
  rw [List.getElem_append_left (by simp)]
  simp
theorem sort_put {R X B : List Int} {x y : Int} (hs : ((X ++ [x]) ++ B).Pairwise (bef R)) (hb : ∀ b ∈ B, bef R y b) (hx : bef R x y) : ((X ++ [x]) ++ y :: B).Pairwise (bef R) := by
  rw [List.pairwise_append] at hs ⊢
  obtain ⟨h1, h2, h3⟩ := hs
  refine ⟨h1, List.pairwise_cons.2 ⟨hb, h2⟩, fun p hp q hq => ?_⟩
  rcases List.mem_cons.1 hq with rfl | hq
  · rcases List.mem_append.1 hp with hp' | hp'
    · exact bef_trans ((List.pairwise_append.1 h1).2.2 p hp' x (by simp)) hx
    · rw [List.mem_singleton] at hp'; subst hp'; exact hx
  · exact h3 p hp q hq
/-- A sorted row of the first i numbers. -/
def SortedTo (R P : List Int) (i : Nat) : Prop := P.Pairwise (bef R) ∧ P.length = i ∧ ∀ v ∈ P, 0 ≤ v ∧ v < i
theorem gr_reflS (w : World) (row : Option Nat) : w.grownBy w row := ⟨rfl, rfl, rfl, Nat.le_refl _, fun _ _ _ => rfl⟩
theorem gr_stS {a w : World} {g : Nat} (h : a.grownBy w (some g)) (o : Nat) (u : Value) : a.grownBy (w.setCell ⟨g, o, none⟩ u) (some g) := h.trans ⟨rfl, rfl, rfl, by simp, fun j _ hj => Below.heap_setCell _ _ _ _ (fun e => hj (by rw [e]))⟩
theorem gr_drS {a w : World} {row : Option Nat} (h : a.grownBy w row) : a.grownBy w.drew row := ⟨h.os, h.tape, h.output, h.size, h.block⟩
theorem gr_drNS {a w : World} {row : Option Nat} (h : a.grownBy w row) (q : Nat) : a.grownBy (w.drewN q) row := ⟨h.os, h.tape, h.output, h.size, h.block⟩
def ordRow (base g cap : Nat) (L : List Int) (w : World) : Prop := w.ownsRow base 3 1 (.slice (some ⟨g, 0, none⟩) 6 cap) 6 (ints L)
def InS (R : List Int) (base g cap i : Nat) (A B : List Int) (w : World) : Prop :=
  A.length + B.length = i ∧ ordRow base g cap (A ++ (i : Int) :: (B ++ restL (i + 1))) w ∧ (A ++ B).Pairwise (bef R) ∧ (∀ v ∈ A ++ B, 0 ≤ v ∧ v < i) ∧ ∀ v ∈ B, bef R i v

set_option maxRecDepth 100000 in
set_option maxHeartbeats 4000000 in
theorem insertion_any {base g cap Ba Bm Bs lo hi c : Nat} {A : Option Addr} {m : List Int} {a S : Int} (w : World) (hok : ShOk m a S) (h : ShW w g Ba Bm Bs lo hi c A m a S) (ho : ordRow base g cap (restL 0) w) :
    Calls Try.prog 58 #[.slice (some ⟨g, 0, none⟩) 6 cap, .int .i64 0, .int .i64 6, .func (.func 53) #[] #[.pointer (some ⟨Ba, 0, none⟩), .pointer (some ⟨Bm, 0, none⟩), .pointer (some ⟨Bs, 0, none⟩)]] w fun e w' => (∃ v, e = .returned v) ∧ ∃ P, SortedTo (resL m a S) P 6 ∧ ordRow base g cap P w' ∧ w.grownBy w' (some g) := by
  have HOK := Lib.hid hok
  have hR6 := Lib.hid (show (resL m a S).length = 6 by simp [resL, hok.six])
  have H0 := Lib.hid (show SortedTo (resL m a S) [0] 1 from ⟨by simp, rfl, by simp⟩)
  have HR0 := Lib.hid (show ordRow base g cap ([0] ++ restL 1) w from ho)
  clear hok ho
  go_enter Try.func58, Try.ntmps58
  go_wp2_with fail
  go_loopw [8, 9] (fun iv _ wr => ∃ (i : Nat) (P : List Int), i ≤ 6 ∧ 1 ≤ i ∧ iv = .int .i64 i ∧ Hid (SortedTo (resL m a S) P i) ∧ Hid (ordRow base g cap (P ++ restL i) wr) ∧ Hid (ShW wr g Ba Bm Bs lo hi c A m a S) ∧ w.grownBy wr (some g)) (fun iv _ _ => 6 - (intOf iv).toNat)
  case atStart => exact ⟨1, [0], by omega, by omega, rfl, H0, HR0, Lib.hid h, gr_reflS _ _⟩
  case round =>
    obtain ⟨i, P, hi6, hi1, rfl, HS, HO, HW, hg⟩ := hrel
    clear H0 HR0 h
    by_cases hlt : i < 6
    · have HIN := Lib.hid (show InS (resL m a S) base g cap i P [] wr from by
        obtain ⟨s1, s2, s3⟩ := HS.out
        refine ⟨by simpa using s2, ?_, by simpa using s1, by simpa using s3, by simp⟩
        have := HO.out
        rw [restL_next hlt] at this
        simpa using this)
      have hPl := HS.out.2.1
      have HPL := Lib.hid hPl
      clear hPl HS HO
      obtain ⟨wo, hwo⟩ : ∃ wo : World, wo = wr := ⟨_, rfl⟩
      subst hwo
      go_wp2_with fail
      go_loopw [9] (fun jv wr => ∃ (X B : List Int), jv = .int .i64 X.length ∧ X.length ≤ i ∧ Hid (InS (resL m a S) base g cap i X B wr) ∧ Hid (ShW wr g Ba Bm Bs lo hi c A m a S) ∧ w.grownBy wr (some g)) (fun jv _ => (intOf jv).toNat)
      case atStart => exact ⟨P, [], by rw [HPL.out], by rw [HPL.out]; exact Nat.le_refl _, HIN, HW, hg⟩
      case round =>
        obtain ⟨X, B, rfl, hXi, HI, HW2, hg2⟩ := hrel
        clear HIN HW hg HPL
        rcases List.eq_nil_or_concat X with hX | ⟨Y, x, hX⟩
        · subst hX
          have HN := Lib.hid (show SortedTo (resL m a S) ((i : Int) :: B) (i + 1) from by
            obtain ⟨s1, s2, s3, s4, s5⟩ := HI.out
            refine ⟨List.pairwise_cons.2 ⟨s5, by simpa using s3⟩, by simp at s1; simp [s1], fun v hv => ?_⟩
            rcases List.mem_cons.1 hv with rfl | hv
            · omega
            · have := s4 v (by simpa using hv); omega)
          have HO2 := Lib.hid (show ordRow base g cap (((i : Int) :: B) ++ restL (i + 1)) wr from by have := HI.out.2.1; simpa using this)
          have hj0 : decide ((0 : Int) < (([] : List Int).length : Int)) = false := rfl
          go_wp2_with fail
          go_quiet (fail)
          have HO3 := Lib.hid (show ordRow base g cap (((i : Int) :: B) ++ restL (i + 1)) (wr.drewN nq) from HO2.out)
          have HW3 := Lib.hid (HW2.out.drewN nq)
          have hg3 := gr_drNS hg2 nq
          generalize wr.drewN nq = wz at *
          go_wp2_with fail
          go_roundw
          case rel => exact ⟨i + 1, (i : Int) :: B, by omega, by omega, by go_num, HN, HO3, HW3, hg3⟩
          case measure => simp [intOf]; omega
        · rw [List.concat_eq_append] at hX
          subst hX
          obtain ⟨s1, s2, s3, s4, s5⟩ := HI.out
          have hxb := s4 x (by simp)
          have hl : (((Y ++ [x]).length : Nat) : Int) = (Y.length : Int) + 1 := by simp
          have hYi : Y.length + 1 ≤ i := by simpa using hXi
          have hDl : ((Y ++ [x]) ++ (i : Int) :: (B ++ restL (i + 1))).length = 6 := by
            have := restL_len (i + 1)
            simp only [List.length_append, List.length_cons, List.length_nil] at s1 ⊢
            omega
          have d0 := own1_cell s2 Y.length (by rw [hDl]; omega)
          have d1 := own1_cell s2 (Y.length + 1) (by rw [hDl]; omega)
          rw [at_prev] at d0
          rw [at_next] at d1
          have f0 := s2.frozenAt Y.length
          have f1 := s2.frozenAt (Y.length + 1)
          have hst := own1_store (own1_store s2 (Y.length + 1) x) Y.length (i : Int)
          rw [swap_list] at hst
          have HST := Lib.hid hst
          have HP := Lib.hid s3
          have HB4 := Lib.hid s4
          have HB5 := Lib.hid s5
          have HSL := Lib.hid s1
          have HROW := Lib.hid s2
          have HL := Lib.hid hl
          have hgw := (own_lt s2).2
          rw [hl]
          have hcmp := fun W (hW : ShW W g Ba Bm Bs lo hi c A m a S) => cmp_any (i : Int) x W HOK.out hW (by omega) (by omega) (by omega) (by omega)
          have HC := Lib.hid hcmp
          have HXB := Lib.hid hxb
          rw [Int.toNat_natCast] at HC
          obtain ⟨J, hJ⟩ : ∃ J, J = Y.length := ⟨_, rfl⟩
          rw [← hJ] at d0 d1 f0 f1 hYi HST HL ⊢
          have HJ := Lib.hid hJ
          obtain ⟨v, hv⟩ : ∃ v, v = (resL m a S).getD x.toNat 0 - (resL m a S).getD i 0 := ⟨_, rfl⟩
          rw [← hv] at HC
          have HVV := Lib.hid hv
          obtain ⟨x0, x1⟩ := hxb
          clear s1 s2 s3 s4 s5 hl hDl hst hcmp hJ hv hXi HI
          have wj : IntKind.i64.wrap ((J : Int) + 1 - 1) = (J : Int) := by rw [show (J : Int) + 1 - 1 = (J : Int) by omega]; exact IntWalk.i64_in _ (by omega)
          have p0 : (0 : Int) ≤ (J : Int) := by omega
          have p1 : (0 : Int) ≤ (J : Int) + 1 := by omega
          have p2 : (J : Int) < 6 := by omega
          have p3 : (J : Int) + 1 < 6 := by omega
          have p4 : ((J : Int) + 1).toNat = J + 1 := by omega
          have p5 : decide ((0 : Int) < (J : Int) + 1) = true := decide_eq_true (by omega)
          by_cases hvn : v < 0
          · have d9 : decide (v < 0) = true := decide_eq_true hvn
            have HBX := Lib.hid (show bef (resL m a S) i x from .inl (by have := HVV.out; rw [Int.toNat_natCast]; omega))
            clear hvn
            go_wp2_with fail
            go_quiet ((go_at_call 53; exact Calls.quiet_of (v := .int .i64 v) (HC.out _ (HW2.out.drewN _))))
            have HW3 := Lib.hid ((((HW2.out.drewN nq).setCell (J + 1) (.int .i64 x)).setCell J (.int .i64 (i : Int))).drew)
            have hg3 := Lib.hid (gr_drS (gr_stS (gr_stS (gr_drNS hg2 nq) (J + 1) (.int .i64 x)) J (.int .i64 (i : Int))))
            have HST3 := Lib.hid (show ordRow base g cap (Y ++ (i : Int) :: ((x :: B) ++ restL (i + 1))) ((((wr.drewN nq).setCell ⟨g, J + 1, none⟩ (.int .i64 x)).setCell ⟨g, J, none⟩ (.int .i64 (i : Int))).drew) from HST.out)
            have e0 : (wr.drewN nq).cell? ⟨g, J, none⟩ = some (.int .i64 x) := d0
            have e1 : (wr.drewN nq).cell? ⟨g, J + 1, none⟩ = some (.int .i64 (i : Int)) := d1
            have k0 : (wr.drewN nq).frozen? ⟨g, J, none⟩ = false := f0
            have k1 : (wr.drewN nq).frozen? ⟨g, J + 1, none⟩ = false := f1
            have hgz : g < (wr.drewN nq).heap.size := hgw
            clear d0 d1 f0 f1 hgw HST HW2 HROW hg2
            generalize wr.drewN nq = wz at *
            go_wp2_with fail
            go_region
            obtain ⟨V, hV⟩ : ∃ V, V = ((wz.setCell ⟨g, J + 1, none⟩ (.int .i64 x)).setCell ⟨g, J, none⟩ (.int .i64 (i : Int))).drew := ⟨_, rfl⟩
            rw [← hV] at HW3 hg3 HST3 ⊢
            clear hV e0 e1 k0 k1
            have HIN2 := Lib.hid (show InS (resL m a S) base g cap i Y (x :: B) V from by
              refine ⟨by have := HSL.out; simp at this ⊢; omega, HST3.out, by have := HP.out; simpa using this, fun u hu => HB4.out u (by simpa using hu), fun u hu => ?_⟩
              rcases List.mem_cons.1 hu with rfl | hu
              · exact HBX.out
              · exact HB5.out u hu)
            clear wj p4
            go_wp2_with fail
            go_roundw
            case rel => exact ⟨Y, x :: B, by rw [← HJ.out], by rw [← HJ.out]; omega, HIN2, HW3, hg3.out⟩
            case measure => simp [intOf]
          · have d9 : decide (v < 0) = false := decide_eq_false hvn
            have HN := Lib.hid (show SortedTo (resL m a S) ((Y ++ [x]) ++ (i : Int) :: B) (i + 1) from by
              refine ⟨sort_put HP.out HB5.out ?_, by have := HSL.out; simp at this ⊢; omega, fun u hu => ?_⟩
              · unfold bef
                rw [Int.toNat_natCast]
                have := HVV.out
                have := HXB.out
                omega
              · rcases List.mem_append.1 hu with hu | hu
                · have := HB4.out u (List.mem_append_left _ hu); omega
                · rcases List.mem_cons.1 hu with rfl | hu
                  · omega
                  · have := HB4.out u (List.mem_append_right _ hu); omega)
            clear hvn
            go_wp2_with fail
            go_quiet ((go_at_call 53; exact Calls.quiet_of (v := .int .i64 v) (HC.out _ (HW2.out.drewN _))))
            have HO3 := Lib.hid (show ordRow base g cap (((Y ++ [x]) ++ (i : Int) :: B) ++ restL (i + 1)) (wr.drewN nq) from by
              have h := HROW.out
              rw [List.append_assoc (Y ++ [x]), List.cons_append]
              exact h)
            have HW3 := Lib.hid (HW2.out.drewN nq)
            have hg3 := gr_drNS hg2 nq
            clear d0 d1 f0 f1 hgw HST HW2 HROW hg2
            generalize wr.drewN nq = wz at *
            clear wj p4
            go_wp2_with fail
            go_roundw
            case rel => exact ⟨i + 1, _, by omega, by omega, by go_num, HN, HO3, HW3, hg3⟩
            case measure => simp [intOf]; omega
    · obtain rfl : i = 6 := by omega
      have HO2 := Lib.hid (show ordRow base g cap P wr from by have := HO.out; rw [show restL 6 = [] from rfl, List.append_nil] at this; exact this)
      go_wp2_with fail
      go_end0
      exact ⟨⟨_, rfl⟩, P, HS.out, HO2.out, hg⟩
set_option maxHeartbeats 2000000 in
theorem stable_any {base g cap Ba Bm Bs lo hi c : Nat} {A : Option Addr} {m : List Int} {a S : Int} (w : World) (hok : ShOk m a S) (h : ShW w g Ba Bm Bs lo hi c A m a S) (ho : ordRow base g cap (restL 0) w) :
    Calls Try.prog 57 #[.slice (some ⟨g, 0, none⟩) 6 cap, .int .i64 6, .func (.func 53) #[] #[.pointer (some ⟨Ba, 0, none⟩), .pointer (some ⟨Bm, 0, none⟩), .pointer (some ⟨Bs, 0, none⟩)]] w fun e w' => (∃ v, e = .returned v) ∧ ∃ P, SortedTo (resL m a S) P 6 ∧ ordRow base g cap P w' ∧ w.grownBy w' (some g) := by
  have HI := Lib.hid (insertion_any w hok h ho)
  clear hok h ho
  go_enter Try.func57, Try.ntmps57
  go_wp2_with fail
  refine wp_loop_rounds 1 ?_
  rw [rounds_succ]
  go_wp2_with fail
  refine HI.out.mono ?_
  rintro e w1 ⟨⟨v, rfl⟩, P, h1, h2, h3⟩
  have H1 := Lib.hid h1
  have H2 := Lib.hid h2
  clear h1 h2
  go_wp2_with fail
  refine wp_loop_rounds 1 ?_
  rw [rounds_succ]
  go_wp2_with fail
  go_end0
  exact ⟨⟨_, rfl⟩, P, H1.out, H2.out, h3⟩
set_option maxHeartbeats 2000000 in
theorem sortStable_any {base g cap Ba Bm Bs lo hi c : Nat} {A : Option Addr} {m : List Int} {a S : Int} (w : World) (hok : ShOk m a S) (h : ShW w g Ba Bm Bs lo hi c A m a S) (ho : ordRow base g cap (restL 0) w) :
    Calls Try.prog 52 #[.slice (some ⟨g, 0, none⟩) 6 cap, .func (.func 53) #[] #[.pointer (some ⟨Ba, 0, none⟩), .pointer (some ⟨Bm, 0, none⟩), .pointer (some ⟨Bs, 0, none⟩)]] w fun e w' => (∃ v, e = .returned v) ∧ ∃ P, SortedTo (resL m a S) P 6 ∧ ordRow base g cap P w' ∧ w.grownBy w' (some g) := by
  have HI := Lib.hid (stable_any w hok h ho)
  clear hok h ho
  go_enter Try.func52, Try.ntmps52
  go_wp2_with fail
  refine HI.out.mono ?_
  rintro e w1 ⟨⟨v, rfl⟩, P, h1, h2, h3⟩
  have H1 := Lib.hid h1
  have H2 := Lib.hid h2
  clear h1 h2
  go_wp2_with fail
  go_end0
  exact ⟨⟨_, rfl⟩, P, H1.out, H2.out, h3⟩

end Go.Proofs.Ytmeaegopenbelaa

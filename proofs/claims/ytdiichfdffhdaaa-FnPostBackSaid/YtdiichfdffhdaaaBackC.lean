/-
  Contracts of the program's StopsBack: its closure, each, and itself.
-/
import Derived.Test.YtdiichfdffhdaaaBackL
import Derived.Deep.RegionHeld3
namespace Go.Proofs.Ytdiichfdffhdaaa
open Go.RowKit

def RetT (x : T3) (w : World) (e : Ending) (w' : World) : Prop := e = .returned (.agg #[.int .i64 x.1, .int .i64 x.2.1, .int .i64 x.2.2]) ∧ Below w.heap.size w w'
set_option maxRecDepth 100000 in
set_option maxHeartbeats 2000000 in
theorem bcl_any (turn : Int) (bt : Nat) (x : T3) (w : World) (ht0 : 0 ≤ turn) (ht1 : turn ≤ 20000) (h1 : 0 ≤ x.2.1) (h2 : x.2.1 ≤ 10000) (h3 : 0 ≤ x.2.2) (h4 : x.2.2 ≤ 10000) (hc : w.cell? ⟨bt, 0, none⟩ = some (.int .i64 turn)) (hb : bt < w.heap.size) :
    Calls Try.prog 95 #[.agg #[.int .i64 x.1, .int .i64 x.2.1, .int .i64 x.2.2], .pointer (some ⟨bt, 0, none⟩)] w (RetT (bk turn x) w) := by
  have p1 : IntKind.i64.wrap (turn - x.2.2) = turn - x.2.2 := IntWalk.i64_in _ (by omega)
  have p2 : IntKind.i64.wrap (turn - x.2.1) = turn - x.2.1 := IntWalk.i64_in _ (by omega)
  go_enter Try.func95, Try.ntmps95
  go_wp2_with fail
  refine bodyPost_ret (v := .agg #[.int .i64 x.1, .int .i64 (turn - x.2.2), .int .i64 (turn - x.2.1)]) (by simp [results, Try.results95, go_sem]) rfl ⟨rfl, ?_⟩
  exact below_alloc (below_alloc (Below.refl _ _) _) _

theorem own_weakenB {w : World} {B B' e size n : Nat} {v : Value} {xs : List Value} (h : w.ownsRow B' e size v n xs) (hB : B ≤ B') : w.ownsRow B e size v n xs :=
  ⟨h.1, h.2.imp id (fun ⟨g, cap, cur, a, b, c⟩ => ⟨g, cap, cur, a, Nat.le_trans hB b, c⟩)⟩
/-- The times of a list lie in range. -/
def TimesOk (l : List T3) : Prop := ∀ s ∈ l, (0 ≤ s.2.1 ∧ s.2.1 ≤ 10000) ∧ 0 ≤ s.2.2 ∧ s.2.2 ≤ 10000
def HeldE (w : World) (b : Nat) (x : T3) (q : Option Addr) (w' : World) : Prop :=
  Below w.heap.size w w' ∧ w'.cell? ⟨b, 0, none⟩ = some (.int .i64 x.1) ∧ w'.cell? ⟨b, 1, none⟩ = some (.int .i64 x.2.1) ∧ w'.cell? ⟨b, 2, none⟩ = some (.int .i64 x.2.2) ∧ w'.cell? ⟨b, 3, none⟩ = some (.pointer q)
theorem HeldE.next {w W W' : World} {b : Nat} {x : T3} {q : Option Addr} (h : HeldE w b x q W) (hb : Below W.heap.size W W') (hbw : b < w.heap.size) : HeldE w b x q W' := by
  obtain ⟨h0, h1, h2, h3, h4⟩ := h
  have hlt : b < W.heap.size := Nat.lt_of_lt_of_le hbw h0.size
  exact ⟨h0.trans (hb.mono h0.size), (hb.cell hlt).trans h1, (hb.cell hlt).trans h2, (hb.cell hlt).trans h3, (hb.cell hlt).trans h4⟩
theorem each_nil {turn : Int} {w : World} : RetC (([] : List T3).map (bk turn)) w (.returned (.pointer none)) w := ⟨none, rfl, rfl, Below.refl _ _⟩

set_option maxRecDepth 100000 in
set_option maxHeartbeats 8000000 in
theorem each_any (turn : Int) (bt : Nat) (l : List T3) (ht0 : 0 ≤ turn) (ht1 : turn ≤ 20000) : ∀ (p : Option Addr) (lo hi : Nat) (w : World), TimesOk l → Chain w lo hi p l → hi ≤ w.heap.size → w.cell? ⟨bt, 0, none⟩ = some (.int .i64 turn) → bt < w.heap.size →
    Calls Try.prog 94 #[.pointer p, .func (.func 95) #[] #[.pointer (some ⟨bt, 0, none⟩)]] w (RetC (l.map (bk turn)) w) := by
  induction l with
  | nil =>
    intro p lo hi w _ hc _ _ _
    obtain rfl : p = none := hc
    go_enter Try.func94, Try.ntmps94
    go_wp2_with fail
    go_ret
    exact each_nil
  | cons x r ih =>
    intro p lo hi w hto hc hh hct hbt
    obtain ⟨b, q, rfl, hlo, hhi, c0, c1, c2, c3, hcr⟩ := hc
    have hbw : b < w.heap.size := by omega
    have hx := hto x (by simp)
    obtain ⟨⟨t1, t2⟩, t3, t4⟩ := hx
    have HREC := Lib.hid (show ∀ W, Below w.heap.size w W → Calls Try.prog 94 #[.pointer q, .func (.func 95) #[] #[.pointer (some ⟨bt, 0, none⟩)]] W (RetC (r.map (bk turn)) W) from
      fun W hb => ih q lo hi W (fun s hs => hto s (by simp [hs])) (hcr.below hb hh) (Nat.le_trans hh hb.size) ((hb.cell (p := ⟨bt, 0, none⟩) hbt).trans hct) (Nat.lt_of_lt_of_le hbt hb.size))
    have HCL := Lib.hid (show ∀ W, Below w.heap.size w W → Calls Try.prog 95 #[.agg #[.int .i64 x.1, .int .i64 x.2.1, .int .i64 x.2.2], .pointer (some ⟨bt, 0, none⟩)] W (RetT (bk turn x) W) from
      fun W hb => bcl_any turn bt x W ht0 ht1 t1 t2 t3 t4 ((hb.cell (p := ⟨bt, 0, none⟩) hbt).trans hct) (Nat.lt_of_lt_of_le hbt hb.size))
    have H0 := Lib.hid (show HeldE w b x q w from ⟨Below.refl _ _, c0, c1, c2, c3⟩)
    clear hcr hto t1 t2 t3 t4 ih hct hbt hlo hhi hh
    go_enter Try.func94, Try.ntmps94
    have hbd : Below w.heap.size w w.drew := below_drewN (Below.refl _ _) 1
    go_wp2_with fail
    go_region_held3 (fun w' => w'.cell? ⟨b, 0, none⟩ = some (.int .i64 x.1) ∧ w'.cell? ⟨b, 1, none⟩ = some (.int .i64 x.2.1) ∧ w'.cell? ⟨b, 2, none⟩ = some (.int .i64 x.2.2) ∧ w'.cell? ⟨b, 3, none⟩ = some (.pointer q)) (simp (maxDischargeDepth := 8) [*, World.cell?_alloc_some])
      (first | (go_at_call 95; refine (HCL.out w.drew hbd).mono ?_; rintro e wc ⟨rfl, hbc'⟩; have hbc := below_of_drew hbc'; have hcb : ∀ b o, b < w.heap.size → wc.cell? ⟨b, o, none⟩ = w.cell? ⟨b, o, none⟩ := cell_below hbc) | (go_at_call 94; refine (HREC.out wc hbc).mono ?_; rintro e w2 ⟨p2, rfl, hch, hb2⟩; have hb02 : Below w.heap.size w w2 := hbc.trans (hb2.mono hbc.size); have hcb2 : ∀ b o, b < w.heap.size → w2.cell? ⟨b, o, none⟩ = w.cell? ⟨b, o, none⟩ := cell_below hb02))
    have hp := Lib.hid (hch.more (hbc.size) (Nat.le_refl _) |>.push hb02.size (bk turn x) 92)
    go_wp2_with fail
    go_ret
    exact ⟨_, rfl, hp.out, below_alloc hb02 _⟩

theorem timesOk_rev {n : Int} {l : List T3} (h : stopsB n l = true) : TimesOk l.reverse := by
  intro s hs
  rw [List.mem_reverse] at hs
  obtain ⟨k, hk, rfl⟩ := List.mem_iff_getElem.1 hs
  obtain ⟨_, _, h1, h2, h3⟩ := stopsB_get h k hk
  omega
theorem back_eq {n : Int} {l : List T3} {turn : Int} (h : backPre n l turn = true) : backV n l turn = chkV n (backM turn l) ∧ backOk n l turn = stopsB n (backM turn l) := by
  have e : backOk n l turn = stopsB n (backM turn l) := by rw [backOk, h, Bool.true_and]
  exact ⟨by rw [backV, chkV, e], e⟩
theorem back_pre_no {n : Int} {l : List T3} {turn : Int} (h : backPre n l turn = false) : backV n l turn = [] ∧ backOk n l turn = false := by
  have e : backOk n l turn = false := by rw [backOk, h, Bool.false_and]
  exact ⟨back_no e, e⟩

set_option maxRecDepth 100000 in
set_option maxHeartbeats 4000000 in
theorem iBack_any (n : Int) (A : Option Addr) (c lo hi : Nat) (l : List T3) (turn : Int) (w : World) (hl : l.length ≤ 1048576) (hr : Rd w lo hi A (flat3 l)) (hh : hi ≤ w.heap.size) :
    Calls Try.prog 74 #[.int .i64 n, .slice A l.length c, .int .i64 turn] w (RetBk 30 (backV n l turn) (backOk n l turn) w) := by
  have hbA := below_alloc (Below.refl w.heap.size w) (.cells #[.int .i64 turn] 3)
  have hct : (w.alloc (.cells #[.int .i64 turn] 3)).cell? ⟨w.heap.size, 0, none⟩ = some (.int .i64 turn) := by simp [go_sem]
  have hbt : w.heap.size < (w.alloc (.cells #[.int .i64 turn] 3)).heap.size := by simp
  have hrA := hr.below hbA hh
  have hhA := Nat.le_trans hh hbA.size
  go_enter Try.func74, Try.ntmps74
  go_wp2_with fail
  refine (linkStops_any n _ _ _ _ l _ hl hrA hhA).mono ?_
  generalize w.alloc (.cells #[.int .i64 turn] 3) = wA at *
  rintro e w1 ⟨p, rfl, hb1, ⟨hv, hc⟩ | ⟨hv, rfl⟩⟩
  · obtain ⟨b, rfl⟩ := chain_nil hv hc
    have hb01 := hbA.trans (hb1.mono hbA.size)
    have hct1 := (hb1.cell (p := ⟨w.heap.size, 0, none⟩) hbt).trans hct
    have hbt1 : w.heap.size < w1.heap.size := Nat.lt_of_lt_of_le hbt hb1.size
    have HC := Lib.hid hc
    have HV := Lib.hid hv
    have hl8 := (stopsB_n hv).2.2.2
    clear hv hc
    by_cases ht : 0 ≤ turn ∧ turn ≤ 20000
    · obtain ⟨ht0, ht1⟩ := ht
      have HP := Lib.hid (back_eq (show backPre n l turn = true by rw [backPre, HV.out, inB_true ⟨ht0, ht1⟩]; rfl))
      go_wp2_with fail
      refine (opp_any _ _ _ l w1 HC.out (Nat.le_refl _)).mono ?_
      rintro e w2 ⟨p2, rfl, hc2, hb2⟩
      have hct2 := (hb2.cell (p := ⟨w.heap.size, 0, none⟩) hbt1).trans hct1
      have hbt2 : w.heap.size < w2.heap.size := Nat.lt_of_lt_of_le hbt1 hb2.size
      have hb02 := hb01.trans (hb2.mono hb01.size)
      have HC2 := Lib.hid hc2
      clear hc2 hct1
      go_wp2_with fail
      refine (each_any turn w.heap.size l.reverse ht0 ht1 p2 _ _ w2 (timesOk_rev HV.out) HC2.out (Nat.le_refl _) hct2 hbt2).mono ?_
      rintro e w3 ⟨p3, rfl, hc3, hb3⟩
      have hb03 := hb02.trans (hb3.mono hb02.size)
      have HC3 := Lib.hid (show Chain w3 w2.heap.size w3.heap.size p3 (backM turn l) from hc3)
      clear hc3
      go_wp2_with fail
      refine (checked_any n p3 _ _ (backM turn l) w3 (by rw [backM_length]; exact hl) HC3.out (Nat.le_refl _)).mono ?_
      rintro e w4 ⟨P, d, rfl, ho, hb4⟩
      have HRES := Lib.hid (show RetBk 30 (backV n l turn) (backOk n l turn) w (.returned (.tuple #[.slice P (chkV n (backM turn l)).length d, .bool (stopsB n (backM turn l))])) w4 from by
        rw [HP.out.1, HP.out.2]
        exact ⟨P, d, rfl, own_weakenB ho hb03.size, hb03.trans (hb4.mono hb03.size)⟩)
      clear ho
      generalize (chkV n (backM turn l)).length = m at *
      generalize stopsB n (backM turn l) = bb at *
      go_wp2_with fail
      go_ret2
      exact HRES.out
    · have HP := Lib.hid (back_pre_no (show backPre n l turn = false by rw [backPre, inB_false ht, Bool.and_false]))
      go_wp2_with fail
      all_goals (go_ret2; exact retBk_no hb01 HP.out.1 HP.out.2)
  · have hb01 := hbA.trans (hb1.mono hbA.size)
    have HP := Lib.hid (back_pre_no (turn := turn) (show backPre n l turn = false by rw [backPre, hv, Bool.false_and]))
    clear hv
    go_wp2_with fail
    go_ret2
    exact retBk_no hb01 HP.out.1 HP.out.2

end Go.Proofs.Ytdiichfdffhdaaa

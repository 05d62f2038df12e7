/-
  Contract of the program's leaveTable.spread, and of PostLeave.
-/
import Derived.Test.YtdiichfdffhdaaaLeaveI
import Derived.Test.YtdiichfdffhdaaaPostI
namespace Go.Proofs.Ytdiichfdffhdaaa
open Go.RowKit

def SprLRet (P g cap hi : Nat) (A : Option Addr) (c : Nat) (net : Net) (n last till ch : Int) (T : List Int) (town : Int) (w : World) (e : Ending) (w' : World) : Prop :=
  (∃ v, e = .returned v) ∧ (∃ T', LTw w' P g cap hi A c net n last till ch T' ∧ Spr (EdB net last ch) last (10000 - till) n 10001 (keyB last till T) town (keyB last till T')) ∧ w.grownBy w' (some g)
def SpreadLC (P g cap hi : Nat) (A : Option Addr) (c : Nat) (net : Net) (n last till ch : Int) (N : Nat) : Prop :=
  ∀ (w : World) (T : List Int) (town : Int), phi n (keyB last till T) < N → LTw w P g cap hi A c net n last till ch T → Sound (EdB net last ch) last (10000 - till) n 10001 (keyB last till T) → 0 ≤ town → town < n → keyB last till T town < 10001 →
    Calls Try.prog 78 #[.pointer (some ⟨P, 0, none⟩), .int .i64 town] w (SprLRet P g cap hi A c net n last till ch T town w)
def SprLJ (P g cap hi : Nat) (A : Option Addr) (c : Nat) (net : Net) (n last till ch : Int) (T : List Int) (town : Int) (bx : Nat) (done : T3 → T3 → Prop) (w' : World) : Prop :=
  ∃ T', LTw w' P g cap hi A c net n last till ch T' ∧ Mid (EdB net last ch) last (10000 - till) n 10001 (keyB last till T) town (fun thr v x => ∃ a b, done a b ∧ thr = thrB last ch b ∧ v = a.1 ∧ v ≠ last ∧ x = 10000 - a.2.2) (keyB last till T') ∧ w'.cell? ⟨bx, 0, none⟩ = some (.pointer (some ⟨P, 0, none⟩)) ∧ bx < w'.heap.size

theorem gr_drewNx {a w : World} {row : Option Nat} (h : a.grownBy w row) (q : Nat) : a.grownBy (w.drewN q) row := ⟨h.os, h.tape, h.output, h.size, h.block⟩
theorem gr_setx {a w : World} {g : Nat} (h : a.grownBy w (some g)) (o : Nat) (u : Value) : a.grownBy (w.setCell ⟨g, o, none⟩ u) (some g) := h.trans ⟨rfl, rfl, rfl, by simp, fun j _ hj => Below.heap_setCell _ _ _ _ (fun e => hj (by rw [e]))⟩
theorem sprLJ_below {P g cap hi : Nat} {A : Option Addr} {c : Nat} {net : Net} {n last till ch : Int} {T : List Int} {town : Int} {bx : Nat} {done : T3 → T3 → Prop} {w' w'' : World} (h : SprLJ P g cap hi A c net n last till ch T town bx done w') (hb : Below w'.heap.size w' w'') : SprLJ P g cap hi A c net n last till ch T town bx done w'' := by
  obtain ⟨T', h1, h2, h3, h4⟩ := h
  exact ⟨T', h1.below hb, h2, (hb.cell (p := ⟨bx, 0, none⟩) h4).trans h3, Nat.lt_of_lt_of_le h4 hb.size⟩
set_option maxRecDepth 100000 in
set_option maxHeartbeats 4000000 in
theorem cspreadL_any {P g cap hi : Nat} {A : Option Addr} {c : Nat} {net : Net} {n last till ch : Int} {N : Nat} (IH : SpreadLC P g cap hi A c net n last till ch N) {T : List Int} {town : Int} {bx : Nat} (hnet : netB n net = true) (hch : 0 ≤ ch) (hn : n ≤ 8) (hbg : bx ≠ g) (hN : phi n (keyB last till T) < N + 1) (h0 : 0 ≤ town) (h1 : town < n)
    (done : T3 → T3 → Prop) (w : World) (a b : T3) (hJ : SprLJ P g cap hi A c net n last till ch T town bx done w) (hh : Hop net a b) (hb : b.1 = town) (hr : keyB last till T town ≤ thrB last ch b) :
    Calls Try.prog 99 #[.agg #[.int .i64 a.1, .int .i64 a.2.1, .int .i64 a.2.2], .pointer (some ⟨bx, 0, none⟩)] w fun e w' => (∃ v, e = .returned v) ∧ SprLJ P g cap hi A c net n last till ch T town bx (fun x y => done x y ∨ (x = a ∧ y = b)) w' ∧ w.grownBy w' (some g) := by
  have ho := hop_ok hnet hh
  unfold SpreadLC at IH
  obtain ⟨T', hp, hm, hcx, hbx⟩ := hJ
  have hbA := below_alloc (Below.refl w.heap.size w) (.cells #[.int .i64 a.1, .int .i64 a.2.1, .int .i64 a.2.2] 30)
  have hpA := hp.below hbA
  have ha0 : 0 ≤ a.1 ∧ a.1 < n := by omega
  have hPl := hp.lt
  have c1 := hp.c1
  have c4 := hp.c4
  have cg := hp.get ha0.1 ha0.2
  have hgl := hp.glt
  have htg := hp.ok.tg ha0.1 ha0.2
  have hlt8 : a.1 < ((n.toNat : Nat) : Int) := by omega
  have hfz := hp.own.frozenAt a.1.toNat
  have hbxw : bx ≠ w.heap.size := by omega
  by_cases hal : a.1 = last
  · have hm2 := Lib.hid (mid_keep (done' := fun thr v x => ∃ a' b', (done a' b' ∨ (a' = a ∧ b' = b)) ∧ thr = thrB last ch b' ∧ v = a'.1 ∧ v ≠ last ∧ x = 10000 - a'.2.2) hm (by
      rintro thr w' x ⟨a', b', hd | ⟨rfl, rfl⟩, rfl, rfl, hv, rfl⟩
      · exact .inl ⟨a', b', hd, rfl, rfl, hv, rfl⟩
      · exact absurd hal hv))
    have hd : (a.1 != last) = false := by simp [hal]
    have HPA := Lib.hid hpA
    have hcx1 := (hbA.cell (p := ⟨bx, 0, none⟩) hbx).trans hcx
    clear hm hp hpA hal hh hb hr
    go_enter Try.func99, Try.ntmps99
    go_wp2_with fail
    go_quiet (fail)
    go_wp2_with fail
    go_end0
    exact ⟨⟨_, rfl⟩, ⟨T', HPA.out.drewN _, hm2.out, hcx1, by simp; omega⟩, gr_drewNx (grown_of_below hbA _) _⟩
  have hnel : (a.1 != last) = true := by simp [hal]
  by_cases hbt : tg T' a.1 < a.2.2
  · have hed : EdB net last ch town (thrB last ch b) a.1 (10000 - a.2.2) := ⟨a, b, hh, hb.symm, rfl, rfl, hal, rfl⟩
    have hxk : 10000 - a.2.2 < keyB last till T' a.1 := by unfold keyB; rw [if_neg hal]; omega
    have hlt : a.1.toNat < T'.length := by rw [hp.ok.1]; omega
    have hset := keyB_set (T := T') (till := till) (w := a.1) (x := a.2.2) ha0.1 hlt hal
    have hsnd := put_sound (edB_ok hnet hch) hm hed hr
    have hphi : phi n (keyB last till (T'.set a.1.toNat a.2.2)) < N := by
      rw [hset]
      have e1 := phi_put (n := n) (κ := keyB last till T') ha0.1 ha0.2 (x := 10000 - a.2.2) (by omega) hxk
      have e2 := phi_le (n := n) hm.1
      omega
    have hkey : keyB last till (T'.set a.1.toNat a.2.2) a.1 < 10001 := by rw [hset]; unfold Go.Proofs.Ytdiichfdffhdaaa.put; rw [if_pos rfl]; omega
    have hps := fun q => (hpA.drewN q).set a.1.toNat (x := a.2.2) (by omega)
    have hgs := fun q => gr_setx (gr_drewNx (grown_of_below hbA (some g)) q) a.1.toNat (.int .i64 a.2.2)
    have HSET := Lib.hid hset
    have HSND := Lib.hid (show Sound (EdB net last ch) last (10000 - till) n 10001 (keyB last till (T'.set a.1.toNat a.2.2)) by rw [hset]; exact hsnd)
    have HM := Lib.hid hm
    have HED := Lib.hid hed
    have HRD := Lib.hid hr
    have HPS := Lib.hid hps
    have HGS := Lib.hid hgs
    have HPHI := Lib.hid hphi
    have HKEY := Lib.hid hkey
    have HXK := Lib.hid hxk
    clear hset hsnd hm hed hb hr hh hps hgs hphi hkey hxk hp hpA hal
    have hcx1 : (w.alloc (.cells #[.int .i64 a.1, .int .i64 a.2.1, .int .i64 a.2.2] 30)).cell? ⟨bx, 0, none⟩ = some (.pointer (some ⟨P, 0, none⟩)) := (hbA.cell (p := ⟨bx, 0, none⟩) hbx).trans hcx
    have hgb : g ≠ w.heap.size := by omega
    generalize tg T' a.1 = y at *
    go_enter Try.func99, Try.ntmps99
    go_wp2_with fail
    go_quiet (fail)
    go_wp2_with fail
    go_region
    obtain ⟨V, hV⟩ : ∃ V, V = ((w.alloc (.cells #[.int .i64 a.1, .int .i64 a.2.1, .int .i64 a.2.2] 30)).drewN (nq + 1)).setCell ⟨g, a.1.toNat, none⟩ (.int .i64 a.2.2) := ⟨_, rfl⟩
    have vp : V.cell? ⟨bx, 0, none⟩ = some (.pointer (some ⟨P, 0, none⟩)) := by rw [hV]; exact (World.cell?_setCell_other _ _ _ _ (fun e => by injection e with e1; exact hbg e1.symm)).trans hcx1
    have va : V.cell? ⟨w.heap.size, 0, none⟩ = some (.int .i64 a.1) := by rw [hV]; exact (World.cell?_setCell_other _ _ _ _ (fun e => by injection e with e1; exact hgb e1)).trans (by rw [World.cell?_drewN]; simp [go_sem])
    have vs : V.heap.size = w.heap.size + 1 := by rw [hV]; simp
    have vlt := Lib.hid (HPS.out (nq + 1))
    have vg := Lib.hid (HGS.out (nq + 1))
    rw [← hV] at vlt vg ⊢
    have VS := Lib.hid vs
    clear hV HPS HGS vs hcx1 hcx hbA hPl c1 c4 cg hgl hfz hbxw hgb
    go_wp2_with fail
    ((with_reducible refine (IH _ _ _ HPHI.out vlt.out HSND.out ha0.1 ha0.2 HKEY.out).mono ?_); rintro e w2 ⟨⟨v, rfl⟩, ⟨T3', hp3, hsp⟩, hg3⟩)
    have HSP := Lib.hid hsp
    have HP3 := Lib.hid hp3
    clear hsp hp3
    go_wp2_with fail
    go_end0
    have hsp := HSP.out
    rw [HSET.out] at hsp
    have hm2 := mid_step (done' := fun thr v x => ∃ a' b', (done a' b' ∨ (a' = a ∧ b' = b)) ∧ thr = thrB last ch b' ∧ v = a'.1 ∧ v ≠ last ∧ x = 10000 - a'.2.2) (edB_ok hnet hch) HM.out HED.out HRD.out HXK.out hsp (by
      rintro thr w' x ⟨a', b', hd | ⟨rfl, rfl⟩, rfl, rfl, hv, rfl⟩
      · exact .inl ⟨a', b', hd, rfl, rfl, hv, rfl⟩
      · exact .inr ⟨rfl, rfl⟩)
    exact ⟨⟨_, rfl⟩, ⟨T3', HP3.out, hm2, (cell_grown (o := 0) hg3 (by have := VS.out; omega) hbg).trans vp, Nat.lt_of_lt_of_le (by have := VS.out; omega) hg3.size⟩, vg.out.trans hg3⟩
  · have hle : keyB last till T' a.1 ≤ 10000 - a.2.2 := by unfold keyB; rw [if_neg hal]; omega
    have hm2 := Lib.hid (mid_keep (done' := fun thr v x => ∃ a' b', (done a' b' ∨ (a' = a ∧ b' = b)) ∧ thr = thrB last ch b' ∧ v = a'.1 ∧ v ≠ last ∧ x = 10000 - a'.2.2) hm (by
      rintro thr w' x ⟨a', b', hd | ⟨rfl, rfl⟩, rfl, rfl, hv, rfl⟩
      · exact .inl ⟨a', b', hd, rfl, rfl, hv, rfl⟩
      · exact .inr (fun _ _ _ => hle)))
    have HPA := Lib.hid hpA
    have hcx1 := (hbA.cell (p := ⟨bx, 0, none⟩) hbx).trans hcx
    have hbt2 : decide (tg T' a.1 < a.2.2) = false := decide_eq_false hbt
    clear hm hp hpA hal hh hb hr hbt hle
    generalize tg T' a.1 = y at *
    go_enter Try.func99, Try.ntmps99
    go_wp2_with fail
    go_quiet (fail)
    go_wp2_with fail
    go_end0
    exact ⟨⟨_, rfl⟩, ⟨T', HPA.out.drewN _, hm2.out, hcx1, by simp; omega⟩, gr_drewNx (grown_of_below hbA _) _⟩

set_option maxHeartbeats 2000000 in
theorem spreadL_any {P g cap hi : Nat} {A : Option Addr} {c : Nat} {net : Net} {n last till ch : Int} (hnet : netB n net = true) (hch0 : 0 ≤ ch) (hch1 : ch ≤ 300) (hn : n ≤ 8) (N : Nat) : SpreadLC P g cap hi A c net n last till ch N := by
  induction N with
  | zero => intro w T town h; omega
  | succ N ih =>
    intro w T town hN hp hs h0 h1 hk
    have hbA := below_alloc (Below.refl w.heap.size w) (.cells #[.pointer (some ⟨P, 0, none⟩)] 95)
    have hgl := hp.glt
    have HR := fun (w1 : World) (hw1 : w1 = w.alloc (.cells #[.pointer (some ⟨P, 0, none⟩)] 95)) => ridesL_any P g cap hi A c net n last till ch g w.heap.size town (keyB last till T town) (SprLJ P g cap hi A c net n last till ch T town w.heap.size) w1 hnet hch0 hch1 h0 h1 hn (by subst hw1; simp; omega) hp.hg
      (fun done w' h => by
        obtain ⟨T', h1', h2, h3, h4⟩ := h
        exact ⟨T', h1', mid_u h2 h0 h1⟩)
      (fun done w' w'' h hb => sprLJ_below h hb)
      (fun done w' a b h hh hb hr _ => cspreadL_any ih hnet hch0 hn (by omega) hN h0 h1 done w' a b h hh hb hr)
      (by subst hw1; simp) (by subst hw1; exact ⟨T, hp.below hbA, mid_keep (mid_start hs) (by rintro thr w' x ⟨a, b, h, _⟩; exact h.elim), by simp [go_sem], by simp⟩)
    have HRH := Lib.hid HR
    have HS := Lib.hid hs
    clear HR hs ih
    go_enter Try.func78, Try.ntmps78
    go_wp2_with fail
    ((with_reducible refine (HRH.out _ rfl).mono ?_); rintro e w1 ⟨⟨v, rfl⟩, ⟨done, ⟨T', hp', hm, _, _⟩, hd⟩, hg⟩)
    have HM2 := Lib.hid hm
    have HD2 := Lib.hid hd
    clear hm hd
    go_wp2_with fail
    go_end0
    have hm := HM2.out
    refine ⟨⟨_, rfl⟩, ⟨T', hp', mid_end (edB_ok hnet hch0) (mid_keep (done' := EdB net last ch town) hm ?_) h0 h1 (fun _ _ _ h => h)⟩, (grown_of_below hbA _).trans hg⟩
    rintro thr v' x ⟨a, b, hh, ha, rfl, rfl, hv, rfl⟩
    by_cases hr : keyB last till T town ≤ thrB last ch b
    · exact .inl ⟨a, b, HD2.out a b hh ha.symm hr, rfl, rfl, hv, rfl⟩
    · exact .inr (fun _ _ h => absurd h hr)

theorem initB_key {n last till : Int} (h0 : 0 ≤ last) (v : Int) (hv0 : 0 ≤ v) (hv1 : v < n) : keyB last till (List.replicate n.toNat (-1)) v = if v = last then 10000 - till else 10001 := by
  unfold keyB
  rw [tg_get hv0 (by rw [List.length_replicate]; omega), List.getElem_replicate]
  rfl
set_option maxRecDepth 100000 in
set_option maxHeartbeats 4000000 in
theorem iPostLeave_any (n : Int) (A : Option Addr) (c hi : Nat) (net : Net) (f to t ch : Int) (w : World) (hl : netSize net ≤ 1048576) (hr : RdN w 0 hi A net) (hh : hi ≤ w.heap.size) :
    Calls Try.prog 46 #[.int .i64 n, .slice A net.length c, .int .i64 f, .int .i64 to, .int .i64 t, .int .i64 ch] w fun e w' => e = .returned (.int .i64 (leaveV n net f to t ch)) ∧ Below w.heap.size w w' := by
  go_enter Try.func46, Try.ntmps46
  go_wp2_with fail
  refine (iNetValid n _ _ _ _ net _ hl hr hh).mono ?_
  rintro e w1 ⟨rfl, hb1⟩
  cases hv : netB n net
  · have hno := Lib.hid (show leaveV n net f to t ch = -1 by simp [leaveV, postOk, hv])
    clear hv
    go_wp2_with fail
    go_ret
    exact ⟨ret_int hno.out.symm, hb1⟩
  have hn := (netB_and hv).1
  obtain ⟨hn1, hn2⟩ := hn
  have HV := Lib.hid hv
  clear hv
  go_wp2_with fail
  refine (townValid_any n f _ (by omega)).mono ?_
  rintro e wq ⟨rfl, rfl⟩
  cases hf : inB f 0 (n - 1)
  · have hno := Lib.hid (show leaveV n net f to t ch = -1 by simp [leaveV, postOk, hf])
    clear hf
    go_wp2_with fail
    go_ret
    exact ⟨ret_int hno.out.symm, hb1⟩
  have HF := Lib.hid hf
  clear hf
  go_wp2_with fail
  refine (townValid_any n to _ (by omega)).mono ?_
  rintro e wq ⟨rfl, rfl⟩
  cases hto : inB to 0 (n - 1)
  · have hno := Lib.hid (show leaveV n net f to t ch = -1 by simp [leaveV, hto])
    clear hto
    go_wp2_with fail
    go_ret
    exact ⟨ret_int hno.out.symm, hb1⟩
  have HTO := Lib.hid hto
  clear hto
  go_wp2_with fail
  refine (timeValid_any t _).mono ?_
  rintro e wq ⟨rfl, rfl⟩
  cases ht : inB t 0 10000
  · have hno := Lib.hid (show leaveV n net f to t ch = -1 by simp [leaveV, postOk, ht])
    clear ht
    go_wp2_with fail
    go_ret
    exact ⟨ret_int hno.out.symm, hb1⟩
  have HT := Lib.hid ht
  clear ht
  go_wp2_with fail
  refine (delayValid_any ch _).mono ?_
  rintro e wq ⟨rfl, rfl⟩
  cases hc : inB ch 0 300
  · have hno := Lib.hid (show leaveV n net f to t ch = -1 by simp [leaveV, postOk, hc])
    clear hc
    go_wp2_with fail
    go_ret
    exact ⟨ret_int hno.out.symm, hb1⟩
  have hyes := Lib.hid (show postOk n net f t ch = true by simp [postOk, hc, HV.out, HF.out, HT.out])
  have HC := Lib.hid hc
  clear hc
  by_cases hft : f = to
  · have hno := Lib.hid (show leaveV n net f to t ch = t by unfold leaveV; rw [hyes.out, HTO.out, if_pos hft]; rfl)
    have hd : (f == to) = true := by simp [hft]
    clear hft
    go_wp2_with fail
    go_ret
    exact ⟨ret_int hno.out.symm, hb1⟩
  have HNE := Lib.hid hft
  have hd : (f == to) = false := by simp [hft]
  clear hft
  obtain ⟨m, rfl⟩ : ∃ m : Nat, n = (m : Int) := ⟨n.toNat, by omega⟩
  have hbA := below_alloc hb1 (.cells #[.int .i64 (-1)] 3)
  go_wp2_with fail
  refine (repeat_any (-1) w1.heap.size 1 m _ (by omega) (by omega) (by simp [go_sem]) (by simp)).mono ?_
  rintro e w3 ⟨rfl, ho3, hb3⟩
  have hz1 := hb1.size
  have hz3 := hb3.size
  have hb13 := hbA.trans (hb3.mono hbA.size)
  have ho3' := (own_lt ho3)
  obtain ⟨g, hg⟩ : ∃ g, g = (w1.alloc (.cells #[.int .i64 (-1)] 3)).heap.size := ⟨_, rfl⟩
  have hgw : w1.heap.size < g := by rw [hg]; simp
  rw [← hg] at ho3 ho3'
  rw [show ((w1.alloc (.cells #[.int .i64 (-1)] 3)).heap.size) = g from hg.symm]
  have HG := Lib.hid hg
  clear hg
  have hbB := below_alloc (Below.refl w3.heap.size w3) (.cells #[.slice A net.length c, .int .i64 to, .int .i64 t, .int .i64 ch, .slice (some ⟨g, 0, none⟩) m m] 98)
  have hF := of_inB HF.out
  have hTO := of_inB HTO.out
  have hT := of_inB HT.out
  have hC := of_inB HC.out
  have hp4 : LTw (w3.alloc (.cells #[.slice A net.length c, .int .i64 to, .int .i64 t, .int .i64 ch, .slice (some ⟨g, 0, none⟩) m m] 98)) w3.heap.size g m hi A c net m to t ch (List.replicate m (-1)) :=
    ⟨by simp, by simp [go_sem], by simp [go_sem], by simp [go_sem], by simp [go_sem], by simp [go_sem], by simpa using own_below ho3 hbB, (hr.below (hb13.trans (hbB.mono hb13.size)) hh), by omega, by omega, ⟨by simp, fun x hx => by rw [List.eq_of_mem_replicate hx]; omega⟩⟩
  have hkey : ∀ v, 0 ≤ v → v < (m : Int) → keyB to t (List.replicate m (-1)) v = if v = to then 10000 - t else 10001 := fun v h0 h1 => by
    have := initB_key (n := (m : Int)) (till := t) hTO.1 v h0 h1
    simpa using this
  have HK := Lib.hid hkey
  clear hkey
  have HP4 := Lib.hid hp4
  have hb4 := Lib.hid (hb13.trans (hbB.mono hb13.size))
  clear hp4
  go_wp2_with fail
  refine (spreadL_any (till := t) HV.out hC.1 hC.2 hn2 _ _ _ to (Nat.lt_succ_self _) HP4.out (fun v h0 h1 hkv => ?_) hTO.1 (by omega) ?_).mono ?_
  · by_cases e : v = to
    · subst e
      rw [HK.out v h0 h1, if_pos rfl]
      exact Rr_start
    · rw [HK.out v h0 h1, if_neg e] at hkv; omega
  · rw [HK.out to hTO.1 (by omega), if_pos rfl]; omega
  · rintro e w5 ⟨⟨v, rfl⟩, ⟨T', hp5, hs5⟩, hg5⟩
    have hmin := Lib.hid (show IsLeave (m : Int) net to t ch T' from ⟨hp5.ok, spr_least (edB_ok HV.out hC.1) hTO.1 (by omega) (by rw [HK.out to hTO.1 (by omega), if_pos rfl]) (fun v h0 h1 hv => by rw [HK.out v h0 h1, if_neg hv]) (by omega) hs5⟩)
    have hres := Lib.hid (show leaveV m net f to t ch = tg T' f by
      rw [leave_eq hyes.out ⟨hTO.1, by omega⟩ HNE.out hmin.out]
      simp [leaveV, hyes.out, HTO.out, HNE.out])
    have c4 := hp5.c4
    have hPl := hp5.lt
    have hgl := hp5.glt
    have cf := hp5.get hF.1 (by omega)
    have hfm : f < (((m : Int).toNat : Nat) : Int) := by omega
    have hb5 := Lib.hid (show Below w.heap.size w w5 from hb4.out.grown hg5 hb4.out.size (fun k hk => by injection hk with hk; omega))
    have f0 := hF.1
    clear hs5 hp5
    generalize tg T' f = y at *
    go_wp2_with fail
    go_ret
    exact ⟨ret_int hres.out.symm, hb5.out⟩

end Go.Proofs.Ytdiichfdffhdaaa

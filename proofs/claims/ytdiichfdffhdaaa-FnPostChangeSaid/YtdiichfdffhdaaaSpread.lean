/-
  Contract of the program's postTable.spread: what it leaves is a search.
-/
import Derived.Test.YtdiichfdffhdaaaRides
namespace Go.Proofs.Ytdiichfdffhdaaa
open Go.RowKit

def SprRet (P g cap hi : Nat) (A : Option Addr) (c : Nat) (net : Net) (n f ch t0 : Int) (T : List Int) (town : Int) (w : World) (e : Ending) (w' : World) : Prop :=
  (∃ v, e = .returned v) ∧ (∃ T', PTw w' P g cap hi A c net n f ch T' ∧ Spr (EdF net f ch) f t0 n 10001 (keyF T) town (keyF T')) ∧ w.grownBy w' (some g)
def SpreadC (P g cap hi : Nat) (A : Option Addr) (c : Nat) (net : Net) (n f ch t0 : Int) (N : Nat) : Prop :=
  ∀ (w : World) (T : List Int) (town : Int), phi n (keyF T) < N → PTw w P g cap hi A c net n f ch T → Sound (EdF net f ch) f t0 n 10001 (keyF T) → 0 ≤ town → town < n → keyF T town < 10001 →
    Calls Try.prog 56 #[.pointer (some ⟨P, 0, none⟩), .int .i64 town] w (SprRet P g cap hi A c net n f ch t0 T town w)
def SprJ (P g cap hi : Nat) (A : Option Addr) (c : Nat) (net : Net) (n f ch t0 : Int) (T : List Int) (town : Int) (bx : Nat) (done : T3 → T3 → Prop) (w' : World) : Prop :=
  ∃ T', PTw w' P g cap hi A c net n f ch T' ∧ Mid (EdF net f ch) f t0 n 10001 (keyF T) town (fun thr v x => ∃ a b, done a b ∧ thr = a.2.2 - chg f ch a.1 ∧ v = b.1 ∧ x = b.2.1) (keyF T') ∧ w'.cell? ⟨bx, 0, none⟩ = some (.pointer (some ⟨P, 0, none⟩)) ∧ bx < w'.heap.size

section
variable {P g cap hi : Nat} {A : Option Addr} {c : Nat} {net : Net} {n f ch t0 : Int} {T : List Int} {town : Int} {bx : Nat}
theorem sprJ_below {done : T3 → T3 → Prop} {w' w'' : World} (h : SprJ P g cap hi A c net n f ch t0 T town bx done w') (hb : Below w'.heap.size w' w'') : SprJ P g cap hi A c net n f ch t0 T town bx done w'' := by
  obtain ⟨T', h1, h2, h3, h4⟩ := h
  exact ⟨T', h1.below hb, h2, (hb.cell (p := ⟨bx, 0, none⟩) h4).trans h3, Nat.lt_of_lt_of_le h4 hb.size⟩
theorem sprJ_get {done : T3 → T3 → Prop} {w' : World} (h : SprJ P g cap hi A c net n f ch t0 T town bx done w') (h0 : 0 ≤ town) (h1 : town < n) (hk : keyF T town < 10001) : ∃ T, PTw w' P g cap hi A c net n f ch T ∧ tg T town = keyF T town ∧ keyF T town = keyF T town := by
  obtain ⟨T', h1', h2, h3, h4⟩ := h
  have := mid_u h2 h0 h1
  have := (keyF_lt (T := T') (v := town) (by omega)).2
  exact ⟨T', h1', by omega, rfl⟩
end
set_option maxHeartbeats 2000000 in
theorem cspread_any {P g cap hi : Nat} {A : Option Addr} {c : Nat} {net : Net} {n f ch t0 : Int} {N : Nat} (IH : SpreadC P g cap hi A c net n f ch t0 N) {T : List Int} {town : Int} {bx : Nat} (hnet : netB n net = true) (hch : 0 ≤ ch) (hn : n ≤ 8) (hbg : bx ≠ g) (hN : phi n (keyF T) < N + 1) (h0 : 0 ≤ town) (h1 : town < n) (hkt : keyF T town < 10001)
    (done : T3 → T3 → Prop) (w : World) (a b : T3) (hJ : SprJ P g cap hi A c net n f ch t0 T town bx done w) (hh : Hop net a b) (ha : a.1 = town) (hr : keyF T town + chg f ch town ≤ a.2.2) :
    Calls Try.prog 83 #[.agg #[.int .i64 b.1, .int .i64 b.2.1, .int .i64 b.2.2], .pointer (some ⟨bx, 0, none⟩)] w fun e w' => (∃ v, e = .returned v) ∧ SprJ P g cap hi A c net n f ch t0 T town bx (fun x y => done x y ∨ (x = a ∧ y = b)) w' ∧ w.grownBy w' (some g) := by
  have ho := hop_ok hnet hh
  unfold SpreadC at IH
  obtain ⟨T', hp, hm, hcx, hbx⟩ := hJ
  have hed : EdF net f ch town (a.2.2 - chg f ch a.1) b.1 b.2.1 := ⟨a, b, hh, ha.symm, rfl, rfl, rfl⟩
  have hrd : keyF T town ≤ a.2.2 - chg f ch a.1 := by rw [ha]; omega
  have hbA := below_alloc (Below.refl w.heap.size w) (.cells #[.int .i64 b.1, .int .i64 b.2.1, .int .i64 b.2.2] 30)
  have hpA := hp.below hbA
  have hb0 : 0 ≤ b.1 ∧ b.1 < n := by omega
  by_cases hbt : tg T' b.1 < 0 ∨ b.2.1 < tg T' b.1
  · have hxk : b.2.1 < keyF T' b.1 := by unfold keyF; split <;> omega
    have hlt : b.1.toNat < T'.length := by rw [hp.ok.1]; omega
    have hset := keyF_set (T := T') (w := b.1) (x := b.2.1) hb0.1 hlt (by omega)
    have hsnd := put_sound (edF_ok hnet hch) hm hed hrd
    have hphi : phi n (keyF (T'.set b.1.toNat b.2.1)) < N := by
      rw [hset]
      have e1 := phi_put (n := n) (κ := keyF T') hb0.1 hb0.2 (x := b.2.1) (by omega) hxk
      have e2 := phi_le (n := n) hm.1
      omega
    have hkey : keyF (T'.set b.1.toNat b.2.1) b.1 < 10001 := by rw [hset]; unfold Go.Proofs.Ytdiichfdffhdaaa.put; rw [if_pos rfl]; omega
    have hps := hpA.set b.1.toNat (x := b.2.1) (by omega)
    have hgs := hpA.grown b.1.toNat (.int .i64 b.2.1)
    have HSET := Lib.hid hset
    have HSND := Lib.hid (show Sound (EdF net f ch) f t0 n 10001 (keyF (T'.set b.1.toNat b.2.1)) by rw [hset]; exact hsnd)
    have HM := Lib.hid hm
    have HED := Lib.hid hed
    have HRD := Lib.hid hrd
    clear hset hsnd hm hed hrd ha hr hh
    have hcx1 : (w.alloc (.cells #[.int .i64 b.1, .int .i64 b.2.1, .int .i64 b.2.2] 30)).cell? ⟨bx, 0, none⟩ = some (.pointer (some ⟨P, 0, none⟩)) := (hbA.cell (p := ⟨bx, 0, none⟩) hbx).trans hcx
    have hcx2 : ((w.alloc (.cells #[.int .i64 b.1, .int .i64 b.2.1, .int .i64 b.2.2] 30)).setCell ⟨g, b.1.toNat, none⟩ (.int .i64 b.2.1)).cell? ⟨bx, 0, none⟩ = some (.pointer (some ⟨P, 0, none⟩)) := (World.cell?_setCell_other _ _ _ _ (fun e => by injection e with e1; exact hbg e1.symm)).trans hcx1
    have hgl := hp.glt
    have hgb : g ≠ w.heap.size := by omega
    go_enter Try.func83, Try.ntmps83
    go_wp2_with fail
    have hcb : ((w.alloc (.cells #[.int .i64 b.1, .int .i64 b.2.1, .int .i64 b.2.2] 30)).setCell ⟨g, b.1.toNat, none⟩ (.int .i64 b.2.1)).cell? ⟨w.heap.size, 0, none⟩ = some (.int .i64 b.1) := (World.cell?_setCell_other _ _ _ _ (fun e => by injection e with e1; exact hgb e1)).trans (by simp [go_sem])
    ((with_reducible refine (reach_yes b.1 b.2.1 hpA hb0.1 hb0.2 hn hbt).mono ?_); rintro e w1 ⟨rfl, hw1⟩)
    rw [hw1] at hcb hcx2 hps hgs
    have hz1 : w1.heap.size = w.heap.size + 1 := by rw [← hw1]; simp
    have HZ := Lib.hid hz1
    clear hw1 hcx1 hz1
    go_wp2_with fail
    ((with_reducible refine (IH _ _ _ hphi hps HSND.out hb0.1 hb0.2 hkey).mono ?_); rintro e w2 ⟨⟨v, rfl⟩, ⟨T3', hp3, hsp⟩, hg3⟩)
    go_wp2_with fail
    go_end0
    rw [HSET.out] at hsp
    have hm2 := mid_step (done' := fun thr v x => ∃ a' b', (done a' b' ∨ (a' = a ∧ b' = b)) ∧ thr = a'.2.2 - chg f ch a'.1 ∧ v = b'.1 ∧ x = b'.2.1) (edF_ok hnet hch) HM.out HED.out HRD.out hxk hsp (by
      rintro thr w' x ⟨a', b', hd | ⟨rfl, rfl⟩, rfl, rfl, rfl⟩
      · exact .inl ⟨a', b', hd, rfl, rfl, rfl⟩
      · exact .inr ⟨rfl, rfl⟩)
    exact ⟨⟨_, rfl⟩, ⟨T3', hp3, hm2, (cell_grown (o := 0) hg3 (by have := HZ.out; omega) hbg).trans hcx2, Nat.lt_of_lt_of_le (by have := HZ.out; omega) hg3.size⟩, ((grown_of_below hbA _).trans hgs).trans hg3⟩
  · have hle : keyF T' b.1 ≤ b.2.1 := by unfold keyF; split <;> omega
    have hn0 : 0 ≤ tg T' b.1 := by omega
    have hn1 : tg T' b.1 ≤ b.2.1 := by omega
    have hm2 := Lib.hid (mid_keep (done' := fun thr v x => ∃ a' b', (done a' b' ∨ (a' = a ∧ b' = b)) ∧ thr = a'.2.2 - chg f ch a'.1 ∧ v = b'.1 ∧ x = b'.2.1) hm (by
      rintro thr w' x ⟨a', b', hd | ⟨rfl, rfl⟩, rfl, rfl, rfl⟩
      · exact .inl ⟨a', b', hd, rfl, rfl, rfl⟩
      · exact .inr (fun _ _ _ => hle)))
    clear hm hed hrd ha hr hh hbt
    have hcx1 : (w.alloc (.cells #[.int .i64 b.1, .int .i64 b.2.1, .int .i64 b.2.2] 30)).cell? ⟨bx, 0, none⟩ = some (.pointer (some ⟨P, 0, none⟩)) := (hbA.cell (p := ⟨bx, 0, none⟩) hbx).trans hcx
    go_enter Try.func83, Try.ntmps83
    go_wp2_with fail
    ((with_reducible refine (reach_no b.1 b.2.1 hpA hb0.1 hb0.2 hn hn0 hn1).mono ?_); rintro e w1 ⟨rfl, rfl⟩)
    go_wp2_with fail
    go_end0
    exact ⟨⟨_, rfl⟩, ⟨T', hpA, hm2.out, hcx1, by simp; omega⟩, grown_of_below hbA _⟩

set_option maxHeartbeats 2000000 in
theorem spread_any {P g cap hi : Nat} {A : Option Addr} {c : Nat} {net : Net} {n f ch t0 : Int} (hok : postOk n net f t0 ch = true) (N : Nat) : SpreadC P g cap hi A c net n f ch t0 N := by
  obtain ⟨hnet, hf, ht, hch, hn⟩ := postOk_and hok
  clear hok
  induction N with
  | zero => intro w T town h; omega
  | succ N ih =>
    intro w T town hN hp hs h0 h1 hk
    have hbA := below_alloc (Below.refl w.heap.size w) (.cells #[.pointer (some ⟨P, 0, none⟩)] 67)
    have hgl := hp.glt
    have HR := fun (w1 : World) (hw1 : w1 = w.alloc (.cells #[.pointer (some ⟨P, 0, none⟩)] 67)) => rides_cspread P g cap hi A c net n f ch g w.heap.size town (keyF T town) (SprJ P g cap hi A c net n f ch t0 T town w.heap.size) w1 hnet hch.1 hch.2 h0 h1 hn.2 (by subst hw1; simp; omega) hp.hg
      (fun done w' h => by
        obtain ⟨T', h1', h2, h3, h4⟩ := h
        have e1 := mid_u h2 h0 h1
        have e2 := (keyF_lt (T := T') (v := town) (by omega)).2
        exact ⟨T', h1', by omega⟩)
      (fun done w' w'' h hb => sprJ_below h hb)
      (fun done w' a b h hh ha hr _ => cspread_any ih hnet hch.1 hn.2 (by omega) hN h0 h1 hk done w' a b h hh ha hr.2)
      (by subst hw1; simp) (by subst hw1; exact ⟨T, hp.below hbA, mid_keep (mid_start hs) (by rintro thr w' x ⟨a, b, h, _⟩; exact h.elim), by simp [go_sem], by simp⟩)
    have HRH := Lib.hid HR
    have HS := Lib.hid hs
    clear HR hs ih
    go_enter Try.func56, Try.ntmps56
    go_wp2_with fail
    ((with_reducible refine (HRH.out _ rfl).mono ?_); rintro e w1 ⟨⟨v, rfl⟩, ⟨done, ⟨T', hp', hm, _, _⟩, hd⟩, hg⟩)
    have HM2 := Lib.hid hm
    clear hm
    go_wp2_with fail
    go_end0
    have hm := HM2.out
    refine ⟨⟨_, rfl⟩, ⟨T', hp', mid_end (edF_ok hnet hch.1) (mid_keep (done' := EdF net f ch town) hm ?_) h0 h1 (fun _ _ _ h => h)⟩, (grown_of_below hbA _).trans hg⟩
    rintro thr v' x ⟨a, b, hh, ha, rfl, rfl, rfl⟩
    by_cases hr : keyF T town ≤ a.2.2 - chg f ch a.1
    · have hk0 := (keyF_lt (T := T) (v := town) hk)
      exact .inl ⟨a, b, hd a b hh ha.symm ⟨by omega, by rw [← ha] at hr; omega⟩, rfl, rfl, rfl⟩
    · exact .inr (fun _ _ h => absurd h hr)

end Go.Proofs.Ytdiichfdffhdaaa

/-
  Contracts of the program's newPostTable, PostTable, PostArrive.
-/
import Derived.Test.YtdiichfdffhdaaaSpread
import Derived.Test.YtdiichfdffhdaaaRepeat
import Derived.Test.YtdiichfdffhdaaaDelay
namespace Go.Proofs.Ytdiichfdffhdaaa
open Go.RowKit

theorem townValid_any (n t : Int) (w : World) (h0 : -1000000 ≤ n) :
    Calls Try.prog 53 #[.int .i64 n, .int .i64 t] w fun e w' => e = .returned (.bool (inB t 0 (n - 1))) ∧ w = w' := by
  by_cases h1 : 0 ≤ t
  · have hd := Lib.hid (show inB t 0 (n - 1) = decide (t < n) by unfold inB; rw [decide_eq_true h1, Bool.true_and, decide_eq_decide]; omega)
    go_enter Try.func53, Try.ntmps53
    go_wp2
    go_ret
    exact ⟨ret_bool hd.out.symm, rfl⟩
  · have h1' : decide (0 ≤ t) = false := by simpa using h1
    have hd := Lib.hid (show inB t 0 (n - 1) = false by unfold inB; rw [h1']; rfl)
    go_enter Try.func53, Try.ntmps53
    go_wp2
    go_ret
    exact ⟨ret_bool hd.out.symm, rfl⟩

def RetNew (hi : Nat) (A : Option Addr) (c : Nat) (net : Net) (n f t0 ch : Int) (w : World) (e : Ending) (w' : World) : Prop :=
  Below w.heap.size w w' ∧ ((postOk n net f t0 ch = true ∧ ∃ P g cap, e = .returned (.pointer (some ⟨P, 0, none⟩)) ∧ PTw w' P g cap hi A c net n f ch (initL n f t0) ∧ w.heap.size ≤ g ∧ w.heap.size ≤ P) ∨ (postOk n net f t0 ch = false ∧ e = .returned (.pointer none)))
set_option maxRecDepth 100000 in
set_option maxHeartbeats 4000000 in
theorem newPostTable_any (n : Int) (A : Option Addr) (c hi : Nat) (net : Net) (f t0 ch : Int) (w : World) (hl : netSize net ≤ 1048576) (hr : RdN w 0 hi A net) (hh : hi ≤ w.heap.size) :
    Calls Try.prog 55 #[.int .i64 n, .slice A net.length c, .int .i64 f, .int .i64 t0, .int .i64 ch] w (RetNew hi A c net n f t0 ch w) := by
  go_enter Try.func55, Try.ntmps55
  go_wp2_with fail
  refine (iNetValid n _ _ _ _ net _ hl hr hh).mono ?_
  rintro e w1 ⟨rfl, hb1⟩
  cases hv : netB n net
  · have hno := Lib.hid (show postOk n net f t0 ch = false by simp [postOk, hv])
    clear hv
    go_wp2_with fail
    go_ret
    exact ⟨hb1, .inr ⟨hno.out, rfl⟩⟩
  have hn := (netB_and hv).1
  obtain ⟨hn1, hn2⟩ := hn
  have HV := Lib.hid hv
  clear hv
  go_wp2_with fail
  refine (townValid_any n f _ (by omega)).mono ?_
  rintro e wq ⟨rfl, rfl⟩
  cases hf : inB f 0 (n - 1)
  · have hno := Lib.hid (show postOk n net f t0 ch = false by simp [postOk, hf])
    clear hf
    go_wp2_with fail
    go_ret
    exact ⟨hb1, .inr ⟨hno.out, rfl⟩⟩
  have HF := Lib.hid hf
  clear hf
  go_wp2_with fail
  refine (timeValid_any t0 _).mono ?_
  rintro e wq ⟨rfl, rfl⟩
  cases ht : inB t0 0 10000
  · have hno := Lib.hid (show postOk n net f t0 ch = false by simp [postOk, ht])
    clear ht
    go_wp2_with fail
    go_ret
    exact ⟨hb1, .inr ⟨hno.out, rfl⟩⟩
  have HT := Lib.hid ht
  clear ht
  go_wp2_with fail
  refine (delayValid_any ch _).mono ?_
  rintro e wq ⟨rfl, rfl⟩
  cases hc : inB ch 0 300
  · have hno := Lib.hid (show postOk n net f t0 ch = false by simp [postOk, hc])
    clear hc
    go_wp2_with fail
    go_ret
    exact ⟨hb1, .inr ⟨hno.out, rfl⟩⟩
  have hyes := Lib.hid (show postOk n net f t0 ch = true by simp [postOk, hc, HV.out, HF.out, HT.out])
  clear hc
  obtain ⟨m, rfl⟩ : ∃ m : Nat, n = (m : Int) := ⟨n.toNat, by omega⟩
  have hbA := below_alloc hb1 (.cells #[.int .i64 (-1)] 3)
  go_wp2_with fail
  refine (repeat_any (-1) w1.heap.size 1 m _ (by omega) (by omega) (by simp [go_sem]) (by simp)).mono ?_
  rintro e w3 ⟨rfl, ho3, hb3⟩
  have hz1 := hb1.size
  have hz3 := hb3.size
  have hb13 := hbA.trans (hb3.mono hbA.size)
  have ho3' := (own_lt ho3)
  obtain ⟨g, hg⟩ : ∃ g, g = (w1.alloc (.cells #[.int .i64 (-1)] 3)).heap.size := ⟨_, rfl⟩
  have hgw : w1.heap.size < g := by rw [hg]; simp
  rw [← hg] at ho3 ho3'
  rw [show ((w1.alloc (.cells #[.int .i64 (-1)] 3)).heap.size) = g from hg.symm]
  have HG := Lib.hid hg
  clear hg
  have hbB := below_alloc (Below.refl w3.heap.size w3) (.cells #[.slice A net.length c, .int .i64 f, .int .i64 ch, .slice (some ⟨g, 0, none⟩) m m] 78)
  have hF := of_inB HF.out
  have hT := of_inB HT.out
  have hp4 : PTw (w3.alloc (.cells #[.slice A net.length c, .int .i64 f, .int .i64 ch, .slice (some ⟨g, 0, none⟩) m m] 78)) w3.heap.size g m hi A c net m f ch (List.replicate m (-1)) :=
    ⟨by simp, by simp [go_sem], by simp [go_sem], by simp [go_sem], by simp [go_sem], by simpa using own_below ho3 hbB, (hr.below (hb13.trans (hbB.mono hb13.size)) hh), by omega, by omega, ⟨by simp, fun x hx => by rw [List.eq_of_mem_replicate hx]; omega⟩⟩
  have hp5 := hp4.set f.toNat (x := t0) (by omega)
  have hfz := hp4.own.frozenAt f.toNat
  obtain ⟨f0, f1⟩ := hF
  have hfm : f < (m : Int) := by omega
  have hcg := hp4.get f0 hfm
  have HP5 := Lib.hid hp5
  have hinit := Lib.hid (show initL m f t0 = (List.replicate m (-1)).set f.toNat t0 by unfold initL; simp)
  clear hp4 hp5
  have hgw3 : g ≠ w3.heap.size := by omega
  go_wp2_with fail
  go_ret
  refine ⟨?_, .inl ⟨hyes.out, w3.heap.size, g, m, rfl, ?_, by omega, by omega⟩⟩
  · (repeat (first | exact Below.refl _ _ | assumption | apply below_alloc | apply below_drewN | apply Below.drew | refine Below.setCell ?_ (by simp; try omega) _))
  · rw [hinit.out]
    have := HP5.out
    rw [World.setCell_alloc_past _ _ _ _ (by omega)] at this
    exact this

def postTab (n : Int) (net : Net) (f t0 ch : Int) : List Int := if postOk n net f t0 ch then tableL n net f t0 ch else []
theorem postTab_len {n : Int} {net : Net} {f t0 ch : Int} : (postTab n net f t0 ch).length ≤ 8 ∧ (postOk n net f t0 ch = true → (postTab n net f t0 ch).length = n.toNat) := by
  unfold postTab
  split
  · rename_i h
    have h1 := (tableL_is h).1.1
    have h2 := (postOk_and h).2.2.2.2
    exact ⟨by omega, fun _ => h1⟩
  · rename_i h
    exact ⟨by simp, fun h' => absurd h' h⟩
theorem init_sound {n : Int} {net : Net} {f t0 ch : Int} (h : postOk n net f t0 ch = true) : Sound (EdF net f ch) f t0 n 10001 (keyF (initL n f t0)) := fun v h0 h1 hk => ⟨0, ((init_isTabK h).2 v h0 h1).2.1 hk⟩
theorem init_key {n : Int} {net : Net} {f t0 ch : Int} (h : postOk n net f t0 ch = true) {v : Int} (h0 : 0 ≤ v) (h1 : v < n) : keyF (initL n f t0) v = if v = f then t0 else 10001 := by
  have := (postOk_and h).2.2.1
  unfold keyF
  rw [init_tg h h0 h1]
  by_cases e : v = f
  · rw [if_pos e, if_pos e, if_neg (by omega)]
  · rw [if_neg e, if_neg e, if_pos (by omega)]
theorem spr_table {n : Int} {net : Net} {f t0 ch : Int} {T : List Int} (h : postOk n net f t0 ch = true) (hT : TabOk n T) (hs : Spr (EdF net f ch) f t0 n 10001 (keyF (initL n f t0)) f (keyF T)) : T = tableL n net f t0 ch := by
  obtain ⟨hnet, hf, ht, hch, hn⟩ := postOk_and h
  refine table_is h ⟨hT, spr_least (edF_ok hnet hch.1) hf.1 hf.2 ?_ (fun v h0 h1 hv => ?_) (by omega) hs⟩
  · rw [init_key h hf.1 hf.2, if_pos rfl]
  · rw [init_key h h0 h1, if_neg hv]
/-- The table that a run of spread leaves. -/
def RetSpr (P g cap hi : Nat) (A : Option Addr) (c : Nat) (net : Net) (n f t0 ch : Int) (w : World) (e : Ending) (w' : World) : Prop :=
  (∃ v, e = .returned v) ∧ PTw w' P g cap hi A c net n f ch (tableL n net f t0 ch) ∧ w.grownBy w' (some g)
theorem spread_all {P g cap hi : Nat} {A : Option Addr} {c : Nat} {net : Net} {n f ch t0 : Int} (hok : postOk n net f t0 ch = true) (w : World) (hp : PTw w P g cap hi A c net n f ch (initL n f t0)) :
    Calls Try.prog 56 #[.pointer (some ⟨P, 0, none⟩), .int .i64 f] w (RetSpr P g cap hi A c net n f t0 ch w) := by
  obtain ⟨hnet, hf, ht, hch, hn⟩ := postOk_and hok
  refine (spread_any (t0 := t0) hok _ w (initL n f t0) f (Nat.lt_succ_self _) hp (init_sound hok) hf.1 hf.2 (by rw [init_key hok hf.1 hf.2, if_pos rfl]; omega)).mono ?_
  rintro e w' ⟨he, ⟨T', hp', hs⟩, hg⟩
  obtain rfl := spr_table hok hp'.ok hs
  exact ⟨he, hp', hg⟩
set_option maxHeartbeats 1000000 in
theorem iPostTable_any (n : Int) (A : Option Addr) (c hi : Nat) (net : Net) (f t0 ch : Int) (w : World) (hl : netSize net ≤ 1048576) (hr : RdN w 0 hi A net) (hh : hi ≤ w.heap.size) :
    Calls Try.prog 30 #[.int .i64 n, .slice A net.length c, .int .i64 f, .int .i64 t0, .int .i64 ch] w (RetLB 3 (postTab n net f t0 ch) (postOk n net f t0 ch) w) := by
  go_enter Try.func30, Try.ntmps30
  go_wp2_with fail
  refine (newPostTable_any n _ _ _ net f t0 ch _ hl hr hh).mono ?_
  rintro e w1 ⟨hb1, ⟨hok, P, g, cap, rfl, hp, hg, hP⟩ | ⟨hno, rfl⟩⟩
  · have hgl := hp.glt
    have HOK := Lib.hid hok
    have hlen := Lib.hid (postTab_len.2 hok)
    have htab := Lib.hid (show tableL n net f t0 ch = postTab n net f t0 ch by simp [postTab, hok])
    clear hok
    go_wp2_with fail
    refine (spread_all HOK.out _ hp).mono ?_
    rintro e w2 ⟨⟨v, rfl⟩, hp2, hg2⟩
    have c3 := hp2.c3
    have hPl := hp2.lt
    have ho := Lib.hid hp2.own
    have hb2 := Lib.hid (show Below w.heap.size w w2 from hb1.grown hg2 hb1.size (fun k hk => by injection hk with hk; omega))
    clear hp hp2
    go_wp2_with fail
    go_ret2
    refine ⟨some ⟨g, 0, none⟩, cap, ?_, ?_, hb2.out⟩
    · rw [hlen.out, HOK.out]; rfl
    · rw [hlen.out, ← htab.out]; exact own_mono ho.out hg
  · have hno2 := Lib.hid hno
    have htab := Lib.hid (show postTab n net f t0 ch = [] by simp [postTab, hno])
    clear hno
    go_wp2_with fail
    go_ret2
    exact retLB_no hno2.out htab.out hb1 rfl

def postArr (n : Int) (net : Net) (f to t0 ch : Int) : Int := if postOk n net f t0 ch && inB to 0 (n - 1) then tg (tableL n net f t0 ch) to else -1
set_option maxHeartbeats 1000000 in
theorem iPostArrive_any (n : Int) (A : Option Addr) (c hi : Nat) (net : Net) (f to t0 ch : Int) (w : World) (hl : netSize net ≤ 1048576) (hr : RdN w 0 hi A net) (hh : hi ≤ w.heap.size) :
    Calls Try.prog 17 #[.int .i64 n, .slice A net.length c, .int .i64 f, .int .i64 to, .int .i64 t0, .int .i64 ch] w fun e w' => e = .returned (.int .i64 (postArr n net f to t0 ch)) ∧ Below w.heap.size w w' := by
  go_enter Try.func17, Try.ntmps17
  go_wp2_with fail
  refine (iPostTable_any n _ _ _ net f t0 ch _ hl hr hh).mono ?_
  rintro e w1 ⟨B, cc, rfl, ho, hb1⟩
  cases hok : postOk n net f t0 ch
  · have hres := Lib.hid (show postArr n net f to t0 ch = -1 by simp [postArr, hok])
    clear hok ho
    go_wp2_with fail
    go_ret
    exact ⟨ret_int hres.out.symm, hb1⟩
  · have hn := (postOk_and hok).2.2.2.2
    have hlen := postTab_len.2 hok
    have HT := Lib.hid (show postTab n net f t0 ch = tableL n net f t0 ch by simp [postTab, hok])
    have HOK := Lib.hid hok
    clear hok
    obtain ⟨L, hL⟩ : ∃ L, L = postTab n net f t0 ch := ⟨_, rfl⟩
    rw [← hL] at ho hlen ⊢
    have HL := Lib.hid hL
    have HLN := Lib.hid hlen
    clear hL hlen
    go_wp2_with fail
    refine (townValid_any n to _ (by omega)).mono ?_
    rintro e wq ⟨rfl, rfl⟩
    cases ht : inB to 0 (n - 1)
    · have hres := Lib.hid (show postArr n net f to t0 ch = -1 by simp [postArr, ht])
      clear ht
      go_wp2_with fail
      go_ret
      exact ⟨ret_int hres.out.symm, hb1⟩
    · have hres := Lib.hid (show postArr n net f to t0 ch = tg L to by simp only [postArr, ht, HOK.out]; rw [HL.out, HT.out]; rfl)
      obtain ⟨t0', t1'⟩ := of_inB ht
      have hlt : to.toNat < L.length := by rw [HLN.out]; omega
      have hlt' : to < (L.length : Int) := by omega
      have htg := Lib.hid (tg_get (T := L) t0' hlt)
      obtain ⟨b, off, rfl, _, hbl, hc⟩ := (Rd.of_own ho).at1 to.toNat hlt
      clear ht
      generalize L[to.toNat] = x at *
      go_wp2_with fail
      go_ret
      exact ⟨ret_int (by rw [hres.out, htg.out]), hb1⟩

end Go.Proofs.Ytdiichfdffhdaaa

/-
  Contracts of the reference's PostTable, PostArrive, and of PostReach of both sides.
-/
import Derived.Test.YtdiichfdffhdaaaPostS2
import Derived.Test.YtdiichfdffhdaaaPostI
namespace Go.Proofs.Ytdiichfdffhdaaa
open Go.RowKit

set_option maxHeartbeats 1000000 in
theorem sPostTable_any (n : Int) (A : Option Addr) (c hi : Nat) (net : Net) (f t0 ch : Int) (w : World) (hl : netSize net ≤ 1048576) (hr : RdN w 0 hi A net) (hh : hi ≤ w.heap.size) :
    Calls Try.prog 33 #[.int .i64 n, .slice A net.length c, .int .i64 f, .int .i64 t0, .int .i64 ch] w (RetLB 3 (postTab n net f t0 ch) (postOk n net f t0 ch) w) := by
  go_enter Try.func33, Try.ntmps33
  go_wp2_with fail
  refine (l7Ok_any n _ _ _ net f t0 ch _ hl hr hh).mono ?_
  rintro e w1 ⟨rfl, hb1⟩
  cases hok : postOk n net f t0 ch
  · have htab := Lib.hid (show postTab n net f t0 ch = [] by simp [postTab, hok])
    have HOK := Lib.hid hok
    clear hok
    go_wp2_with fail
    go_ret2
    exact retLB_no HOK.out htab.out hb1 rfl
  · have htab := Lib.hid (show postTab n net f t0 ch = tableL n net f t0 ch by simp [postTab, hok])
    have HOK := Lib.hid hok
    clear hok
    go_wp2_with fail
    refine (l7Table_any n _ _ _ net f t0 ch _ HOK.out (hr.below hb1 hh) (Nat.le_trans hh hb1.size)).mono ?_
    rintro e w2 ⟨B, cc, rfl, ho, hb2⟩
    have HO := Lib.hid ho
    clear ho
    go_wp2_with fail
    go_ret2
    refine ⟨B, cc, by rw [htab.out, HOK.out]; rfl, by rw [htab.out]; exact own_mono HO.out hb1.size, hb1.trans (hb2.mono hb1.size)⟩

set_option maxHeartbeats 1000000 in
theorem sPostArrive_any (n : Int) (A : Option Addr) (c hi : Nat) (net : Net) (f to t0 ch : Int) (w : World) (hl : netSize net ≤ 1048576) (hr : RdN w 0 hi A net) (hh : hi ≤ w.heap.size) :
    Calls Try.prog 36 #[.int .i64 n, .slice A net.length c, .int .i64 f, .int .i64 to, .int .i64 t0, .int .i64 ch] w fun e w' => e = .returned (.int .i64 (postArr n net f to t0 ch)) ∧ Below w.heap.size w w' := by
  go_enter Try.func36, Try.ntmps36
  go_wp2_with fail
  refine (sPostTable_any n _ _ _ net f t0 ch _ hl hr hh).mono ?_
  rintro e w1 ⟨B, cc, rfl, ho, hb1⟩
  cases hok : postOk n net f t0 ch
  · have hres := Lib.hid (show postArr n net f to t0 ch = -1 by simp [postArr, hok])
    clear hok ho
    go_wp2_with fail
    go_ret
    exact ⟨ret_int hres.out.symm, hb1⟩
  · have hn := (postOk_and hok).2.2.2.2
    have hlen := postTab_len.2 hok
    have HT := Lib.hid (show postTab n net f t0 ch = tableL n net f t0 ch by simp [postTab, hok])
    have HOK := Lib.hid hok
    clear hok
    obtain ⟨L, hL⟩ : ∃ L, L = postTab n net f t0 ch := ⟨_, rfl⟩
    rw [← hL] at ho hlen ⊢
    have HL := Lib.hid hL
    have HLN := Lib.hid hlen
    clear hL hlen
    obtain ⟨hn1, hn2⟩ := hn
    go_wp2_with fail
    refine (l6In_any to 0 (n - 1) _).mono ?_
    rintro e wq ⟨rfl, rfl⟩
    cases ht : inB to 0 (n - 1)
    · have hres := Lib.hid (show postArr n net f to t0 ch = -1 by simp [postArr, ht])
      clear ht
      go_wp2_with fail
      go_ret
      exact ⟨ret_int hres.out.symm, hb1⟩
    · have hres := Lib.hid (show postArr n net f to t0 ch = tg L to by simp only [postArr, ht, HOK.out]; rw [HL.out, HT.out]; rfl)
      obtain ⟨t0', t1'⟩ := of_inB ht
      have hlt : to.toNat < L.length := by rw [HLN.out]; omega
      have hlt' : to < (L.length : Int) := by omega
      have htg := Lib.hid (tg_get (T := L) t0' hlt)
      obtain ⟨b, off, rfl, _, hbl, hc⟩ := (Rd.of_own ho).at1 to.toNat hlt
      clear ht
      generalize L[to.toNat] = x at *
      go_wp2_with fail
      go_ret
      exact ⟨ret_int (by rw [hres.out, htg.out]), hb1⟩

def inTill (t until_ : Int) : Bool := decide (0 ≤ t) && decide (t ≤ until_)
def reachTo (until_ : Int) (L : List Int) (k : Nat) : List Int := ((List.range k).filter fun i => inTill (L.getD i (-1)) until_).map fun (i : Nat) => (i : Int)
def reachL (n : Int) (net : Net) (f t0 ch until_ : Int) : List Int := reachTo until_ (postTab n net f t0 ch) (postTab n net f t0 ch).length
theorem reachTo_succ (u : Int) (L : List Int) (k : Nat) (h : k < L.length) : reachTo u L (k + 1) = reachTo u L k ++ (if inTill L[k] u then [(k : Int)] else []) := by
  have e : L.getD k (-1) = L[k] := by rw [List.getD_eq_getElem?_getD, List.getElem?_eq_getElem h]; rfl
  unfold reachTo
  rw [List.range_succ, List.filter_append, List.map_append]
  congr 1
  simp only [List.filter_cons, List.filter_nil, e]
  by_cases hh : inTill L[k] u = true
  · rw [if_pos hh, if_pos hh]; rfl
  · rw [if_neg hh, if_neg hh]; rfl
theorem reachTo_len (u : Int) (L : List Int) (k : Nat) : (reachTo u L k).length ≤ k := by
  unfold reachTo; rw [List.length_map]; exact Nat.le_trans (List.length_filter_le _ _) (by simp)
theorem own_kept_ne {w w' : World} {base size n gt m ct : Nat} {e : TypeId} {v : Value} {xs : List Value} (h : w.ownsRow base e size v n xs) (hg : w.grownBy w' (Value.slice (some ⟨gt, 0, none⟩) m ct).ownBlock) (hne : ∀ k, v.ownBlock = some k → k ≠ gt) : w'.ownsRow base e size v n xs :=
  h.kept hg (by cases hv : v.ownBlock with
    | none => exact .inl rfl
    | some k => exact .inr (fun e => hne k hv (by simpa [Value.ownBlock] using e)))

set_option maxRecDepth 100000 in
set_option maxHeartbeats 2000000 in
theorem sPostReach_any (n : Int) (A : Option Addr) (c hi : Nat) (net : Net) (f t0 ch u : Int) (w : World) (hl : netSize net ≤ 1048576) (hr : RdN w 0 hi A net) (hh : hi ≤ w.heap.size) :
    Calls Try.prog 41 #[.int .i64 n, .slice A net.length c, .int .i64 f, .int .i64 t0, .int .i64 ch, .int .i64 u] w (RetI 3 (reachL n net f t0 ch u) w) := by
  obtain ⟨i0, hi0, hz0, hz1, hz2⟩ := info_parts infoInt
  have hbA := below_alloc (Below.refl w.heap.size w) (.cells #[] 3)
  have hoA := own_lit0 w w.heap.size 3 1 (Nat.le_refl _)
  go_enter Try.func41, Try.ntmps41
  go_wp2_with fail
  refine (sPostTable_any n _ _ _ net f t0 ch _ hl (hr.below hbA hh) (Nat.le_trans hh hbA.size)).mono ?_
  rintro e w1 ⟨B, cc, rfl, ho, hb1⟩
  have hoA1 := own_below hoA hb1
  have hb01 := hbA.trans (hb1.mono hbA.size)
  have hL8 := (postTab_len (n := n) (net := net) (f := f) (t0 := t0) (ch := ch)).1
  obtain ⟨L, hL⟩ : ∃ L, L = postTab n net f t0 ch := ⟨_, rfl⟩
  have hres := Lib.hid (show reachL n net f t0 ch u = reachTo u L L.length by rw [hL]; rfl)
  rw [← hL] at ho hL8 ⊢
  have hne : ∀ k, (Value.slice B L.length cc).ownBlock = some k → k ≠ w.heap.size := fun k hk => by have := (ho.lt k hk).1; simp at this; omega
  have HO := Lib.hid ho
  have HNE := Lib.hid hne
  clear hL ho hne
  go_wp2_with fail
  go_loopw [13, 16] (fun v i wr => ∃ (k g cap : Nat), k ≤ L.length ∧ i = .int .i64 k ∧ v = .slice (some ⟨g, 0, none⟩) (reachTo u L k).length cap ∧ wr.ownsRow w.heap.size 3 1 (.slice (some ⟨g, 0, none⟩) (reachTo u L k).length cap) (reachTo u L k).length (ints (reachTo u L k)) ∧ Hid (wr.ownsRow 0 3 1 (.slice B L.length cc) L.length (ints L)) ∧ Hid (∀ k, (Value.slice B L.length cc).ownBlock = some k → k ≠ g) ∧ Below w.heap.size w wr) (fun _ i _ => L.length - (intOf i).toNat)
  case atStart => exact ⟨0, w.heap.size, 0, Nat.zero_le _, rfl, rfl, hoA1, own_mono HO.out (Nat.zero_le _), HNE, hb01⟩
  case round =>
    obtain ⟨k, g, cap, hk, rfl, rfl, hown, HT, HN, hb⟩ := hrel
    have hbs := hb.size
    clear hoA1 HO HNE hb01
    by_cases hlt : k < L.length
    · obtain ⟨b, off, rfl, _, hbb, cx⟩ := (Rd.of_own HT.out).at1 k hlt
      have hrl := reachTo_len u L k
      have hsucc := Lib.hid (reachTo_succ u L k hlt)
      have hln8 : (reachTo u L k).length ≤ 8388608 := by omega
      obtain ⟨x, hx⟩ : ∃ x, x = L[k] := ⟨_, rfl⟩
      rw [← hx] at cx hsucc
      clear hx hrl
      obtain ⟨R, hR⟩ : ∃ R, R = reachTo u L k := ⟨_, rfl⟩
      rw [← hR] at hown hsucc hln8 ⊢
      clear hR
      by_cases hin : 0 ≤ x ∧ x ≤ u
      · have HS := Lib.hid (show reachTo u L (k + 1) = R ++ [(k : Int)] by rw [hsucc.out, if_pos (by simp [inTill, hin.1, hin.2])])
        obtain ⟨h1, h2⟩ := hin
        go_wp2_with (at_builtin; go_must (refine wpList_append1 rfl _ _ 48 rfl w.heap.size 3 i0 _ Try.underlying48 hi0 hz0 hz1 hz2 rfl (.slice (some ⟨g, 0, none⟩) R.length cap) R rfl (hown.alloc _) wr.heap.size _ (nb1 _ _) rfl (by omega) (ls1 hbs _) ?_); intro g2 cap2 w2 hown2 hg2 hor2 _)
        have hb2 := below_grown (below_alloc hb _) (ls1 hbs _) (hown.alloc _) (Nat.le_refl _) hg2
        have HT2 := Lib.hid (own_kept_ne (HT.out.alloc _) hg2 HN.out)
        have HN2 := Lib.hid (show ∀ k, (Value.slice (some ⟨b, off, none⟩) L.length cc).ownBlock = some k → k ≠ g2 from fun k hk => by
          rcases hor2 with e | e
          · intro he
            simp only [Value.ownBlock, Option.some.injEq] at e
            exact HN.out k hk (by rw [he, e])
          · intro he
            have h1 := (HT.out.lt k hk).2
            rw [he, e] at h1
            simp at h1
            omega)
        have hlr : R.length + 1 = (reachTo u L (k + 1)).length := by rw [HS.out]; simp
        rw [hlr, ← HS.out] at hown2
        have HLR := Lib.hid hlr
        clear hlr hor2
        go_roundw
        case rel => exact ⟨k + 1, g2, cap2, by omega, by go_num, by rw [← HLR.out], hown2, HT2, HN2, hb2⟩
        case measure => simp [intOf]; omega
      · have HS := Lib.hid (show reachTo u L (k + 1) = R by rw [hsucc.out, if_neg (by simp only [inTill, Bool.and_eq_true, decide_eq_true_eq]; exact hin), List.append_nil])
        by_cases h1 : 0 ≤ x
        · have h2 : u < x := by omega
          clear hin
          go_wp2_with fail
          go_roundw
          case rel => exact ⟨k + 1, g, cap, by omega, by go_num, by rw [HS.out], by rw [HS.out]; exact hown, HT, HN, hb⟩
          case measure => simp [intOf]; omega
        · have h1d : decide (0 ≤ x) = false := decide_eq_false h1
          clear hin h1
          go_wp2_with fail
          go_roundw
          case rel => exact ⟨k + 1, g, cap, by omega, by go_num, by rw [HS.out], by rw [HS.out]; exact hown, HT, HN, hb⟩
          case measure => simp [intOf]; omega
    · obtain rfl : k = L.length := by omega
      have HOWN := Lib.hid hown
      clear hown
      go_wp2_with fail
      go_ret
      exact ⟨some ⟨g, 0, none⟩, cap, by rw [hres.out]; rfl, by rw [hres.out]; exact HOWN.out, hb⟩
set_option maxRecDepth 100000 in
set_option maxHeartbeats 2000000 in
theorem iPostReach_any (n : Int) (A : Option Addr) (c hi : Nat) (net : Net) (f t0 ch u : Int) (w : World) (hl : netSize net ≤ 1048576) (hr : RdN w 0 hi A net) (hh : hi ≤ w.heap.size) :
    Calls Try.prog 40 #[.int .i64 n, .slice A net.length c, .int .i64 f, .int .i64 t0, .int .i64 ch, .int .i64 u] w (RetI 3 (reachL n net f t0 ch u) w) := by
  obtain ⟨i0, hi0, hz0, hz1, hz2⟩ := info_parts infoInt
  have hbA := below_alloc (Below.refl w.heap.size w) (.cells #[] 3)
  have hoA := own_lit0 w w.heap.size 3 1 (Nat.le_refl _)
  go_enter Try.func40, Try.ntmps40
  go_wp2_with fail
  refine (iPostTable_any n _ _ _ net f t0 ch _ hl (hr.below hbA hh) (Nat.le_trans hh hbA.size)).mono ?_
  rintro e w1 ⟨B, cc, rfl, ho, hb1⟩
  have hoA1 := own_below hoA hb1
  have hb01 := hbA.trans (hb1.mono hbA.size)
  have hL8 := (postTab_len (n := n) (net := net) (f := f) (t0 := t0) (ch := ch)).1
  obtain ⟨L, hL⟩ : ∃ L, L = postTab n net f t0 ch := ⟨_, rfl⟩
  have hres := Lib.hid (show reachL n net f t0 ch u = reachTo u L L.length by rw [hL]; rfl)
  cases hok : postOk n net f t0 ch
  · have hnil : L = [] := by rw [hL]; simp [postTab, hok]
    have HR := Lib.hid (show reachL n net f t0 ch u = [] by rw [hres.out, hnil]; rfl)
    have HOA := Lib.hid hoA1
    clear hok hL hnil ho hoA1
    go_wp2_with fail
    go_ret
    exact ⟨some ⟨w.heap.size, 0, none⟩, 0, by rw [HR.out]; rfl, by rw [HR.out]; exact HOA.out, hb01⟩
  clear hok
  rw [← hL] at ho hL8 ⊢
  have hne : ∀ k, (Value.slice B L.length cc).ownBlock = some k → k ≠ w.heap.size := fun k hk => by have := (ho.lt k hk).1; simp at this; omega
  have HO := Lib.hid ho
  have HNE := Lib.hid hne
  clear hL ho hne
  go_wp2_with fail
  go_loopw [13, 33] (fun v i wr => ∃ (k g cap : Nat), k ≤ L.length ∧ i = .int .i64 k ∧ v = .slice (some ⟨g, 0, none⟩) (reachTo u L k).length cap ∧ wr.ownsRow w.heap.size 3 1 (.slice (some ⟨g, 0, none⟩) (reachTo u L k).length cap) (reachTo u L k).length (ints (reachTo u L k)) ∧ Hid (wr.ownsRow 0 3 1 (.slice B L.length cc) L.length (ints L)) ∧ Hid (∀ k, (Value.slice B L.length cc).ownBlock = some k → k ≠ g) ∧ Below w.heap.size w wr) (fun _ i _ => L.length - (intOf i).toNat)
  case atStart => exact ⟨0, w.heap.size, 0, Nat.zero_le _, rfl, rfl, hoA1, own_mono HO.out (Nat.zero_le _), HNE, hb01⟩
  case round =>
    obtain ⟨k, g, cap, hk, rfl, rfl, hown, HT, HN, hb⟩ := hrel
    have hbs := hb.size
    clear hoA1 HO HNE hb01
    by_cases hlt : k < L.length
    · obtain ⟨b, off, rfl, _, hbb, cx⟩ := (Rd.of_own HT.out).at1 k hlt
      have hrl := reachTo_len u L k
      have hsucc := Lib.hid (reachTo_succ u L k hlt)
      have hln8 : (reachTo u L k).length ≤ 8388608 := by omega
      obtain ⟨x, hx⟩ : ∃ x, x = L[k] := ⟨_, rfl⟩
      rw [← hx] at cx hsucc
      clear hx hrl
      obtain ⟨R, hR⟩ : ∃ R, R = reachTo u L k := ⟨_, rfl⟩
      rw [← hR] at hown hsucc hln8 ⊢
      clear hR
      by_cases hin : 0 ≤ x ∧ x ≤ u
      · have HS := Lib.hid (show reachTo u L (k + 1) = R ++ [(k : Int)] by rw [hsucc.out, if_pos (by simp [inTill, hin.1, hin.2])])
        obtain ⟨h1, h2⟩ := hin
        go_wp2_with (at_builtin; go_must (refine wpList_append1 rfl _ _ 48 rfl w.heap.size 3 i0 _ Try.underlying48 hi0 hz0 hz1 hz2 rfl (.slice (some ⟨g, 0, none⟩) R.length cap) R rfl (hown.alloc _) wr.heap.size _ (nb1 _ _) rfl (by omega) (ls1 hbs _) ?_); intro g2 cap2 w2 hown2 hg2 hor2 _)
        have hb2 := below_grown (below_alloc hb _) (ls1 hbs _) (hown.alloc _) (Nat.le_refl _) hg2
        have HT2 := Lib.hid (own_kept_ne (HT.out.alloc _) hg2 HN.out)
        have HN2 := Lib.hid (show ∀ k, (Value.slice (some ⟨b, off, none⟩) L.length cc).ownBlock = some k → k ≠ g2 from fun k hk => by
          rcases hor2 with e | e
          · intro he
            simp only [Value.ownBlock, Option.some.injEq] at e
            exact HN.out k hk (by rw [he, e])
          · intro he
            have h1 := (HT.out.lt k hk).2
            rw [he, e] at h1
            simp at h1
            omega)
        have hlr : R.length + 1 = (reachTo u L (k + 1)).length := by rw [HS.out]; simp
        rw [hlr, ← HS.out] at hown2
        have HLR := Lib.hid hlr
        clear hlr hor2
        go_roundw
        case rel => exact ⟨k + 1, g2, cap2, by omega, by go_num, by rw [← HLR.out], hown2, HT2, HN2, hb2⟩
        case measure => simp [intOf]; omega
      · have HS := Lib.hid (show reachTo u L (k + 1) = R by rw [hsucc.out, if_neg (by simp only [inTill, Bool.and_eq_true, decide_eq_true_eq]; exact hin), List.append_nil])
        by_cases h1 : 0 ≤ x
        · have h2 : u < x := by omega
          clear hin
          go_wp2_with fail
          go_roundw
          case rel => exact ⟨k + 1, g, cap, by omega, by go_num, by rw [HS.out], by rw [HS.out]; exact hown, HT, HN, hb⟩
          case measure => simp [intOf]; omega
        · have h1d : decide (0 ≤ x) = false := decide_eq_false h1
          clear hin h1
          go_wp2_with fail
          go_roundw
          case rel => exact ⟨k + 1, g, cap, by omega, by go_num, by rw [HS.out], by rw [HS.out]; exact hown, HT, HN, hb⟩
          case measure => simp [intOf]; omega
    · obtain rfl : k = L.length := by omega
      have HOWN := Lib.hid hown
      clear hown
      go_wp2_with fail
      go_ret
      exact ⟨some ⟨g, 0, none⟩, cap, by rw [hres.out]; rfl, by rw [hres.out]; exact HOWN.out, hb⟩

end Go.Proofs.Ytdiichfdffhdaaa

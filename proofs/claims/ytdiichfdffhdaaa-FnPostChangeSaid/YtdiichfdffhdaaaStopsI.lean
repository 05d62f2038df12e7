/-
  Contracts of the program's functions on timetables: linkStops, StopsValid, StopsAt.
-/
import Derived.Test.YtdiichfdffhdaaaStopsMath
import Derived.Test.YtdiichfdffhdaaaOwn
namespace Go.Proofs.Ytdiichfdffhdaaa
open Go.RowKit

theorem timeValid_any (n : Int) (w : World) :
    Calls Try.prog 76 #[.int .i64 n] w fun e w' => e = .returned (.bool (inB n 0 10000)) ∧ w = w' := by
  by_cases h1 : 0 ≤ n
  · go_enter Try.func76, Try.ntmps76
    go_wp2
    go_ret
    exact ⟨by simp [inB, h1], rfl⟩
  · have h1' : decide (0 ≤ n) = false := by simpa using h1
    go_enter Try.func76, Try.ntmps76
    go_wp2
    go_ret
    exact ⟨by simp [inB, h1'], rfl⟩

/-- A row of nodes behind block b, the last one being L. -/
def Seg (w : World) : Nat → List T3 → Nat → Prop
  | b, [], L => b = L ∧ w.cell? ⟨b, 3, none⟩ = some (.pointer none)
  | b, s :: r, L => ∃ b', b < b' ∧ w.cell? ⟨b, 3, none⟩ = some (.pointer (some ⟨b', 0, none⟩)) ∧ w.cell? ⟨b', 0, none⟩ = some (.int .i64 s.1) ∧ w.cell? ⟨b', 1, none⟩ = some (.int .i64 s.2.1) ∧ w.cell? ⟨b', 2, none⟩ = some (.int .i64 s.2.2) ∧ Seg w b' r L
/-- A linked list of stops. -/
def Chain (w : World) (lo hi : Nat) : Option Addr → List T3 → Prop
  | p, [] => p = none
  | p, s :: r => ∃ b q, p = some ⟨b, 0, none⟩ ∧ lo ≤ b ∧ b < hi ∧ w.cell? ⟨b, 0, none⟩ = some (.int .i64 s.1) ∧ w.cell? ⟨b, 1, none⟩ = some (.int .i64 s.2.1) ∧ w.cell? ⟨b, 2, none⟩ = some (.int .i64 s.2.2) ∧ w.cell? ⟨b, 3, none⟩ = some (.pointer q) ∧ Chain w lo hi q r
theorem Seg.le {w : World} {b : Nat} {l : List T3} {L : Nat} (h : Seg w b l L) : b ≤ L := by
  induction l generalizing b with
  | nil => exact Nat.le_of_eq h.1
  | cons s r ih => obtain ⟨b', hb, _, _, _, _, hr⟩ := h; have := ih hr; omega
theorem Seg.snoc {w w' : World} {b : Nat} {l : List T3} {L N : Nat} {s : T3} (h : Seg w b l L) (hLN : L < N) (hk : ∀ c o, c ≤ L → (c ≠ L ∨ o ≠ 3) → w'.cell? ⟨c, o, none⟩ = w.cell? ⟨c, o, none⟩)
    (hs : w'.cell? ⟨L, 3, none⟩ = some (.pointer (some ⟨N, 0, none⟩))) (h0 : w'.cell? ⟨N, 0, none⟩ = some (.int .i64 s.1)) (h1 : w'.cell? ⟨N, 1, none⟩ = some (.int .i64 s.2.1)) (h2 : w'.cell? ⟨N, 2, none⟩ = some (.int .i64 s.2.2)) (h3 : w'.cell? ⟨N, 3, none⟩ = some (.pointer none)) :
    Seg w' b (l ++ [s]) N := by
  induction l generalizing b with
  | nil =>
    obtain ⟨rfl, _⟩ := h
    exact ⟨N, hLN, hs, h0, h1, h2, rfl, h3⟩
  | cons x r ih =>
    obtain ⟨b', hb, g3, g0, g1, g2, hr⟩ := h
    have hle := Seg.le hr
    refine ⟨b', hb, ?_, ?_, ?_, ?_, ih hr⟩
    · rw [hk b 3 (by omega) (.inl (by omega))]; exact g3
    · rw [hk b' 0 hle (.inr (by omega))]; exact g0
    · rw [hk b' 1 hle (.inr (by omega))]; exact g1
    · rw [hk b' 2 hle (.inr (by omega))]; exact g2
theorem Seg.chain {w : World} {b : Nat} {l : List T3} {L lo hi : Nat} (h : Seg w b l L) (hlo : lo ≤ b) (hhi : L < hi) : ∃ p, w.cell? ⟨b, 3, none⟩ = some (.pointer p) ∧ Chain w lo hi p l := by
  induction l generalizing b with
  | nil => exact ⟨none, h.2, rfl⟩
  | cons x r ih =>
    obtain ⟨b', hb, g3, g0, g1, g2, hr⟩ := h
    have hle := Seg.le hr
    obtain ⟨q, hq, hc⟩ := ih hr (by omega)
    exact ⟨_, g3, b', q, rfl, by omega, by omega, g0, g1, g2, hq, hc⟩
theorem Seg.last {w : World} {b : Nat} {l : List T3} {L : Nat} (h : Seg w b l L) : w.cell? ⟨L, 3, none⟩ = some (.pointer none) := by
  induction l generalizing b with
  | nil => obtain ⟨rfl, h⟩ := h; exact h
  | cons x r ih => obtain ⟨b', _, _, _, _, _, hr⟩ := h; exact ih hr
theorem Chain.keep {w w' : World} {lo hi : Nat} {p : Option Addr} {l : List T3} (h : Chain w lo hi p l) (hk : ∀ b o, lo ≤ b → b < hi → w'.cell? ⟨b, o, none⟩ = w.cell? ⟨b, o, none⟩) : Chain w' lo hi p l := by
  induction l generalizing p with
  | nil => exact h
  | cons s r ih =>
    obtain ⟨b, q, rfl, h1, h2, g0, g1, g2, g3, hr⟩ := h
    exact ⟨b, q, rfl, h1, h2, by rw [hk b 0 h1 h2]; exact g0, by rw [hk b 1 h1 h2]; exact g1, by rw [hk b 2 h1 h2]; exact g2, by rw [hk b 3 h1 h2]; exact g3, ih hr⟩
theorem Chain.below {w w' : World} {lo hi : Nat} {p : Option Addr} {l : List T3} (h : Chain w lo hi p l) (hb : Below w.heap.size w w') (hh : hi ≤ w.heap.size) : Chain w' lo hi p l :=
  h.keep fun b o _ h2 => hb.cell (p := ⟨b, o, none⟩) (by show b < _; omega)

def RetL (n : Int) (l : List T3) (w : World) (e : Ending) (w' : World) : Prop :=
  ∃ p, e = .returned (.pointer p) ∧ Below w.heap.size w w' ∧ ((stopsB n l = true ∧ Chain w' w.heap.size w'.heap.size p l) ∨ (stopsB n l = false ∧ p = none))

def linkRel (w wr : World) (l : List T3) (k L : Nat) : Prop :=
  Seg wr w.heap.size (l.take k) L ∧ L < wr.heap.size ∧ wr.frozen? ⟨L, 3, none⟩ = false
theorem mask_and : ∀ m : Nat, m < 256 → ∀ t : Nat, t < 8 → (bits BinOp.and IntKind.u64 (m : Int) (IntKind.u64.wrap (2 ^ t)) != 0) = Nat.testBit m t := by decide +kernel
theorem mask_or : ∀ m : Nat, m < 256 → ∀ t : Nat, t < 8 → bits BinOp.or IntKind.u64 (m : Int) (IntKind.u64.wrap (2 ^ t)) = ((m ||| 2 ^ t : Nat) : Int) := by decide +kernel
theorem retL_nil {n : Int} {l : List T3} {w w' : World} (h : stopsB n l = false) (hb : Below w.heap.size w w') : RetL n l w (.returned (.pointer none)) w' := ⟨none, rfl, hb, .inr ⟨h, rfl⟩⟩

set_option maxRecDepth 100000 in
set_option maxHeartbeats 4000000 in
theorem linkStops_any (n : Int) (A : Option Addr) (c lo hi : Nat) (l : List T3) (w : World) (hl : l.length ≤ 1048576) (hr : Rd w lo hi A (flat3 l)) (hh : hi ≤ w.heap.size) :
    Calls Try.prog 73 #[.int .i64 n, .slice A l.length c] w (RetL n l w) := by
  cases hs : sizesOk n l
  · have hres := Lib.hid (show stopsB n l = false by simp [stopsB, hs])
    have hsz : ¬ (1 ≤ n ∧ n ≤ 8 ∧ 2 ≤ l.length ∧ l.length ≤ 8) := of_decide_eq_false hs
    clear hs
    go_enter Try.func73, Try.ntmps73
    go_wp2
    all_goals first
      | (exfalso; omega)
      | (go_ret; exact retL_nil hres.out (Below.refl _ _))
  · have HS := Lib.hid hs
    have hsz : 1 ≤ n ∧ n ≤ 8 ∧ 2 ≤ l.length ∧ l.length ≤ 8 := by simpa [sizesOk] using hs
    obtain ⟨hn1, hn2, hl1, hl2⟩ := hsz
    clear hs
    go_enter Try.func73, Try.ntmps73
    go_wp2
    go_loopw [6, 7, 8, 32] (fun p left seen i wr => ∃ (k L : Nat) (last : Int), k ≤ l.length ∧ i = .int .i64 k ∧ left = .int .i64 last ∧ seen = .int .u64 (maskOf (l.take k)) ∧ p = .pointer (some ⟨L, 0, none⟩) ∧ -1 ≤ last ∧ last ≤ 10000 ∧ linkRel w wr l k L ∧ (∀ s ∈ l.take k, 0 ≤ s.1 ∧ s.1 ≤ 7) ∧ Hid (stopsFrom n (-1) [] l = stopsFrom n last (l.take k) (l.drop k)) ∧ Below w.heap.size w wr) (fun _ _ _ i _ => l.length - (intOf i).toNat)
    case atStart => exact ⟨0, w.heap.size, -1, Nat.zero_le _, rfl, rfl, rfl, rfl, by omega, by omega, ⟨by simp [Seg, go_sem], by simp, by simp [go_sem]⟩, by simp, by simp [Hid], below_alloc (Below.refl _ _) _⟩
    case round =>
      obtain ⟨k, L, last, hk, rfl, rfl, rfl, rfl, hl3, hl4, hlr, hall, H, hb⟩ := hrel
      by_cases hlt : k < l.length
      · obtain ⟨b, off, rfl, hlo, hhi, c0, c1, c2⟩ := (hr.below hb hh).at3 k hlt
        obtain ⟨x, hx⟩ : ∃ x, x = l[k] := ⟨_, rfl⟩
        rw [← hx] at c0 c1 c2
        have HX := Lib.hid hx
        clear hx
        have hmb := maskOf_lt (l.take k) (fun s hs => (hall s hs).2)
        have HALL := Lib.hid hall
        clear hall
        by_cases hq : 0 ≤ x.1 ∧ x.1 ≤ n - 1
        · obtain ⟨q1, q2⟩ := hq
          have hand := mask_and (maskOf (l.take k)) hmb x.1.toNat (by omega)
          have hor := mask_or (maskOf (l.take k)) hmb x.1.toNat (by omega)
          rw [maskOf_bit (l.take k) x.1.toNat (fun s hs => (HALL.out s hs).1), Int.toNat_of_nonneg q1] at hand
          have hms := Lib.hid (maskOf_append (l.take k) x)
          generalize hmk : maskOf (l.take k) = mk at *
          have HMK := Lib.hid hmk
          clear hmk
          cases ht : hasTown x.1 (l.take k)
          · rw [ht] at hand
            have HT := Lib.hid ht
            clear ht
            by_cases hok : stopOk n last x = true
            · have HOK := Lib.hid hok
              have hq : 0 ≤ x.1 ∧ x.1 ≤ n - 1 ∧ last + 1 ≤ x.2.1 ∧ x.2.1 ≤ 10000 ∧ x.2.1 ≤ x.2.2 ∧ x.2.2 ≤ 10000 := of_decide_eq_true hok
              clear hok
              obtain ⟨_, _, q3, q4, q5, q6⟩ := hq
              have hres := Lib.hid (stops_go H.out hlt HX.out HOK.out HT.out)
              have h2 : inB x.2.1 0 10000 = true := inB_true (by omega)
              have h3 : inB x.2.2 0 10000 = true := inB_true (by omega)
              obtain ⟨hseg, hLw, hfz⟩ := hlr
              have hL3 := hseg.last
              have hLb := hseg.le
              have HSEG := Lib.hid hseg
              clear hseg
              go_wp2_with (go_at_call 76; refine (timeValid_any _ _).mono ?_; rintro e w' ⟨rfl, rfl⟩)
              clear hand h2 h3
              have hall2 : ∀ s ∈ l.take (k + 1), 0 ≤ s.1 ∧ s.1 ≤ 7 := by
                intro s hs
                rw [List.take_succ_eq_append_getElem hlt, ← HX.out, List.mem_append] at hs
                rcases hs with hs | hs
                · exact HALL.out s hs
                · simp only [List.mem_singleton] at hs; subst hs; omega
              have hmask : mk ||| 2 ^ x.1.toNat = maskOf (l.take (k + 1)) := by
                rw [List.take_succ_eq_append_getElem hlt, ← HX.out, hms.out]
              have hsnoc : l.take (k + 1) = l.take k ++ [x] := by rw [List.take_succ_eq_append_getElem hlt, ← HX.out]
              go_roundw
              case rel =>
                refine ⟨k + 1, wr.heap.size + 1, x.2.2, by omega, by go_num, rfl, by rw [hmask], rfl, by omega, by omega, ⟨?_, ?_, ?_⟩, hall2, hres, ?_⟩
                · rw [hsnoc]
                  refine HSEG.out.snoc (by omega) ?_ ?_ ?_ ?_ ?_ ?_
                  · intro c o hc ho
                    rw [cell_alloc2 _ _ (by show c < _; simp; omega)]
                    exact World.cell?_setCell_other _ _ _ _ (fun e => by injection e with e1 e2; rcases ho with ho | ho <;> omega)
                  · rw [cell_alloc2 _ _ (by show L < _; simp; omega)]
                    exact World.cell?_setCell_same _ _ _ hL3
                  all_goals simp [go_sem]
                · simp
                · simp [go_sem]
                · (repeat (first | exact Below.refl _ _ | assumption | apply below_alloc | apply below_drewN | apply Below.drew | refine Below.setCell ?_ (by simp; try omega) _))
              case measure => simp [intOf]; omega
            · have hok' : stopOk n last x = false := by simpa using hok
              have hres := Lib.hid (stops_stop H.out hlt HX.out (.inl hok'))
              have hn : ¬ (0 ≤ x.1 ∧ x.1 ≤ n - 1 ∧ last + 1 ≤ x.2.1 ∧ x.2.1 ≤ 10000 ∧ x.2.1 ≤ x.2.2 ∧ x.2.2 ≤ 10000) := of_decide_eq_false hok'
              clear hok hok'
              by_cases h2 : inB x.2.1 0 10000 = true
              · have h2' := of_inB h2
                by_cases h3 : inB x.2.2 0 10000 = true
                · have h3' := of_inB h3
                  by_cases h4 : x.2.2 < x.2.1
                  · go_wp2_with (go_at_call 76; refine (timeValid_any _ _).mono ?_; rintro e w' ⟨rfl, rfl⟩)
                    all_goals (go_ret; exact retL_nil hres.out (below_alloc hb _))
                  · have h5 : x.2.1 ≤ last := by omega
                    have h4' : x.2.1 ≤ x.2.2 := by omega
                    clear h4 hn
                    go_wp2_with (go_at_call 76; refine (timeValid_any _ _).mono ?_; rintro e w' ⟨rfl, rfl⟩)
                    all_goals (go_ret; exact retL_nil hres.out (below_alloc hb _))
                · have h3' : inB x.2.2 0 10000 = false := by simpa using h3
                  clear h3
                  go_wp2_with (go_at_call 76; refine (timeValid_any _ _).mono ?_; rintro e w' ⟨rfl, rfl⟩)
                  all_goals (go_ret; exact retL_nil hres.out (below_alloc hb _))
              · have h2' : inB x.2.1 0 10000 = false := by simpa using h2
                clear h2
                go_wp2_with (go_at_call 76; refine (timeValid_any _ _).mono ?_; rintro e w' ⟨rfl, rfl⟩)
                all_goals (go_ret; exact retL_nil hres.out (below_alloc hb _))
          · rw [ht] at hand
            have hres := Lib.hid (stops_stop H.out hlt HX.out (.inr ht))
            clear ht
            go_wp2
            all_goals (go_ret; exact retL_nil hres.out (below_alloc hb _))
        · have hres := Lib.hid (stops_stop H.out hlt HX.out (.inl (decide_eq_false (by omega))))
          generalize hmk : maskOf (l.take k) = mk at *
          clear hmk
          by_cases h0 : x.1 < 0
          · go_wp2
            all_goals (go_ret; exact retL_nil hres.out (below_alloc hb _))
          · have h0' : 0 ≤ x.1 := by omega
            have h1' : n ≤ x.1 := by omega
            clear h0 hq
            go_wp2
            all_goals (go_ret; exact retL_nil hres.out (below_alloc hb _))
      · have hres := Lib.hid (stops_end H.out hlt HS.out)
        obtain ⟨hseg, hLw, hfz⟩ := hlr
        obtain ⟨p, hp, hch⟩ := hseg.chain (Nat.le_refl _) hLw
        have htk : l.take k = l := List.take_of_length_le (by omega)
        rw [htk] at hch
        clear htk
        generalize hmk : maskOf (l.take k) = mk at *
        clear hmk
        go_wp2
        go_ret
        exact ⟨p, rfl, hb, .inl ⟨hres.out, hch⟩⟩

theorem chain_nil {n : Int} {l : List T3} {w : World} {lo hi : Nat} {p : Option Addr} (h : stopsB n l = true) (hc : Chain w lo hi p l) : ∃ b, p = some ⟨b, 0, none⟩ := by
  have hl := (stopsB_n h).2.2.1
  cases l with
  | nil => simp at hl
  | cons s r => obtain ⟨b, _, rfl, _⟩ := hc; exact ⟨b, rfl⟩

set_option maxHeartbeats 1000000 in
theorem iStopsValid (n : Int) (A : Option Addr) (c lo hi : Nat) (l : List T3) (w : World) (hl : l.length ≤ 1048576) (hr : Rd w lo hi A (flat3 l)) (hh : hi ≤ w.heap.size) :
    Calls Try.prog 72 #[.int .i64 n, .slice A l.length c] w fun e w' => e = .returned (.bool (stopsB n l)) ∧ Below w.heap.size w w' := by
  go_enter Try.func72, Try.ntmps72
  go_wp2_with fail
  refine (linkStops_any n _ _ _ _ l _ hl hr hh).mono ?_
  rintro e w1 ⟨p, rfl, hb1, ⟨hv, hc⟩ | ⟨hv, rfl⟩⟩
  · obtain ⟨b, rfl⟩ := chain_nil hv hc
    have HV := Lib.hid hv
    clear hv hc
    go_wp2_with fail
    go_ret
    exact ⟨ret_bool HV.out.symm, hb1⟩
  · have HV := Lib.hid hv
    clear hv
    go_wp2_with fail
    go_ret
    exact ⟨ret_bool HV.out.symm, hb1⟩
set_option maxHeartbeats 1000000 in
theorem iStopsAt (n : Int) (A : Option Addr) (c lo hi : Nat) (l : List T3) (t : Int) (w : World) (hl : l.length ≤ 1048576) (hr : Rd w lo hi A (flat3 l)) (hh : hi ≤ w.heap.size) :
    Calls Try.prog 38 #[.int .i64 n, .slice A l.length c, .int .i64 t] w fun e w' => e = .returned (.int .i64 (stopsAt n l t)) ∧ Below w.heap.size w w' := by
  go_enter Try.func38, Try.ntmps38
  go_wp2_with fail
  refine (linkStops_any n _ _ _ _ l _ hl hr hh).mono ?_
  rintro e w1 ⟨p, rfl, hb1, ⟨hv, hc⟩ | ⟨hv, rfl⟩⟩
  · have HA := Lib.hid (show stopsAt n l t = atL t l by simp [stopsAt, hv])
    have hl8 := (stopsB_n hv).2.2.2
    clear hv
    go_wp2_with fail
    go_loop [7, 8] (fun i s => ∃ (k : Nat) (q : Option Addr), k ≤ l.length ∧ i = .int .i64 k ∧ s = .pointer q ∧ Chain w1 w.heap.size w1.heap.size q (l.drop k) ∧ Hid (atL t l = atFrom t k (l.drop k))) (fun i _ => l.length - (intOf i).toNat)
    case atStart => exact ⟨0, p, Nat.zero_le _, rfl, rfl, by simpa using hc, by simp [Hid, atL]⟩
    case round =>
      obtain ⟨k, q, hk, rfl, rfl, hck, H⟩ := hrel
      clear hc
      by_cases hlt : k < l.length
      · rw [List.drop_eq_getElem_cons hlt] at hck
        obtain ⟨b, q', rfl, hlo, hhi, c0, _, _, c3, hcr⟩ := hck
        obtain ⟨x, hx⟩ : ∃ x, x = l[k].1 := ⟨_, rfl⟩
        rw [← hx] at c0
        by_cases hxt : x = t
        · have hres := Lib.hid (show atL t l = k by rw [H.out, atFrom_here t l k hlt (by rw [← hx]; exact hxt)])
          have hd : (x == t) = true := by simp [hxt]
          clear hx hxt
          go_wp2
          go_ret
          exact ⟨ret_int (by rw [HA.out, hres.out]), hb1⟩
        · have hres := Lib.hid (show atL t l = atFrom t (k + 1) (l.drop (k + 1)) by rw [H.out, atFrom_drop t l k hlt (by rw [← hx]; exact hxt)])
          have hd : (x == t) = false := by simp [hxt]
          clear hx hxt
          go_wp2
          go_round
          case rel => exact ⟨k + 1, q', by omega, by go_num, rfl, hcr, hres⟩
          case measure => simp [intOf]; omega
      · have hres := Lib.hid (show atL t l = -1 by rw [H.out, List.drop_eq_nil_of_le (by omega)]; rfl)
        rw [List.drop_eq_nil_of_le (by omega)] at hck
        obtain rfl : q = none := hck
        go_wp2
        go_ret
        exact ⟨ret_int (by rw [HA.out, hres.out]), hb1⟩
  · have HV := Lib.hid (show stopsAt n l t = -1 by simp [stopsAt, hv])
    clear hv
    go_wp2_with fail
    refine wp_loop_rounds 1 ?_
    rw [rounds_succ]
    go_wp2
    go_ret
    exact ⟨ret_int HV.out.symm, hb1⟩

end Go.Proofs.Ytdiichfdffhdaaa

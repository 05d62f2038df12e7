/-
  Contracts of the drawers of timetables, delays and lateness.
-/
import Derived.Test.YteceohdchknbbaaStopsDraw
import Derived.Test.YteceohdchknbbaaDrawArgs
namespace Go.Proofs.Yteceohdchknbbaa
open Go.RowKit

theorem infoIntD : (Try.prog.info? 3).map (fun i => (i.zero, i.size, i.bytes)) = some (some (.int .i64 0), 1, 8) := by kernel_rfl
/-- A number of towns and a timetable are drawn. -/
def DrewNS (E : TypeId) (R p : Nat) (f : Nat → Int → Int) (w : World) (e : Ending) (w' : World) : Prop :=
  ∃ (n : Int) (A : Option Addr) (c p' : Nat) (l : List T3), e = .returned (.tuple #[.int .i64 n, .slice A l.length c]) ∧ 2 ≤ n ∧ n ≤ 6 ∧ l.length ≤ 100 ∧ w'.ownsRow w.heap.size E 3 (.slice A l.length c) l.length (flat3 l) ∧ p ≤ p' ∧ p' ≤ p + 300 ∧ IsRdr w' R p' f ∧ w.grownBy w' (some R)

set_option maxRecDepth 100000 in
set_option maxHeartbeats 4000000 in
theorem one_any (R p : Nat) (f : Nat → Int → Int) (w : World) (h : IsRdr w R p f) (hp : p ≤ 800000) :
    Calls Try.prog 57 #[.pointer (some ⟨R, 0, none⟩)] w (DrewNS 31 R p f w) := by
  have b1 := drawF_bd (n := 5) h (p := p) (by omega) (by omega)
  have b2 := drawF_bd (n := 700) h (p := p + 1) (by omega) (by omega)
  go_enter Try.func57, Try.ntmps57
  go_wp2_with fail
  refine (pick_any 5 R p f _ h (by omega) (by omega) (by omega)).mono ?_
  rintro e w1 ⟨rfl, hs1⟩
  have hr1 := hs1.rdr h
  have hg1 := hs1.grown
  have hz1 := hg1.size
  generalize f p 5 = v1 at *
  go_wp2_with fail
  refine (pick_any 700 R (p + 1) f _ hr1 (by omega) (by omega) (by omega)).mono ?_
  rintro e w2 ⟨rfl, hs2⟩
  have hr2 := hs2.rdr hr1
  have hg2 := hg1.trans hs2.grown
  have hz2 := hg2.size
  generalize f (p + 1) 700 = v2 at *
  clear hs1 hs2 hr1 h
  go_wp2_with fail
  refine (stops_any R (p + 1 + 1) f (2 + v1) v2 _ hr2 (by omega) (by omega) (by omega) (by omega) (by omega)).mono ?_
  rintro e w3 ⟨A, c, p', l, rfl, hl, ho, hp1, hp2, hr3, hg3⟩
  go_wp2_with fail
  go_ret2
  exact ⟨2 + v1, A, c, p', l, rfl, by omega, by omega, hl, own_mono ho hz2, by omega, by omega, hr3, hg2.trans hg3⟩

set_option maxRecDepth 100000 in
set_option maxHeartbeats 4000000 in
theorem delay_any (R p : Nat) (f : Nat → Int → Int) (w : World) (h : IsRdr w R p f) (hp : p ≤ 900000) :
    Calls Try.prog 58 #[.pointer (some ⟨R, 0, none⟩)] w (DrewI R p f (-1) 301 w) := by
  have b1 := drawF_bd (n := 30) h (p := p) (by omega) (by omega)
  have hR := h.lt
  go_enter Try.func58, Try.ntmps58
  go_wp2_with fail
  refine (pick_any 30 R p f _ h (by omega) (by omega) (by omega)).mono ?_
  rintro e w1 ⟨rfl, hs1⟩
  have hr1 := hs1.rdr h
  have hg1 := hs1.grown
  have hz1 := hg1.size
  generalize f p 30 = v1 at *
  by_cases hv : v1 = 0
  · have d : (v1 == 0) = true := by simp [hv]
    have b2 := drawF_bd (n := 3) hr1 (p := p + 1) (by omega) (by omega)
    clear hv
    go_wp2_with fail
    refine (pick_any 3 R (p + 1) f _ (hr1.alloc _) (by omega) (by omega) (by omega)).mono ?_
    rintro e w2 ⟨rfl, hs2⟩
    have hr2 := hs2.rdr (hr1.alloc _)
    have hg2 := (gr_alloc hg1 _).trans hs2.grown
    obtain ⟨j, hj⟩ := Int.eq_ofNat_of_zero_le b2.1
    have hj3 : j < 3 := by omega
    rw [hj]
    have hlc := (hs2.cell (b := w1.heap.size) (o := j) (by omega)).trans (lit_cell w1 [-1, 300, 301] 3 j hj3)
    have hval : -1 ≤ [(-1 : Int), 300, 301][j] ∧ [(-1 : Int), 300, 301][j] ≤ 301 := by
      have : j = 0 ∨ j = 1 ∨ j = 2 := by omega
      rcases this with rfl | rfl | rfl <;> simp
    generalize [(-1 : Int), 300, 301][j] = val at hlc hval
    have hj0 : (0 : Int) ≤ (j : Int) := by omega
    have hj1 : (j : Int) < 3 := by omega
    clear hj b2 hs2
    go_wp2_with fail
    go_ret
    exact ⟨val, p + 1 + 1, rfl, hval.1, hval.2, by omega, by omega, hr2, hg2⟩
  · have d : (v1 == 0) = false := by simp [hv]
    have b2 := drawF_bd (n := 3) hr1 (p := p + 1) (by omega) (by omega)
    have b3 := drawF_bd (n := 20) hr1 (p := p + 1 + 1) (by omega) (by omega)
    clear hv
    go_wp2_with fail
    refine (pick_any 3 R (p + 1) f _ hr1 (by omega) (by omega) (by omega)).mono ?_
    rintro e w2 ⟨rfl, hs2⟩
    have hr2 := hs2.rdr hr1
    have hg2 := hg1.trans hs2.grown
    go_wp2_with fail
    refine (pick_any 20 R (p + 1 + 1) f _ hr2 (by omega) (by omega) (by omega)).mono ?_
    rintro e w3 ⟨rfl, hs3⟩
    have hr3 := hs3.rdr hr2
    have hg3 := hg2.trans hs3.grown
    have hab := mul_bd (a := f (p + 1) 3) (b := f (p + 1 + 1) 20) (A := 2) (B := 19) (by omega) (by omega)
    generalize f (p + 1) 3 = va at *
    generalize f (p + 1 + 1) 20 = vb at *
    obtain ⟨vab, hvab⟩ : ∃ x, x = va * vb := ⟨_, rfl⟩
    rw [← hvab] at hab
    have k1 : wrap64 (va * vb) = vab := by rw [← hvab]; exact IntWalk.wrap64_in vab (by omega)
    clear hvab
    go_wp2_with fail
    go_ret
    exact ⟨wrap64 (va * vb), p + 1 + 1 + 1, rfl, by rw [k1]; omega, by rw [k1]; omega, by omega, by omega, hr3, hg3⟩

/-- What lateness is asked about is drawn. -/
def DrewLate (E : TypeId) (R p : Nat) (f : Nat → Int → Int) (w : World) (e : Ending) (w' : World) : Prop :=
  ∃ (n : Int) (A : Option Addr) (c : Nat) (l : List T3) (least start : Int) (B : Option Addr) (d : Nat) (ds : List Int) (p' : Nat), e = .returned (.tuple #[.int .i64 n, .slice A l.length c, .int .i64 least, .int .i64 start, .slice B ds.length d]) ∧ l.length ≤ 100 ∧ ds.length ≤ 100 ∧
    w'.ownsRow w.heap.size E 3 (.slice A l.length c) l.length (flat3 l) ∧ Rd w' w.heap.size w'.heap.size B (ints ds) ∧ p ≤ p' ∧ p' ≤ p + 11000 ∧ IsRdr w' R p' f ∧ w.grownBy w' (some R)
theorem Rd.draw {w w' : World} {lo hi R : Nat} {A : Option Addr} {xs : List Value} (h : Rd w lo hi A xs) (hh : hi ≤ w.heap.size) (hg : w.grownBy w' (some R)) (hR : R < lo) : Rd w' lo hi A xs :=
  h.keep fun p h1 h2 => World.cell?_of_block (hg.block p.block (by omega) (fun e => by injection e with e; omega))

theorem ints_drop (l : List Int) (k : Nat) : ints (l.drop k) = (ints l).drop (k * 1) := by simp [ints, List.map_drop]
theorem own_grown2 {w w' : World} {base size n g m c : Nat} {e : TypeId} {v : Value} {xs : List Value} (h : w.ownsRow base e size v n xs) (hg : w.grownBy w' (Value.slice (some ⟨g, 0, none⟩) m c).ownBlock) (hlt : ∀ k, v.ownBlock = some k → k ≠ g) : w'.ownsRow base e size v n xs :=
  h.kept hg (by
    cases hv : v.ownBlock with
    | none => exact .inl rfl
    | some k => refine .inr (fun e => hlt k hv ?_); simp only [Value.ownBlock, Option.some.injEq] at e; exact e)

set_option maxRecDepth 100000 in
set_option maxHeartbeats 8000000 in
theorem late_any (R p : Nat) (f : Nat → Int → Int) (w : World) (h : IsRdr w R p f) (hp : p ≤ 700000) :
    Calls Try.prog 67 #[.pointer (some ⟨R, 0, none⟩)] w (DrewLate 31 R p f w) := by
  obtain ⟨i0, hi0, hz0, hz1, hz2⟩ := info_parts infoIntD
  have hRw := h.lt
  go_enter Try.func67, Try.ntmps67
  go_wp2_with fail
  refine (one_any R p f _ h (by omega)).mono ?_
  rintro e w1 ⟨n, A, c, p1, l, rfl, hn1, hn2, hl, ho1, hp1, hp2, hr1, hg1⟩
  have hz1' := hg1.size
  have ho1_lt : ∀ k, (Value.slice A l.length c).ownBlock = some k → k < w1.heap.size := fun k hk => (ho1.lt k hk).2
  go_wp2_with fail
  go_loopw [9, 10] (fun v i wr => ∃ (j g cap pp : Nat) (L : List Int), (j = 0 ∨ j + 1 ≤ l.length) ∧ i = .int .i64 ((j : Int) + 1) ∧ L.length = j ∧ v = .slice (some ⟨g, 0, none⟩) L.length cap ∧ p1 ≤ pp ∧ pp ≤ p1 + 100 * j ∧ wr.ownsRow w1.heap.size 3 1 (.slice (some ⟨g, 0, none⟩) L.length cap) L.length (ints L) ∧ wr.ownsRow w.heap.size 31 3 (.slice A l.length c) l.length (flat3 l) ∧ IsRdr wr R pp f ∧ w.grownBy wr (some R) ∧ w1.heap.size ≤ wr.heap.size) (fun _ i _ => 200 - (intOf i).toNat)
  case atStart => exact ⟨0, _, _, p1, [], .inl rfl, by go_num, rfl, rfl, by omega, by omega, own_lit0 w1 _ _ 1 (Nat.le_refl _), own_alloc ho1 _, hr1.alloc _, gr_alloc hg1 _, by simp⟩
  case round =>
    obtain ⟨j, g, cap, pp, L, hj, rfl, hLj, rfl, hpp1, hpp2, hoL, hoA, hrd, hgr, hzz⟩ := hrel
    clear hr1 hg1 ho1
    have hLle : L.length ≤ 100 := by omega
    have hLj1 : L.length ≤ j := by omega
    have hLj2 : j ≤ L.length := by omega
    have HLJ := Lib.hid hLj
    clear hLj
    by_cases hlt : (j : Int) + 1 < (l.length : Int)
    · go_wp2_with fail
      refine (delay_any R pp f _ hrd (by omega)).mono ?_
      rintro e w2 ⟨x, p2, rfl, hx1, hx2, hp3, hp4, hr2, hg2⟩
      have hoL2 := own_draw hoL hg2 (by omega)
      have hoA2 := own_draw hoA hg2 hRw
      have hgr2 := hgr.trans hg2
      have hz2' := hg2.size
      clear hoL hoA hrd hgr
      go_wp2_with (at_builtin; go_must (refine wpList_append1 rfl _ _ 26 rfl w1.heap.size 3 i0 _ Try.underlying26 hi0 hz0 hz1 hz2 rfl (.slice (some ⟨g, 0, none⟩) L.length cap) L rfl (hoL2.alloc _) w2.heap.size _ (nb1 _ _) rfl (by omega) (by simp; omega) ?_); intro g2 cap2 w3 hoL3 hg3 hor3 hlt3)
      have hgb : w1.heap.size ≤ g := (own_lt hoL2).1
      have hr3 := (hr2.alloc (.cells #[.int .i64 x] 3)).grown hg3 (by omega)
      have hgr3 := draw_grown (gr_alloc hgr2 _) hg3 (by omega)
      have hoA3 := own_grown2 (own_alloc hoA2 _) hg3 (by
        intro k hk
        have := (ho1_lt k hk)
        omega)
      have hz3 := hg3.size
      have hzz3 : w1.heap.size ≤ w3.heap.size := by simp at hz3; omega
      clear hg3 hor3
      go_roundw
      case rel => exact ⟨j + 1, g2, cap2, p2, L ++ [x], .inr (by omega), by go_num, by have := HLJ.out; simp [this], by simp, by omega, by omega, by simpa using hoL3, hoA3, hr3, hgr3, hzz3⟩
      case measure => simp [intOf]; omega
    · have hgb : w1.heap.size ≤ g := (own_lt hoL).1
      have hcp := own_cap hoL
      -- WAYS
      have hzR := hgr.size
      have RDL := (Rd.of_own hoL).more hz1' (Nat.le_refl _)
      by_cases hL0 : 0 < L.length
      · have dL : decide (0 < L.length) = true := decide_eq_true hL0
        have bv := drawF_bd (n := 24) hrd (p := pp) (by omega) (by omega)
        go_wp2_with fail
        refine (pick_any 24 R pp f _ hrd (by omega) (by omega) (by omega)).mono ?_
        rintro e w5 ⟨rfl, hs5⟩
        have hrP := hs5.rdr hrd
        have hgP := hgr.trans hs5.grown
        have hoP := hs5.own hoA hRw
        have RD5 := RDL.draw (Nat.le_refl _) hs5.grown hRw
        have hz5 := hs5.grown.size
        have RD5 := RD5.more (Nat.le_refl _) hz5
        obtain ⟨P, hP⟩ : ∃ P, P = pp + 1 := ⟨_, rfl⟩
        rw [← hP] at hrP
        clear hs5 hrd hgr hoA hoL RDL
        generalize f pp 24 = v at *
        by_cases hv : v = 0
        · have dv : (v == 0) = true := by simp [hv]
          clear hv
          have RDc := RD5.cut (k := 1) (n := L.length) (cap := cap) (size := 1) (by rw [ints_length]; omega) (by omega) hcp
          by_cases hc1 : cap = 1
          · clear RDc RD5
            obtain ⟨q, rfl⟩ : ∃ q, L = [q] := List.length_eq_one_iff.1 (by omega)
            subst hc1
            simp only [List.length_cons, List.length_nil, Nat.zero_add]
            go_wp2_with fail
            have RDP : Rd w5 w.heap.size w5.heap.size (some ⟨g, 0, none⟩) (ints []) := Rd.nil
            have hDl : ([] : List Int).length ≤ 100 := by simp
            refine (delay_any R P f _ hrP (by omega)).mono ?_
            rintro e wa ⟨x, pa, rfl, _, _, hpa1, hpa2, hra, hga⟩
            have hoa := own_draw hoP hga hRw
            have hza := hga.size
            have RDa := RDP.draw (Nat.le_refl _) hga hRw
            clear hoP RDP hrP
            go_wp2_with fail
            refine (delay_any R pa f _ hra (by omega)).mono ?_
            rintro e wb ⟨y, pb, rfl, _, _, hpb1, hpb2, hrb, hgb'⟩
            have hob := own_draw hoa hgb' hRw
            have RDb := (RDa.more (Nat.le_refl _) hza).draw (Nat.le_refl _) hgb' hRw
            have hzb := hgb'.size
            go_wp2_with fail
            refine bodyPost_ret (v := .tuple #[.int .i64 n, .slice A l.length c, .int .i64 (Int.tdiv x 4), .int .i64 y, .slice (some ⟨g, 0, none⟩) 0 0]) (by simp [results, Try.results67, go_sem]) rfl ?_
            exact ⟨n, A, c, l, _, y, _, _, [], pb, rfl, hl, hDl, hob, RDb.more (Nat.le_refl _) hzb, by omega, by omega, hrb, (hgP.trans hga).trans hgb'⟩
          · have hce : (cap = 1) = False := by simp [hc1]
            rw [if_neg hc1] at RDc
            rw [← ints_drop] at RDc
            simp only [Option.map_some, Addr.add_lit, Nat.zero_add, Nat.mul_one] at RDc
            have RDP : Rd w5 w.heap.size w5.heap.size (some ⟨g, 1, none⟩) (ints (L.drop 1)) := RDc
            obtain ⟨B, hB⟩ : ∃ B, B = (some ⟨g, 1, none⟩ : Option Addr) := ⟨_, rfl⟩
            obtain ⟨d, hd⟩ : ∃ d, d = cap - 1 := ⟨_, rfl⟩
            obtain ⟨D, hD⟩ : ∃ D, D = L.drop 1 := ⟨_, rfl⟩
            have hDl : D.length ≤ 100 := by rw [hD]; simp; omega
            have hDe : L.length - 1 = D.length := by rw [hD]; simp
            rw [← hB, ← hD] at RDP
            clear RDc RD5 hc1
            have HD := Lib.hid hDe
            have HB := Lib.hid hB
            have Hd := Lib.hid hd
            clear hD hDe hB hd
            go_wp2_with fail
            rw [HD.out, ← HB.out, ← Hd.out]
            clear HB HD Hd hce
            refine (delay_any R P f _ hrP (by omega)).mono ?_
            rintro e wa ⟨x, pa, rfl, _, _, hpa1, hpa2, hra, hga⟩
            have hoa := own_draw hoP hga hRw
            have hza := hga.size
            have RDa := RDP.draw (Nat.le_refl _) hga hRw
            clear hoP RDP hrP
            go_wp2_with fail
            refine (delay_any R pa f _ hra (by omega)).mono ?_
            rintro e wb ⟨y, pb, rfl, _, _, hpb1, hpb2, hrb, hgb'⟩
            have hob := own_draw hoa hgb' hRw
            have RDb := (RDa.more (Nat.le_refl _) hza).draw (Nat.le_refl _) hgb' hRw
            have hzb := hgb'.size
            go_wp2_with fail
            refine bodyPost_ret (v := .tuple #[.int .i64 n, .slice A l.length c, .int .i64 (Int.tdiv x 4), .int .i64 y, .slice B D.length d]) (by simp [results, Try.results67, go_sem]) rfl ?_
            exact ⟨n, A, c, l, _, y, B, d, D, pb, rfl, hl, hDl, hob, RDb.more (Nat.le_refl _) hzb, by omega, by omega, hrb, (hgP.trans hga).trans hgb'⟩
        · have dv : (v == 0) = false := by simp [hv]
          clear hv
          have hDl : L.length ≤ 100 := by omega
          obtain ⟨D, rfl⟩ : ∃ D, D = L := ⟨_, rfl⟩
          have RDP := RD5
          clear RD5
          go_wp2_with fail
          refine (delay_any R P f _ hrP (by omega)).mono ?_
          rintro e wa ⟨x, pa, rfl, _, _, hpa1, hpa2, hra, hga⟩
          have hoa := own_draw hoP hga hRw
          have hza := hga.size
          have RDa := RDP.draw (Nat.le_refl _) hga hRw
          clear hoP RDP hrP
          go_wp2_with fail
          refine (delay_any R pa f _ hra (by omega)).mono ?_
          rintro e wb ⟨y, pb, rfl, _, _, hpb1, hpb2, hrb, hgb'⟩
          have hob := own_draw hoa hgb' hRw
          have RDb := (RDa.more (Nat.le_refl _) hza).draw (Nat.le_refl _) hgb' hRw
          have hzb := hgb'.size
          go_wp2_with fail
          refine bodyPost_ret (v := .tuple #[.int .i64 n, .slice A l.length c, .int .i64 (Int.tdiv x 4), .int .i64 y, .slice (some ⟨g, 0, none⟩) D.length cap]) (by simp [results, Try.results67, go_sem]) rfl ?_
          exact ⟨n, A, c, l, _, y, _, _, D, pb, rfl, hl, hDl, hob, RDb.more (Nat.le_refl _) hzb, by omega, by omega, hrb, (hgP.trans hga).trans hgb'⟩
      · have dL : decide (0 < L.length) = false := decide_eq_false hL0
        have hDl : L.length ≤ 100 := by omega
        obtain ⟨D, rfl⟩ : ∃ D, D = L := ⟨_, rfl⟩
        obtain ⟨P, rfl⟩ : ∃ P, P = pp := ⟨_, rfl⟩
        have RDP := RDL
        have hrP := hrd
        have hgP := hgr
        have hoP := hoA
        clear RDL hrd hgr hoA hoL
        go_wp2_with fail
        refine (delay_any R P f _ hrP (by omega)).mono ?_
        rintro e wa ⟨x, pa, rfl, _, _, hpa1, hpa2, hra, hga⟩
        have hoa := own_draw hoP hga hRw
        have hza := hga.size
        have RDa := RDP.draw (Nat.le_refl _) hga hRw
        clear hoP RDP hrP
        go_wp2_with fail
        refine (delay_any R pa f _ hra (by omega)).mono ?_
        rintro e wb ⟨y, pb, rfl, _, _, hpb1, hpb2, hrb, hgb'⟩
        have hob := own_draw hoa hgb' hRw
        have RDb := (RDa.more (Nat.le_refl _) hza).draw (Nat.le_refl _) hgb' hRw
        have hzb := hgb'.size
        go_wp2_with fail
        refine bodyPost_ret (v := .tuple #[.int .i64 n, .slice A l.length c, .int .i64 (Int.tdiv x 4), .int .i64 y, .slice (some ⟨g, 0, none⟩) D.length cap]) (by simp [results, Try.results67, go_sem]) rfl ?_
        exact ⟨n, A, c, l, _, y, _, _, D, pb, rfl, hl, hDl, hob, RDb.more (Nat.le_refl _) hzb, by omega, by omega, hrb, (hgP.trans hga).trans hgb'⟩

end Go.Proofs.Yteceohdchknbbaa

/-
  The drawer of nets.
-/
import Derived.Test.YtdiichfdffhdaaaStopsDraw
import Derived.Test.YtdiichfdffhdaaaDrawArgs
import Derived.Test.YtdiichfdffhdaaaNetApp
import Derived.Test.YtdiichfdffhdaaaNetBig
import Derived.Test.YtdiichfdffhdaaaStopsS
namespace Go.Proofs.Ytdiichfdffhdaaa
open Go.RowKit

theorem infoHdrD : (Try.prog.info? 31).map (fun i => (i.zero, i.size, i.bytes)) = some (some (.slice none 0 0), 1, 24) := by kernel_rfl
/-- A net is drawn, with the number of its towns. -/
def DrewNt (R p : Nat) (f : Nat → Int → Int) (w : World) (e : Ending) (w' : World) : Prop :=
  ∃ (n : Int) (A : Option Addr) (c p' : Nat) (net : Net), e = .returned (.tuple #[.int .i64 n, .slice A net.length c]) ∧ 2 ≤ n ∧ n ≤ 6 ∧ net.length ≤ 6 ∧ (∀ k (hk : k < net.length), net[k].length ≤ 100) ∧ RdN w' w.heap.size w'.heap.size A net ∧ p ≤ p' ∧ p' ≤ p + 2000 ∧ IsRdr w' R p' f ∧ w.grownBy w' (some R)
theorem rows_snocD {net : Net} {l : List T3} (h8 : ∀ k (hk : k < net.length), net[k].length ≤ 100) (hl : l.length ≤ 100) : ∀ k (hk : k < (net ++ [l]).length), (net ++ [l])[k].length ≤ 100 := by
  intro k hk
  rw [List.getElem_append]
  split
  · next h => exact h8 k h
  · simpa using hl
theorem OwnNil (w : World) (base : Nat) (E EH : TypeId) (hb : base ≤ w.heap.size) : OwnN (w.alloc (.cells #[] EH)) base E EH (.slice (some ⟨w.heap.size, 0, none⟩) ([] : Net).length 0) [] :=
  ⟨[], own_lit0 w base EH 1 hb, trivial, by rw [blks_cons]; simp only [blks, List.filterMap_nil, List.append_nil]; exact blks_one_nodup _⟩
theorem OwnN.step {w w' : World} {base R : Nat} {E EH : TypeId} {v : Value} {net : Net} (h : OwnN w base E EH v net) (hg : w.grownBy w' (some R)) (hR : R < base) : OwnN w' base E EH v net :=
  (h.bound.apartRow hg (fun b e => .inl (by injection e with e; omega))).own
theorem gr_own {w w1 w2 : World} {R : Nat} {A : Option Addr} {m c : Nat} (h : w.grownBy w1 (some R)) (hg : w1.grownBy w2 (Value.slice A m c).ownBlock) (hge : ∀ b, (Value.slice A m c).ownBlock = some b → w.heap.size ≤ b) : w.grownBy w2 (some R) := by
  refine ⟨hg.os.trans h.os, hg.tape.trans h.tape, hg.output.trans h.output, Nat.le_trans h.size hg.size, fun k hk hn => ?_⟩
  rw [hg.block k (Nat.lt_of_lt_of_le hk h.size) (fun e => by have := hge k e.symm; omega), h.block k hk hn]
theorem rdr_own {w w' : World} {R p : Nat} {f : Nat → Int → Int} {A : Option Addr} {m c : Nat} (h : IsRdr w R p f) (hg : w.grownBy w' (Value.slice A m c).ownBlock) (hge : ∀ b, (Value.slice A m c).ownBlock = some b → R < b) : IsRdr w' R p f :=
  h.keep (fun b hb => hg.block b (Nat.lt_of_le_of_lt hb h.lt) (fun e => by have := hge b e.symm; omega)) hg.size

theorem gr_below {w w1 w2 : World} {R : Nat} (h : w.grownBy w1 (some R)) (hb : Below w1.heap.size w1 w2) : w.grownBy w2 (some R) := h.trans (grown_of_below hb _)
theorem own_someD {w : World} {base n c : Nat} {e : TypeId} {A : Option Addr} {xs : List Value} (h : w.ownsRow base e 1 (.slice A (n + 1) c) (n + 1) xs) : ∃ g, A = some ⟨g, 0, none⟩ := by
  rcases h.2 with ⟨h1, h2⟩ | ⟨g, cap, cur, h1, _⟩
  · omega
  · injection h1 with h1; exact ⟨g, h1⟩
/-- Headers of rows that can be read. -/
def HdrRd (w : World) (lo hi : Nat) (hs : List Value) (G : Net) : Prop :=
  hs.length = G.length ∧ ∀ j (hj : j < G.length), ∃ B c, hs[j]? = some (.slice B G[j].length c) ∧ G[j].length ≤ c ∧ Rd w lo hi B (flat3 G[j])
theorem HdrRd.snoc {w : World} {lo hi : Nat} {hs : List Value} {G : Net} {B : Option Addr} {c : Nat} {l : List T3} (h : HdrRd w lo hi hs G) (hc : l.length ≤ c) (hr : Rd w lo hi B (flat3 l)) : HdrRd w lo hi (hs ++ [.slice B l.length c]) (G ++ [l]) := by
  refine ⟨by simp [h.1], fun j hj => ?_⟩
  rcases Nat.lt_or_ge j G.length with h' | h'
  · obtain ⟨B', c', h1, h2, h3⟩ := h.2 j h'
    refine ⟨B', c', ?_, by simpa [List.getElem_append_left h'] using h2, by simpa [List.getElem_append_left h'] using h3⟩
    rw [List.getElem?_append_left (by rw [h.1]; exact h')]
    simpa [List.getElem_append_left h'] using h1
  · have e : j = G.length := by simp at hj; omega
    subst e
    refine ⟨B, c, ?_, by simpa using hc, by simpa using hr⟩
    rw [List.getElem?_append_right (by rw [h.1]; exact Nat.le_refl _), h.1]; simp
theorem HdrRd.rdN {w w' : World} {lo hi base : Nat} {EH : TypeId} {hs : List Value} {G : Net} {A : Option Addr} {c : Nat} (h : HdrRd w lo hi hs G) (ho : w'.ownsRow base EH 1 (.slice A G.length c) G.length hs) (hb : Below w.heap.size w w') (hh : hi ≤ w.heap.size) (hl : lo ≤ base) : RdN w' lo w'.heap.size A G := by
  intro k hk
  obtain ⟨B, cc, e, h1, h2⟩ := h.2 k hk
  obtain ⟨b, off, e1, g1, g2, g3⟩ := (Rd.of_own ho).ge k _ e
  exact ⟨b, off, B, cc, e1, by omega, g2, g3, h1, (h2.below hb hh).more (Nat.le_refl _) (Nat.le_trans hh hb.size)⟩

set_option maxRecDepth 100000 in
set_option maxHeartbeats 4000000 in
theorem net_any (R p : Nat) (f : Nat → Int → Int) (w : World) (h : IsRdr w R p f) (hp : p ≤ 800000) :
    Calls Try.prog 66 #[.pointer (some ⟨R, 0, none⟩)] w (DrewNt R p f w) := by
  obtain ⟨i1, hi1, hy0, hy1, hy2⟩ := info_parts infoHdrD
  have hR := h.lt
  have b1 := drawF_bd (n := 5) h (p := p) (by omega) (by omega)
  go_enter Try.func66, Try.ntmps66
  go_wp2_with fail
  refine (pick_any 5 R p f _ h (by omega) (by omega) (by omega)).mono ?_
  rintro e w1 ⟨rfl, hs1⟩
  have hr1 := hs1.rdr h
  have hg1 := hs1.grown
  have hz1 := hg1.size
  generalize f p 5 = v1 at *
  obtain ⟨b10, b11⟩ := b1
  have hN0 := OwnNil w1 w.heap.size 30 31 hz1
  have hrA := hr1.alloc (.cells #[] 31)
  have hgA := gr_alloc hg1 (.cells #[] 31)
  have b2 := drawF_bd (n := 6) hrA (p := p + 1) (by omega) (by omega)
  clear hs1 h
  go_wp2_with fail
  refine (pick_any 6 R (p + 1) f _ hrA (by omega) (by omega) (by omega)).mono ?_
  rintro e w2 ⟨rfl, hs2⟩
  have hr2 := hs2.rdr hrA
  have hN2 := hN0.step hs2.grown hR
  have hg2 := hgA.trans hs2.grown
  have hz2 := hg2.size
  generalize f (p + 1) 6 = v2 at *
  obtain ⟨b20, b21⟩ := b2
  clear hs2 hrA hgA hr1 hg1 hN0
  have wn : IntKind.i64.wrap (2 + v1) = 2 + v1 := IntWalk.i64_in _ (by omega)
  go_wp2_with fail
  clear wn
  go_loopw [7, 5] (fun i v wr => ∃ (k m pk : Nat) (A' : Option Addr) (c' : Nat) (T : Net), (k : Int) ≤ v2 ∧ i = .int .i64 k ∧ v = .slice A' m c' ∧ Hid (T.length = m) ∧ Hid (m = k) ∧ OwnN wr w.heap.size 30 31 (.slice A' T.length c') T ∧ Hid (∀ j (hj : j < T.length), T[j].length ≤ 100) ∧ p ≤ pk ∧ pk ≤ p + 2 + 250 * k ∧ IsRdr wr R pk f ∧ w.grownBy wr (some R)) (fun i _ _ => (v2 - intOf i).toNat)
  case atStart => exact ⟨0, 0, p + 1 + 1, _, _, [], by omega, rfl, rfl, rfl, rfl, hN2, fun j hj => absurd hj (by simp), by omega, by omega, hr2, hg2⟩
  case round =>
    obtain ⟨k, m, pk, A', c', T, hk, rfl, rfl, HM, HK, hN, HT, hpk1, hpk2, hrk, hgk⟩ := hrel
    have hbs := hgk.size
    clear hN2 hr2 hg2 hz2 hz1
    by_cases hlt : (k : Int) < v2
    · have b3 := drawF_bd (n := 150) hrk (p := pk) (by omega) (by omega)
      go_wp2_with fail
      refine (pick_any 150 R pk f _ hrk (by omega) (by omega) (by omega)).mono ?_
      rintro e w3 ⟨rfl, hs3⟩
      have hr3 := hs3.rdr hrk
      have hN3 := hN.bound.apartRow hs3.grown (fun b e => .inl (by injection e with e; omega))
      have hg3 := hgk.trans hs3.grown
      have hz3 := hg3.size
      have hz33 := Nat.le_of_eq hs3.size.symm
      generalize f pk 150 = v3 at *
      obtain ⟨b30, b31⟩ := b3
      clear hs3 hrk hgk hN
      go_wp2_with fail
      refine (stops_any R (pk + 1) f (2 + v1) v3 _ hr3 (by omega) (by omega) (by omega) (by omega) (by omega)).mono ?_
      rintro e w4 ⟨P2, d2, p4, row, rfl, hlr, hown4, hp41, hp42, hr4, hg4⟩
      have hN4 := hN3.apartRow hg4 (fun b e => .inl (by injection e with e; omega))
      have hg04 := hg3.trans hg4
      have hz4 := hg04.size
      have hm := HM.out
      subst hm
      have htl : T.length ≤ 2097152 := by have := HK.out; omega
      have HTL := Lib.hid (show (T ++ [row]).length = k + 1 by have := HK.out; simp; omega)
      have HT2 := Lib.hid (rows_snocD HT.out hlr)
      have hN5 := hN4.below (below_alloc (Below.refl w4.heap.size w4) (.cells #[.slice P2 row.length d2] 31))
      have hown5 := own_below hown4 (below_alloc (Below.refl w4.heap.size w4) (.cells #[.slice P2 row.length d2] 31))
      have hr5 := hr4.alloc (.cells #[.slice P2 row.length d2] 31)
      have hg5 := gr_alloc hg04 (.cells #[.slice P2 row.length d2] 31)
      have hz5 := hg5.size
      clear hN3 hN4 hown4 hr3 hg3 hg4 hr4 hg04
      go_wp2_with (at_builtin; go_must (refine wpList_snocN rfl _ _ 23 rfl w.heap.size wr.heap.size w3.heap.size 30 31 i1 _ Try.underlying23 hi1 hy0 hy1 hy2 rfl A' c' T rfl hN5 P2 d2 row hown5 w4.heap.size (Rd.lit w4 _ _) rfl htl hz33 hz3 hz5 ?_); intro A6 c6 w6 hN6 hg6 hge6; have hgr6 := gr_own hg5 hg6 hge6; have hr6 := rdr_own hr5 hg6 (fun b e => Nat.lt_of_lt_of_le hR (hge6 b e)))
      go_roundw
      case rel => exact ⟨k + 1, k + 1, p4, A6, c6, T ++ [row], by omega, by go_num, by have := HTL.out; simp at this; simp; omega, HTL.out, rfl, hN6, HT2.out, by omega, by omega, hr6, hgr6⟩
      case measure => simp [intOf]; omega
    · have b7 := drawF_bd (n := 30) hrk (p := pk) (by omega) (by omega)
      have hm := HM.out
      subst hm
      go_wp2_with fail
      refine (pick_any 30 R pk f _ hrk (by omega) (by omega) (by omega)).mono ?_
      rintro e w7 ⟨rfl, hs7⟩
      have hrV := hs7.rdr hrk
      have hNV := hN.step hs7.grown hR
      have hgV := hgk.trans hs7.grown
      generalize f pk 30 = v7 at *
      obtain ⟨b70, b71⟩ := b7
      clear hs7 hrk hN hgk
      have HK5 := Lib.hid (show T.length ≤ 5 by have := HK.out; omega)
      have hkp : k ≤ 5 := by omega
      by_cases hv7 : v7 = 0
      · subst hv7
        have htl : T.length ≤ 2097152 := by have := HK5.out; omega
        have hNa := hNV.bound.below (below_alloc (Below.refl w7.heap.size w7) (.cells #[] 30))
        have hoa : (w7.alloc (.cells #[] 30)).ownsRow w7.heap.size 30 3 (.slice (some ⟨w7.heap.size, 0, none⟩) ([] : List T3).length 0) ([] : List T3).length (flat3 []) := own_lit0 w7 w7.heap.size 30 3 (Nat.le_refl _)
        have hzz := hgV.size
        have hNb := hNa.below (below_alloc (Below.refl (w7.alloc (.cells #[] 30)).heap.size (w7.alloc (.cells #[] 30))) (.cells #[.slice (some ⟨w7.heap.size, 0, none⟩) ([] : List T3).length 0] 31))
        have hob := own_below hoa (below_alloc (Below.refl (w7.alloc (.cells #[] 30)).heap.size (w7.alloc (.cells #[] 30))) (.cells #[.slice (some ⟨w7.heap.size, 0, none⟩) ([] : List T3).length 0] 31))
        have hrb := (hrV.alloc (.cells #[] 30)).alloc (.cells #[.slice (some ⟨w7.heap.size, 0, none⟩) ([] : List T3).length 0] 31)
        have hgb := gr_alloc (gr_alloc hgV (.cells #[] 30)) (.cells #[.slice (some ⟨w7.heap.size, 0, none⟩) ([] : List T3).length 0] 31)
        have hzb := hgb.size
        have hlit := Rd.lit (w7.alloc (.cells #[] 30)) (.slice (some ⟨w7.heap.size, 0, none⟩) ([] : List T3).length 0) 31
        have HTL := Lib.hid (show (T ++ [([] : List T3)]).length = T.length + 1 by simp)
        have HTV0 := Lib.hid (rows_snocD HT.out (show ([] : List T3).length ≤ 100 by simp))
        have HL0 := Lib.hid (show (T ++ [([] : List T3)]).length ≤ 6 by have := HTL.out; have := HK5.out; omega)
        rw [World.size_alloc] at hlit
        clear hNa hoa hNV
        go_wp2_with (at_builtin; go_must (refine wpList_snocN rfl _ _ 23 rfl w.heap.size w7.heap.size w7.heap.size 30 31 i1 _ Try.underlying23 hi1 hy0 hy1 hy2 rfl A' c' T rfl hNb (some ⟨w7.heap.size, 0, none⟩) 0 [] hob (w7.heap.size + 1) hlit rfl htl (Nat.le_refl _) hzz hzb ?_); intro A6 c6 w6 hNV hg6 hge6; have hgV := gr_own hgb hg6 hge6; have hrV := rdr_own hrb hg6 (fun b e => Nat.lt_of_lt_of_le hR (hge6 b e)))
        rw [← HTL.out]
        clear HTL
        generalize T ++ [([] : List T3)] = N at *
        have HTV := HTV0
        have HL := HL0
        clear HTV0 HL0
        have hzV := hgV.size
        go_wp2_with fail
        refine (sNetValidL (2 + v1) _ _ _ _ N _ (by have := HL.out; omega) (fun j hj => Nat.le_trans (HTV.out j hj) (by omega)) hNV.rd (Nat.le_refl _)).mono ?_
        rintro e w8 ⟨rfl, hb8⟩
        have hN8 := hNV.below hb8
        have hr8 := hrV.below hb8
        have hg8 := gr_below hgV hb8
        have hz8 := hg8.size
        clear hNV hrV hgV hb8
        cases hv : netB (2 + v1) N
        · clear hv
          have b9 := drawF_bd (n := 3) hr8 (p := (pk + 1)) (by omega) (by omega)
          go_wp2_with fail
          refine (pick_any 3 R ((pk + 1)) f _ hr8 (by omega) (by omega) (by omega)).mono ?_
          rintro e w9 ⟨rfl, hs9⟩
          have hr9 := hs9.rdr hr8
          have hN9 := hN8.step hs9.grown hR
          have hg9 := hg8.trans hs9.grown
          have hz9 := hg9.size
          generalize f ((pk + 1)) 3 = v9 at *
          obtain ⟨b90, b91⟩ := b9
          clear hs9 hr8 hN8 hg8
          have hT9 := hN9.rd
          clear hN9
          by_cases hv9 : 0 < v9
          · have hoG := own_lit0 w9 w9.heap.size 31 1 (Nat.le_refl _)
            have hbG := below_alloc (Below.refl w9.heap.size w9) (.cells #[] 31)
            go_wp2_with fail
            go_loopw [9, 8] (fun i v wr => ∃ (k g cap m : Nat) (G : Net) (hs : List Value), k ≤ (N).length ∧ i = .int .i64 k ∧ v = .slice (some ⟨g, 0, none⟩) m cap ∧ Hid (G.length = m) ∧ Hid (m ≤ k) ∧ wr.ownsRow w9.heap.size 31 1 (.slice (some ⟨g, 0, none⟩) m cap) m hs ∧ Hid (HdrRd w9 w.heap.size w9.heap.size hs G) ∧ Hid (∀ j (hj : j < G.length), G[j].length ≤ 100) ∧ Below w9.heap.size w9 wr) (fun i _ _ => (N).length - (intOf i).toNat)
            case atStart => exact ⟨0, _, _, 0, [], [], Nat.zero_le _, rfl, rfl, rfl, Nat.le_refl _, hoG, ⟨rfl, fun j hj => absurd hj (by simp)⟩, fun j hj => absurd hj (by simp), hbG⟩
            case round =>
              obtain ⟨k, g, cap, m, G, hs, hk, rfl, rfl, HGM, HMK, hoG, HHD, HG, hb⟩ := hrel
              have hbs := hb.size
              clear hbG
              by_cases hlt : k < (N).length
              · obtain ⟨b, off, B', cc, eA, hlo, hhi, c0, hc, hrk⟩ := hT9 k hlt
                have c0 := (hb.cell (p := ⟨b, off + k, none⟩) hhi).trans c0
                have hlk := HTV.out k hlt
                have hk100 : k ≤ 100 := by have := HL.out; omega
                have HHR := Lib.hid hrk
                have hrk := hrk.below hb (Nat.le_refl _)
                generalize (N)[k] = row at *
                subst eA
                have hbw : b < wr.heap.size := by omega
                go_wp2_with fail
                refine (sStopsValid (2 + v1) B' cc _ _ row wr (by omega) hrk hbs).mono ?_
                rintro e wb ⟨rfl, hbb⟩
                have hb2 := hb.trans (hbb.mono hbs)
                have hoG2 := own_below hoG hbb
                have c2 := (hbb.cell (p := ⟨b, off + k, none⟩) hbw).trans c0
                have hbw2 : b < wb.heap.size := Nat.lt_of_lt_of_le hbw hbb.size
                clear hoG hb hbb c0 hrk
                cases hsv : stopsB (2 + v1) row
                · clear hsv
                  go_wp2_with fail
                  go_roundw
                  case rel => exact ⟨k + 1, g, cap, m, G, hs, by omega, by go_num, rfl, HGM.out, Nat.le_succ_of_le HMK.out, hoG2, HHD.out, HG.out, hb2⟩
                  case measure => simp [intOf]; omega
                · clear hsv
                  have HN := Lib.hid (HHD.out.snoc hc HHR.out)
                  have HG2 := Lib.hid (rows_snocD HG.out hlk)
                  have HM2 := Lib.hid (show (G ++ [row]).length = m + 1 by simp [HGM.out])
                  have hmb : m ≤ 1000 := by have := HMK.out; have := HL.out; omega
                  have hoG3 := own_below hoG2 (below_alloc (Below.refl wb.heap.size wb) (.cells #[.slice B' row.length cc] 31))
                  have hb3 := below_alloc hb2 (.cells #[.slice B' row.length cc] 31)
                  have hlit := Rd.lit wb (.slice B' row.length cc) 31
                  clear hb2 hoG2
                  go_wp2_with (at_builtin; go_must (refine wpList_plain rfl fun _ hK => wp_appendRd _ _ 23 rfl w9.heap.size 31 i1 _ 1 24 Try.underlying23 hi1 hy0 hy1 hy2 rfl (by omega) (.slice (some ⟨g, 0, none⟩) m cap) m hs rfl hoG3 wb.heap.size (wb.heap.size + 1) (some ⟨wb.heap.size, 0, none⟩) 1 1 [.slice B' row.length cc] rfl hlit rfl (by simp [Value.oneCell']) (by unfold maxLen; omega) (by omega) hb3.size ?_); intro A5 c5 w5 hoG5 hg5 hor5; refine hK _ _ ?_; have hb5 := hb3.grown hg5 hb3.size (fun b e => (hoG3.lt b e).1); have hsh5 := own_someD hoG5; obtain ⟨g5, rfl⟩ := hsh5)
                  go_roundw
                  case rel => exact ⟨k + 1, g5, c5, m + 1, G ++ [row], _, by omega, by go_num, rfl, HM2.out, Nat.succ_le_succ HMK.out, hoG5, HN.out, HG2.out, hb5⟩
                  case measure => simp [intOf]; omega
              · have hm := HGM.out
                subst hm
                have HRD := Lib.hid (HHD.out.rdN hoG hb (Nat.le_refl _) hz9)
                go_wp2_with fail
                go_ret2
                exact ⟨2 + v1, _, _, (pk + 1) + 1, G, rfl, by omega, by omega, by have := HMK.out; have := HL.out; omega, HG.out, HRD.out, by omega, by omega, hr9.below hb, gr_below hg9 hb⟩
          · go_wp2_with fail
            go_ret2
            exact ⟨2 + v1, _, _, (pk + 1) + 1, N, rfl, by omega, by omega, HL.out, HTV.out, hT9, by omega, by omega, hr9, hg9⟩
        · clear hv
          go_wp2_with fail
          go_ret2
          exact ⟨2 + v1, _, _, (pk + 1), N, rfl, by omega, by omega, HL.out, HTV.out, hN8.rd, by omega, by omega, hr8, hg8⟩
      · have HL := Lib.hid (show T.length ≤ 6 by have := HK5.out; omega)
        have HTV := HT
        have hzV := hgV.size
        go_wp2_with fail
        refine (sNetValidL (2 + v1) _ _ _ _ T _ (by have := HL.out; omega) (fun j hj => Nat.le_trans (HTV.out j hj) (by omega)) hNV.rd (Nat.le_refl _)).mono ?_
        rintro e w8 ⟨rfl, hb8⟩
        have hN8 := hNV.below hb8
        have hr8 := hrV.below hb8
        have hg8 := gr_below hgV hb8
        have hz8 := hg8.size
        clear hNV hrV hgV hb8
        cases hv : netB (2 + v1) T
        · clear hv
          have b9 := drawF_bd (n := 3) hr8 (p := (pk + 1)) (by omega) (by omega)
          go_wp2_with fail
          refine (pick_any 3 R ((pk + 1)) f _ hr8 (by omega) (by omega) (by omega)).mono ?_
          rintro e w9 ⟨rfl, hs9⟩
          have hr9 := hs9.rdr hr8
          have hN9 := hN8.step hs9.grown hR
          have hg9 := hg8.trans hs9.grown
          have hz9 := hg9.size
          generalize f ((pk + 1)) 3 = v9 at *
          obtain ⟨b90, b91⟩ := b9
          clear hs9 hr8 hN8 hg8
          have hT9 := hN9.rd
          clear hN9
          by_cases hv9 : 0 < v9
          · have hoG := own_lit0 w9 w9.heap.size 31 1 (Nat.le_refl _)
            have hbG := below_alloc (Below.refl w9.heap.size w9) (.cells #[] 31)
            go_wp2_with fail
            go_loopw [9, 8] (fun i v wr => ∃ (k g cap m : Nat) (G : Net) (hs : List Value), k ≤ (T).length ∧ i = .int .i64 k ∧ v = .slice (some ⟨g, 0, none⟩) m cap ∧ Hid (G.length = m) ∧ Hid (m ≤ k) ∧ wr.ownsRow w9.heap.size 31 1 (.slice (some ⟨g, 0, none⟩) m cap) m hs ∧ Hid (HdrRd w9 w.heap.size w9.heap.size hs G) ∧ Hid (∀ j (hj : j < G.length), G[j].length ≤ 100) ∧ Below w9.heap.size w9 wr) (fun i _ _ => (T).length - (intOf i).toNat)
            case atStart => exact ⟨0, _, _, 0, [], [], Nat.zero_le _, rfl, rfl, rfl, Nat.le_refl _, hoG, ⟨rfl, fun j hj => absurd hj (by simp)⟩, fun j hj => absurd hj (by simp), hbG⟩
            case round =>
              obtain ⟨k, g, cap, m, G, hs, hk, rfl, rfl, HGM, HMK, hoG, HHD, HG, hb⟩ := hrel
              have hbs := hb.size
              clear hbG
              by_cases hlt : k < (T).length
              · obtain ⟨b, off, B', cc, eA, hlo, hhi, c0, hc, hrk⟩ := hT9 k hlt
                have c0 := (hb.cell (p := ⟨b, off + k, none⟩) hhi).trans c0
                have hlk := HTV.out k hlt
                have hk100 : k ≤ 100 := by have := HL.out; omega
                have HHR := Lib.hid hrk
                have hrk := hrk.below hb (Nat.le_refl _)
                generalize (T)[k] = row at *
                subst eA
                have hbw : b < wr.heap.size := by omega
                go_wp2_with fail
                refine (sStopsValid (2 + v1) B' cc _ _ row wr (by omega) hrk hbs).mono ?_
                rintro e wb ⟨rfl, hbb⟩
                have hb2 := hb.trans (hbb.mono hbs)
                have hoG2 := own_below hoG hbb
                have c2 := (hbb.cell (p := ⟨b, off + k, none⟩) hbw).trans c0
                have hbw2 : b < wb.heap.size := Nat.lt_of_lt_of_le hbw hbb.size
                clear hoG hb hbb c0 hrk
                cases hsv : stopsB (2 + v1) row
                · clear hsv
                  go_wp2_with fail
                  go_roundw
                  case rel => exact ⟨k + 1, g, cap, m, G, hs, by omega, by go_num, rfl, HGM.out, Nat.le_succ_of_le HMK.out, hoG2, HHD.out, HG.out, hb2⟩
                  case measure => simp [intOf]; omega
                · clear hsv
                  have HN := Lib.hid (HHD.out.snoc hc HHR.out)
                  have HG2 := Lib.hid (rows_snocD HG.out hlk)
                  have HM2 := Lib.hid (show (G ++ [row]).length = m + 1 by simp [HGM.out])
                  have hmb : m ≤ 1000 := by have := HMK.out; have := HL.out; omega
                  have hoG3 := own_below hoG2 (below_alloc (Below.refl wb.heap.size wb) (.cells #[.slice B' row.length cc] 31))
                  have hb3 := below_alloc hb2 (.cells #[.slice B' row.length cc] 31)
                  have hlit := Rd.lit wb (.slice B' row.length cc) 31
                  clear hb2 hoG2
                  go_wp2_with (at_builtin; go_must (refine wpList_plain rfl fun _ hK => wp_appendRd _ _ 23 rfl w9.heap.size 31 i1 _ 1 24 Try.underlying23 hi1 hy0 hy1 hy2 rfl (by omega) (.slice (some ⟨g, 0, none⟩) m cap) m hs rfl hoG3 wb.heap.size (wb.heap.size + 1) (some ⟨wb.heap.size, 0, none⟩) 1 1 [.slice B' row.length cc] rfl hlit rfl (by simp [Value.oneCell']) (by unfold maxLen; omega) (by omega) hb3.size ?_); intro A5 c5 w5 hoG5 hg5 hor5; refine hK _ _ ?_; have hb5 := hb3.grown hg5 hb3.size (fun b e => (hoG3.lt b e).1); have hsh5 := own_someD hoG5; obtain ⟨g5, rfl⟩ := hsh5)
                  go_roundw
                  case rel => exact ⟨k + 1, g5, c5, m + 1, G ++ [row], _, by omega, by go_num, rfl, HM2.out, Nat.succ_le_succ HMK.out, hoG5, HN.out, HG2.out, hb5⟩
                  case measure => simp [intOf]; omega
              · have hm := HGM.out
                subst hm
                have HRD := Lib.hid (HHD.out.rdN hoG hb (Nat.le_refl _) hz9)
                go_wp2_with fail
                go_ret2
                exact ⟨2 + v1, _, _, (pk + 1) + 1, G, rfl, by omega, by omega, by have := HMK.out; have := HL.out; omega, HG.out, HRD.out, by omega, by omega, hr9.below hb, gr_below hg9 hb⟩
          · go_wp2_with fail
            go_ret2
            exact ⟨2 + v1, _, _, (pk + 1) + 1, T, rfl, by omega, by omega, HL.out, HTV.out, hT9, by omega, by omega, hr9, hg9⟩
        · clear hv
          go_wp2_with fail
          go_ret2
          exact ⟨2 + v1, _, _, (pk + 1), T, rfl, by omega, by omega, HL.out, HTV.out, hN8.rd, by omega, by omega, hr8, hg8⟩

end Go.Proofs.Ytdiichfdffhdaaa

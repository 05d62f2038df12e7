/-
  What the laws on journeys draw: a net, rides, a change.
-/
import Derived.Test.YtdiichfdffhdaaaNetArgs
import Derived.Test.YtdiichfdffhdaaaWayS
namespace Go.Proofs.Ytdiichfdffhdaaa
open Go.RowKit

def DrewJ (R p : Nat) (f : Nat → Int → Int) (w : World) (e : Ending) (w' : World) : Prop :=
  ∃ (n : Int) (A : Option Addr) (c : Nat) (B : Option Addr) (d : Nat) (l : List T3) (ch : Int) (p' : Nat) (net : Net), e = .returned (.tuple #[.int .i64 n, .slice A net.length c, .slice B l.length d, .int .i64 ch]) ∧ 2 ≤ n ∧ n ≤ 6 ∧ net.length ≤ 6 ∧ (∀ k (hk : k < net.length), net[k].length ≤ 100) ∧ RdN w' w.heap.size w'.heap.size A net ∧ l.length ≤ 1048576 ∧ l.length ≤ d ∧ Rd w' w.heap.size w'.heap.size B (flat3 l) ∧ (-1 ≤ ch ∧ ch ≤ 301) ∧ p ≤ p' ∧ p' ≤ p + 4000 ∧ IsRdr w' R p' f ∧ w.grownBy w' (some R)
theorem Rd_one3 (w : World) (x y z : Int) (E : TypeId) : Rd (w.alloc (.cells #[.int .i64 x, .int .i64 y, .int .i64 z] E)) w.heap.size (w.heap.size + 1) (some ⟨w.heap.size, 0, none⟩) (flat3 [(x, y, z)]) := by
  intro j hj
  have h3 : j = 0 ∨ j = 1 ∨ j = 2 := by
    have : (flat3 [(x, y, z)]).length = 3 := rfl
    omega
  rcases h3 with rfl | rfl | rfl <;> exact ⟨w.heap.size, 0, rfl, Nat.le_refl _, by omega, by simp [go_sem, flat3]⟩
theorem own_writeJ {w : World} {B g n cap j : Nat} {E : TypeId} {L : List T3} {v : Int} (h : w.ownsRow B E 3 (.slice (some ⟨g, 0, none⟩) n cap) n (flat3 L)) (hj : j < L.length * 3) : ∃ L' : List T3, L'.length = L.length ∧ (w.setCell ⟨g, j, none⟩ (.int .i64 v)).ownsRow B E 3 (.slice (some ⟨g, 0, none⟩) n cap) n (flat3 L') := by
  obtain ⟨L', h1, h2⟩ := flat3_set_any L j v hj
  exact ⟨L', h1, own_write h h2⟩
set_option maxRecDepth 100000 in
set_option maxHeartbeats 8000000 in
theorem jour_any (R p : Nat) (f : Nat → Int → Int) (w : World) (h : IsRdr w R p f) (hp : p ≤ 700000) :
    Calls Try.prog 51 #[.pointer (some ⟨R, 0, none⟩)] w (DrewJ R p f w) := by
  have hR := h.lt
  go_enter Try.func51, Try.ntmps51
  go_wp2_with fail
  refine (post_any R p f _ h (by omega)).mono ?_
  rintro e w1 ⟨n, A, c, fr, t, ch, p1, net, rfl, hn1, hn2, hln, hlr, hrd1, ht, hch, hp11, hp12, hr1, hg1⟩
  have HLR := Lib.hid hlr
  have hz1 := hg1.size
  clear h hlr
  go_wp2_with fail
  refine (pick_any n R p1 f _ hr1 (by omega) (by omega) (by omega)).mono ?_
  rintro e w2 ⟨rfl, hs2⟩
  have hr2 := hs2.rdr hr1
  have hg2 := hg1.trans hs2.grown
  have hz2 := hg2.size
  have hrd2 := (hrd1.stepR hs2.grown hR (Nat.le_refl _)).more (Nat.le_refl _) hs2.grown.size
  have HSZ := Lib.hid (show netSize net ≤ 1048576 from by have := netSum_hundred HLR.out; unfold netSize; omega)
  generalize f p1 n = g at *
  clear hs2 hrd1 hr1 hg1
  obtain ⟨L, hL⟩ : ∃ L, L = wayV n net fr g t ch := ⟨_, rfl⟩
  have hLb : L.length ≤ 1048576 := by rw [hL]; exact wayV_len
  have HL := Lib.hid hL
  clear hL
  obtain ⟨ok, hok⟩ : ∃ ok, ok = wayOk n net fr g t ch := ⟨_, rfl⟩
  have HOK := Lib.hid hok
  clear hok
  go_wp2_with fail
  refine (sPostWay_any n A c _ net fr g t ch _ HSZ.out (hrd2.more (Nat.zero_le _) (Nat.le_refl _)) (Nat.le_refl _)).mono ?_
  rintro e w3 ⟨B, d, rfl, ho3, hb3⟩
  rw [← HL.out] at ho3 ⊢
  rw [← HOK.out]
  have hr3 := hr2.below hb3
  have hg3 := hg2.trans (grown_of_below hb3 (some R))
  have hz3 := hg3.size
  have HRD := Lib.hid (show ∀ wq, w3.grownBy wq (some R) → RdN wq w.heap.size wq.heap.size A net from fun wq hq => ((((hrd2.below hb3 (Nat.le_refl _)).more (Nat.le_refl _) hb3.size).stepR hq hR (Nat.le_refl _)).more (Nat.le_refl _) hq.size))
  have HRDS := Lib.hid (show ∀ (wq : World) (gb o : Nat) (u : Value), w3.grownBy wq (some R) → w2.heap.size ≤ gb → RdN (wq.setCell ⟨gb, o, none⟩ u) w.heap.size (wq.setCell ⟨gb, o, none⟩ u).heap.size A net from fun wq gb o u hq hgb =>
    ((hrd2.below hb3 (Nat.le_refl _)).keep fun p h1 h2 => World.cell?_of_block ((Below.heap_setCell _ _ _ _ (fun e => by simp only at e; omega)).trans (hq.block p.block (Nat.lt_of_lt_of_le h2 hb3.size) (fun e => by injection e with e; omega)))).more (Nat.le_refl _) (by simpa using Nat.le_trans hb3.size hq.size))
  have HG := Lib.hid hg3
  have hRw3 := hr3.lt
  have hR2 : R < w2.heap.size := by omega
  clear hrd2 hr2 hg2 hb3 hg3
  cases ok
  · clear ho3
    have HGQ := Lib.hid (show w3.grownBy w3 (some R) from gr_refl w3 _)
    go_wp2_with fail
    refine (pick_any 3 R (p1 + 1) f _ hr3 (by omega) (by omega) (by omega)).mono ?_
    rintro e wa ⟨rfl, hsa⟩
    have hra := hsa.rdr hr3
    have hga := HGQ.out.trans hsa.grown
    generalize f (p1 + 1) 3 = xa at *
    clear hsa
    go_wp2_with fail
    refine (pick_any 2 R (p1 + 1 + 1) f _ hra (by omega) (by omega) (by omega)).mono ?_
    rintro e wb ⟨rfl, hsb⟩
    have hrb := hsb.rdr hra
    have hgb := hga.trans hsb.grown
    generalize f (p1 + 1 + 1) 2 = xb at *
    have bc := drawF_bd (n := 3) hrb (p := p1 + 1 + 1 + 1) (by omega) (by omega)
    clear hsb hra hga
    go_wp2_with fail
    refine (pick_any 3 R (p1 + 1 + 1 + 1) f _ hrb (by omega) (by omega) (by omega)).mono ?_
    rintro e wc ⟨rfl, hsc⟩
    have hrc := (hsc.rdr hrb).alloc (.cells #[.int .i64 xa, .int .i64 xb, .int .i64 (1 + f (p1 + 1 + 1 + 1) 3)] 33)
    have hgc := gr_alloc (hgb.trans hsc.grown) (.cells #[.int .i64 xa, .int .i64 xb, .int .i64 (1 + f (p1 + 1 + 1 + 1) 3)] 33)
    generalize f (p1 + 1 + 1 + 1) 3 = xc at *
    obtain ⟨bc0, bc1⟩ := bc
    have hzc : w3.heap.size ≤ wc.heap.size := (hgb.trans hsc.grown).size
    have HRES := Lib.hid (HRD.out _ hgc)
    have HGC := Lib.hid (HG.out.trans hgc)
    have HONE := Lib.hid (Rd_one3 wc xa xb (1 + xc) 33)
    clear hsc hrb hgb hgc
    go_wp2_with fail
    refine bodyPost_ret (v := .tuple #[.int .i64 n, .slice A net.length c, .slice (some ⟨wc.heap.size, 0, none⟩) 1 1, .int .i64 ch]) (by simp [results, Try.results51, go_sem]) rfl ?_
    exact ⟨n, A, c, some ⟨wc.heap.size, 0, none⟩, 1, [(xa, xb, 1 + xc)], ch, p1 + 1 + 1 + 1 + 1, net, rfl, hn1, hn2, hln, HLR.out, HRES.out, by simp, by simp, HONE.out.more (by omega) (by simp), hch, by omega, by omega, hrc, HGC.out⟩
  · have b5 := drawF_bd (n := 5) hr3 (p := p1 + 1) (by omega) (by omega)
    go_wp2_with fail
    refine (pick_any 5 R (p1 + 1) f _ hr3 (by omega) (by omega) (by omega)).mono ?_
    rintro e w4 ⟨rfl, hs4⟩
    have hr4 := hs4.rdr hr3
    have hg4 := hs4.grown
    have ho4 := hs4.own ho3 hR2
    generalize f (p1 + 1) 5 = v5 at *
    clear hs4 hr3 ho3
    by_cases h5 : 0 < v5
    · have d5 : decide (0 < v5) = true := decide_eq_true h5
      by_cases hL0 : 0 < L.length
      · have dL : decide (0 < L.length) = true := decide_eq_true hL0
        have dLi : (0 : Int) < (L.length : Int) := by omega
        go_wp2_with fail
        refine (pick_any 8 R (p1 + 1 + 1) f _ hr4 (by omega) (by omega) (by omega)).mono ?_
        rintro e w5 ⟨rfl, hs5⟩
        have hr5 := hs5.rdr hr4
        have hg5 := hg4.trans hs5.grown
        have ho5 := hs5.own ho4 hR2
        have hz5 := hg5.size
        generalize f (p1 + 1 + 1) 8 = v8 at *
        clear hs5 hr4 ho4 hg4
        by_cases h8 : v8 = 0
        · have d8 : (v8 == 0) = true := by simp [h8]
          clear h8
          obtain ⟨gb, cap', hv, hbg, hgl⟩ := ho5.form hL0
          injection hv with hA _ hc
          subst hA hc
          obtain ⟨c0, c1, c2⟩ := own3_cells ho5 0 hL0
          simp only [Nat.zero_mul, Nat.zero_add] at c1 c2
          have f2 := ho5.frozenAt 2
          obtain ⟨L2, hl2, ho6⟩ := own_writeJ (j := 2) (v := L[0].2.1) ho5 (by omega)
          have HL2 := Lib.hid hl2
          have hr6 := hr5.setCell (S := gb) (o := 2) (u := .int .i64 L[0].2.1) (by omega)
          clear hl2 c0
          have HGW := Lib.hid (show w.grownBy (w5.setCell ⟨gb, 2, none⟩ (.int .i64 L[0].2.1)) (some R) from draw_set (HG.out.trans hg5) (by omega))
          have HRW := Lib.hid (show RdN (w5.setCell ⟨gb, 2, none⟩ (.int .i64 L[0].2.1)) w.heap.size (w5.setCell ⟨gb, 2, none⟩ (.int .i64 L[0].2.1)).heap.size A net from HRDS.out w5 gb 2 _ hg5 hbg)
          have HROW := Lib.hid ((Rd.of_own ho6).more hz2 (Nat.le_refl _))
          have hcap := own_cap ho5
          generalize L[0].2.1 = y1 at *
          generalize L[0].2.2 = y2 at *
          clear hr5 hg5 ho5 ho6
          go_wp2_with fail
          refine bodyPost_ret (v := .tuple #[.int .i64 n, .slice A net.length c, .slice (some ⟨gb, 0, none⟩) L.length d, .int .i64 ch]) (by simp [results, Try.results51, go_sem]) rfl ?_
          exact ⟨n, A, c, some ⟨gb, 0, none⟩, d, L2, ch, p1 + 1 + 1 + 1, net, by rw [HL2.out], hn1, hn2, hln, HLR.out, HRW.out, by rw [HL2.out]; exact hLb, by rw [HL2.out]; exact hcap, HROW.out, hch, by omega, by omega, hr6, HGW.out⟩
        · have d8 : (v8 == 0) = false := by simp [h8]
          clear h8
          have HGQ := Lib.hid (show w3.grownBy w5 (some R) from hg5)
          have HRES := Lib.hid (HRD.out _ HGQ.out)
          have HGC := Lib.hid (HG.out.trans HGQ.out)
          have HROW := Lib.hid ((Rd.of_own ho5).more hz2 (Nat.le_refl _))
          have hcap := own_cap ho5
          have hrf := hr5
          go_wp2_with fail
          refine bodyPost_ret (v := .tuple #[.int .i64 n, .slice A net.length c, .slice B L.length d, .int .i64 ch]) (by simp [results, Try.results51, go_sem]) rfl ?_
          exact ⟨n, A, c, B, d, L, ch, p1 + 1 + 1 + 1, net, rfl, hn1, hn2, hln, HLR.out, HRES.out, by exact hLb, by exact hcap, HROW.out, hch, by omega, by omega, hrf, HGC.out⟩
      · have dL : decide (0 < L.length) = false := decide_eq_false hL0
        have dLi : ¬ (0 : Int) < (L.length : Int) := by omega
        have HGQ := Lib.hid (show w3.grownBy w4 (some R) from hg4)
        have HRES := Lib.hid (HRD.out _ HGQ.out)
        have HGC := Lib.hid (HG.out.trans HGQ.out)
        have HROW := Lib.hid ((Rd.of_own ho4).more hz2 (Nat.le_refl _))
        have hcap := own_cap ho4
        have hrf := hr4
        go_wp2_with fail
        refine bodyPost_ret (v := .tuple #[.int .i64 n, .slice A net.length c, .slice B L.length d, .int .i64 ch]) (by simp [results, Try.results51, go_sem]) rfl ?_
        exact ⟨n, A, c, B, d, L, ch, p1 + 1 + 1, net, rfl, hn1, hn2, hln, HLR.out, HRES.out, by exact hLb, by exact hcap, HROW.out, hch, by omega, by omega, hrf, HGC.out⟩
    · have d5 : decide (0 < v5) = false := decide_eq_false h5
      clear ho4
      have HGQ := Lib.hid (show w3.grownBy w4 (some R) from hg4)
      go_wp2_with fail
      refine (pick_any 3 R (p1 + 1 + 1) f _ hr4 (by omega) (by omega) (by omega)).mono ?_
      rintro e wa ⟨rfl, hsa⟩
      have hra := hsa.rdr hr4
      have hga := HGQ.out.trans hsa.grown
      generalize f (p1 + 1 + 1) 3 = xa at *
      clear hsa
      go_wp2_with fail
      refine (pick_any 2 R (p1 + 1 + 1 + 1) f _ hra (by omega) (by omega) (by omega)).mono ?_
      rintro e wb ⟨rfl, hsb⟩
      have hrb := hsb.rdr hra
      have hgb := hga.trans hsb.grown
      generalize f (p1 + 1 + 1 + 1) 2 = xb at *
      have bc := drawF_bd (n := 3) hrb (p := p1 + 1 + 1 + 1 + 1) (by omega) (by omega)
      clear hsb hra hga
      go_wp2_with fail
      refine (pick_any 3 R (p1 + 1 + 1 + 1 + 1) f _ hrb (by omega) (by omega) (by omega)).mono ?_
      rintro e wc ⟨rfl, hsc⟩
      have hrc := (hsc.rdr hrb).alloc (.cells #[.int .i64 xa, .int .i64 xb, .int .i64 (1 + f (p1 + 1 + 1 + 1 + 1) 3)] 33)
      have hgc := gr_alloc (hgb.trans hsc.grown) (.cells #[.int .i64 xa, .int .i64 xb, .int .i64 (1 + f (p1 + 1 + 1 + 1 + 1) 3)] 33)
      generalize f (p1 + 1 + 1 + 1 + 1) 3 = xc at *
      obtain ⟨bc0, bc1⟩ := bc
      have hzc : w3.heap.size ≤ wc.heap.size := (hgb.trans hsc.grown).size
      have HRES := Lib.hid (HRD.out _ hgc)
      have HGC := Lib.hid (HG.out.trans hgc)
      have HONE := Lib.hid (Rd_one3 wc xa xb (1 + xc) 33)
      clear hsc hrb hgb hgc
      go_wp2_with fail
      refine bodyPost_ret (v := .tuple #[.int .i64 n, .slice A net.length c, .slice (some ⟨wc.heap.size, 0, none⟩) 1 1, .int .i64 ch]) (by simp [results, Try.results51, go_sem]) rfl ?_
      exact ⟨n, A, c, some ⟨wc.heap.size, 0, none⟩, 1, [(xa, xb, 1 + xc)], ch, p1 + 1 + 1 + 1 + 1 + 1, net, rfl, hn1, hn2, hln, HLR.out, HRES.out, by simp, by simp, HONE.out.more (by omega) (by simp), hch, by omega, by omega, hrc, HGC.out⟩

def RetJ (w : World) (e : Ending) (w' : World) : Prop :=
  ∃ (n : Int) (A : Option Addr) (c : Nat) (B : Option Addr) (d : Nat) (l : List T3) (ch : Int) (net : Net), e = .returned (.tuple #[.int .i64 n, .slice A net.length c, .slice B l.length d, .int .i64 ch]) ∧ 2 ≤ n ∧ n ≤ 6 ∧ (-1 ≤ ch ∧ ch ≤ 301) ∧ l.length ≤ 1048576 ∧ l.length ≤ d ∧ Rd w' 0 w'.heap.size B (flat3 l) ∧ NetRd w' A net ∧ Below w.heap.size w w'
set_option maxRecDepth 100000 in
set_option maxHeartbeats 2000000 in
theorem dJE_any (A : Option Addr) (n c : Nat) (bs : Nat → Int) (w : World) (h : Byt w w.heap.size A n bs) (hn : n ≤ 1048576) (hc : n ≤ c) :
    Calls Try.prog 14 #[.slice A n c] w (RetJ w) := by
  go_enter Try.func14, Try.ntmps14
  go_wp2_with fail
  refine (open_any A n c bs _ h hn hc).mono ?_
  rintro e w1 ⟨f, rfl, hr1, hb1, hs1⟩
  have hb1 := Lib.hid hb1
  have hs1 := Lib.hid hs1
  go_wp2_with fail
  refine (jour_any w.heap.size 0 f _ hr1 (by omega)).mono ?_
  rintro e w2 ⟨n, A, c, B, d, l, ch, p2, net, rfl, hn1, hn2, hln, hlr, hrd, hll, hld, hrl, hch, -, -, hr2, hg2⟩
  have HLR := Lib.hid hlr
  have HRD := Lib.hid (hrd.more (Nat.zero_le _) (Nat.le_refl _))
  have HRL := Lib.hid (hrl.more (Nat.zero_le _) (Nat.le_refl _))
  clear hlr hrd hrl
  go_wp2_with fail
  refine bodyPost_ret (v := .tuple #[.int .i64 n, .slice A net.length c, .slice B l.length d, .int .i64 ch]) (by simp [results, Try.results14, go_sem]) rfl ?_
  exact ⟨n, A, c, B, d, l, ch, net, rfl, hn1, hn2, hch, hll, hld, HRL.out, ⟨hln, HLR.out, HRD.out⟩, below_draw hb1.out hg2 (Nat.le_refl _)⟩
set_option maxRecDepth 100000 in
set_option maxHeartbeats 2000000 in
theorem dJV_any (A : Option Addr) (n c : Nat) (bs : Nat → Int) (w : World) (h : Byt w w.heap.size A n bs) (hn : n ≤ 1048576) (hc : n ≤ c) :
    Calls Try.prog 24 #[.slice A n c] w (RetJ w) := by
  go_enter Try.func24, Try.ntmps24
  go_wp2_with fail
  refine (open_any A n c bs _ h hn hc).mono ?_
  rintro e w1 ⟨f, rfl, hr1, hb1, hs1⟩
  have hb1 := Lib.hid hb1
  have hs1 := Lib.hid hs1
  go_wp2_with fail
  refine (jour_any w.heap.size 0 f _ hr1 (by omega)).mono ?_
  rintro e w2 ⟨n, A, c, B, d, l, ch, p2, net, rfl, hn1, hn2, hln, hlr, hrd, hll, hld, hrl, hch, -, -, hr2, hg2⟩
  have HLR := Lib.hid hlr
  have HRD := Lib.hid (hrd.more (Nat.zero_le _) (Nat.le_refl _))
  have HRL := Lib.hid (hrl.more (Nat.zero_le _) (Nat.le_refl _))
  clear hlr hrd hrl
  go_wp2_with fail
  refine bodyPost_ret (v := .tuple #[.int .i64 n, .slice A net.length c, .slice B l.length d, .int .i64 ch]) (by simp [results, Try.results24, go_sem]) rfl ?_
  exact ⟨n, A, c, B, d, l, ch, net, rfl, hn1, hn2, hch, hll, hld, HRL.out, ⟨hln, HLR.out, HRD.out⟩, below_draw hb1.out hg2 (Nat.le_refl _)⟩

end Go.Proofs.Ytdiichfdffhdaaa

/-
  What the laws on the post draw.
-/
import Derived.Test.YtdiichfdffhdaaaPostDraw
namespace Go.Proofs.Ytdiichfdffhdaaa
open Go.RowKit

/-- A net of few coaches is read. -/
def NetRd (w : World) (A : Option Addr) (net : Net) : Prop := net.length ≤ 6 ∧ (∀ k (hk : k < net.length), net[k].length ≤ 100) ∧ RdN w 0 w.heap.size A net
theorem netSum_hundred {net : Net} (h : ∀ k (hk : k < net.length), net[k].length ≤ 100) : netSum net ≤ 100 * net.length := by
  induction net with
  | nil => simp [netSum]
  | cons a r ih =>
    have h0 := h 0 (by simp)
    have h1 := ih fun k hk => h (k + 1) (Nat.succ_lt_succ hk)
    simp only [netSum, List.length_cons, List.getElem_cons_zero] at h0 ⊢
    omega
theorem NetRd.size {w : World} {A : Option Addr} {net : Net} (h : NetRd w A net) : netSize net ≤ 1000 := by
  have := netSum_hundred h.2.1; have := h.1; unfold netSize; omega
theorem NetRd.below {w w' : World} {A : Option Addr} {net : Net} (h : NetRd w A net) (hb : Below w.heap.size w w') : NetRd w' A net :=
  ⟨h.1, h.2.1, (h.2.2.below hb (Nat.le_refl _)).more (Nat.le_refl _) hb.size⟩
def DrewTo (R p : Nat) (f : Nat → Int → Int) (w : World) (e : Ending) (w' : World) : Prop :=
  ∃ (n : Int) (A : Option Addr) (c : Nat) (fr to' t ch : Int) (p' : Nat) (net : Net), e = .returned (.tuple #[.int .i64 n, .slice A net.length c, .int .i64 fr, .int .i64 to', .int .i64 t, .int .i64 ch]) ∧ 2 ≤ n ∧ n ≤ 6 ∧ net.length ≤ 6 ∧ (∀ k (hk : k < net.length), net[k].length ≤ 100) ∧ RdN w' w.heap.size w'.heap.size A net ∧ (-121 ≤ t ∧ t ≤ 119) ∧ (-1 ≤ ch ∧ ch ≤ 301) ∧ p ≤ p' ∧ p' ≤ p + 3200 ∧ IsRdr w' R p' f ∧ w.grownBy w' (some R)
set_option maxRecDepth 100000 in
set_option maxHeartbeats 4000000 in
theorem two_any (R p : Nat) (f : Nat → Int → Int) (w : World) (h : IsRdr w R p f) (hp : p ≤ 700000) :
    Calls Try.prog 54 #[.pointer (some ⟨R, 0, none⟩)] w (DrewTo R p f w) := by
  have hR := h.lt
  go_enter Try.func54, Try.ntmps54
  go_wp2_with fail
  refine (post_any R p f _ h (by omega)).mono ?_
  rintro e w1 ⟨n, A, c, fr, t, ch, p1, net, rfl, hn1, hn2, hln, hlr, hrd1, ht, hch, hp11, hp12, hr1, hg1⟩
  have HLR := Lib.hid hlr
  have hz1 := hg1.size
  clear h hlr
  go_wp2_with fail
  refine (townP_any R p1 f n _ hr1 (by omega) (by omega) (by omega)).mono ?_
  rintro e w2 ⟨g, p2, rfl, -, -, hp21, hp22, hr2, hg2⟩
  have HRD := Lib.hid ((hrd1.stepR hg2 hR (Nat.le_refl _)).more (Nat.le_refl _) hg2.size)
  clear hrd1
  go_wp2_with fail
  refine bodyPost_ret (v := .tuple #[.int .i64 n, .slice A net.length c, .int .i64 fr, .int .i64 g, .int .i64 t, .int .i64 ch]) (by simp [results, Try.results54, go_sem]) rfl ?_
  exact ⟨n, A, c, fr, g, t, ch, p2, net, rfl, hn1, hn2, hln, HLR.out, HRD.out, ht, hch, by omega, by omega, hr2, hg1.trans hg2⟩

def RetD5 (w : World) (e : Ending) (w' : World) : Prop :=
  ∃ (n : Int) (A : Option Addr) (c : Nat) (fr t ch : Int) (net : Net), e = .returned (.tuple #[.int .i64 n, .slice A net.length c, .int .i64 fr, .int .i64 t, .int .i64 ch]) ∧ 2 ≤ n ∧ n ≤ 6 ∧ (-121 ≤ t ∧ t ≤ 119) ∧ (-1 ≤ ch ∧ ch ≤ 301) ∧ NetRd w' A net ∧ Below w.heap.size w w'
def RetD6 (w : World) (e : Ending) (w' : World) : Prop :=
  ∃ (n : Int) (A : Option Addr) (c : Nat) (fr to' t ch : Int) (net : Net), e = .returned (.tuple #[.int .i64 n, .slice A net.length c, .int .i64 fr, .int .i64 to', .int .i64 t, .int .i64 ch]) ∧ 2 ≤ n ∧ n ≤ 6 ∧ (-121 ≤ t ∧ t ≤ 319) ∧ (-1 ≤ ch ∧ ch ≤ 301) ∧ NetRd w' A net ∧ Below w.heap.size w w'
set_option maxRecDepth 100000 in
set_option maxHeartbeats 2000000 in
theorem drawTable_any (A : Option Addr) (n c : Nat) (bs : Nat → Int) (w : World) (h : Byt w w.heap.size A n bs) (hn : n ≤ 1048576) (hc : n ≤ c) :
    Calls Try.prog 32 #[.slice A n c] w (RetD5 w) := by
  go_enter Try.func32, Try.ntmps32
  go_wp2_with fail
  refine (open_any A n c bs _ h hn hc).mono ?_
  rintro e w1 ⟨f, rfl, hr1, hb1, hs1⟩
  have hb1 := Lib.hid hb1
  have hs1 := Lib.hid hs1
  go_wp2_with fail
  refine (post_any w.heap.size 0 f _ hr1 (by omega)).mono ?_
  rintro e w2 ⟨n, A, c, fr, t, ch, p2, net, rfl, hn1, hn2, hln, hlr, hrd, ht, hch, -, -, hr2, hg2⟩
  have HLR := Lib.hid hlr
  have HRD := Lib.hid (hrd.more (Nat.zero_le _) (Nat.le_refl _))
  clear hlr hrd
  go_wp2_with fail
  refine bodyPost_ret (v := .tuple #[.int .i64 n, .slice A net.length c, .int .i64 fr, .int .i64 t, .int .i64 ch]) (by simp [results, Try.results32, go_sem]) rfl ?_
  exact ⟨n, A, c, fr, t, ch, net, rfl, hn1, hn2, ht, hch, ⟨hln, HLR.out, HRD.out⟩, below_draw hb1.out hg2 (Nat.le_refl _)⟩
set_option maxRecDepth 100000 in
set_option maxHeartbeats 2000000 in
theorem dArr_any (A : Option Addr) (n c : Nat) (bs : Nat → Int) (w : World) (h : Byt w w.heap.size A n bs) (hn : n ≤ 1048576) (hc : n ≤ c) :
    Calls Try.prog 35 #[.slice A n c] w (RetD6 w) := by
  go_enter Try.func35, Try.ntmps35
  go_wp2_with fail
  refine (open_any A n c bs _ h hn hc).mono ?_
  rintro e w1 ⟨f, rfl, hr1, hb1, hs1⟩
  have hb1 := Lib.hid hb1
  have hs1 := Lib.hid hs1
  go_wp2_with fail
  refine (two_any w.heap.size 0 f _ hr1 (by omega)).mono ?_
  rintro e w2 ⟨n, A, c, fr, g, t, ch, p2, net, rfl, hn1, hn2, hln, hlr, hrd, ht, hch, -, -, hr2, hg2⟩
  have HLR := Lib.hid hlr
  have HRD := Lib.hid (hrd.more (Nat.zero_le _) (Nat.le_refl _))
  clear hlr hrd
  go_wp2_with fail
  refine bodyPost_ret (v := .tuple #[.int .i64 n, .slice A net.length c, .int .i64 fr, .int .i64 g, .int .i64 t, .int .i64 ch]) (by simp [results, Try.results35, go_sem]) rfl ?_
  exact ⟨n, A, c, fr, g, t, ch, net, rfl, hn1, hn2, ⟨by omega, by omega⟩, hch, ⟨hln, HLR.out, HRD.out⟩, below_draw hb1.out hg2 (Nat.le_refl _)⟩
set_option maxRecDepth 100000 in
set_option maxHeartbeats 2000000 in
theorem dWay_any (A : Option Addr) (n c : Nat) (bs : Nat → Int) (w : World) (h : Byt w w.heap.size A n bs) (hn : n ≤ 1048576) (hc : n ≤ c) :
    Calls Try.prog 18 #[.slice A n c] w (RetD6 w) := by
  go_enter Try.func18, Try.ntmps18
  go_wp2_with fail
  refine (open_any A n c bs _ h hn hc).mono ?_
  rintro e w1 ⟨f, rfl, hr1, hb1, hs1⟩
  have hb1 := Lib.hid hb1
  have hs1 := Lib.hid hs1
  go_wp2_with fail
  refine (two_any w.heap.size 0 f _ hr1 (by omega)).mono ?_
  rintro e w2 ⟨n, A, c, fr, g, t, ch, p2, net, rfl, hn1, hn2, hln, hlr, hrd, ht, hch, -, -, hr2, hg2⟩
  have HLR := Lib.hid hlr
  have HRD := Lib.hid (hrd.more (Nat.zero_le _) (Nat.le_refl _))
  clear hlr hrd
  go_wp2_with fail
  refine bodyPost_ret (v := .tuple #[.int .i64 n, .slice A net.length c, .int .i64 fr, .int .i64 g, .int .i64 t, .int .i64 ch]) (by simp [results, Try.results18, go_sem]) rfl ?_
  exact ⟨n, A, c, fr, g, t, ch, net, rfl, hn1, hn2, ⟨by omega, by omega⟩, hch, ⟨hln, HLR.out, HRD.out⟩, below_draw hb1.out hg2 (Nat.le_refl _)⟩
set_option maxRecDepth 100000 in
set_option maxHeartbeats 2000000 in
theorem dFew_any (A : Option Addr) (n c : Nat) (bs : Nat → Int) (w : World) (h : Byt w w.heap.size A n bs) (hn : n ≤ 1048576) (hc : n ≤ c) :
    Calls Try.prog 49 #[.slice A n c] w (RetD6 w) := by
  go_enter Try.func49, Try.ntmps49
  go_wp2_with fail
  refine (open_any A n c bs _ h hn hc).mono ?_
  rintro e w1 ⟨f, rfl, hr1, hb1, hs1⟩
  have hb1 := Lib.hid hb1
  have hs1 := Lib.hid hs1
  go_wp2_with fail
  refine (two_any w.heap.size 0 f _ hr1 (by omega)).mono ?_
  rintro e w2 ⟨n, A, c, fr, g, t, ch, p2, net, rfl, hn1, hn2, hln, hlr, hrd, ht, hch, -, -, hr2, hg2⟩
  have HLR := Lib.hid hlr
  have HRD := Lib.hid (hrd.more (Nat.zero_le _) (Nat.le_refl _))
  clear hlr hrd
  go_wp2_with fail
  refine bodyPost_ret (v := .tuple #[.int .i64 n, .slice A net.length c, .int .i64 fr, .int .i64 g, .int .i64 t, .int .i64 ch]) (by simp [results, Try.results49, go_sem]) rfl ?_
  exact ⟨n, A, c, fr, g, t, ch, net, rfl, hn1, hn2, ⟨by omega, by omega⟩, hch, ⟨hln, HLR.out, HRD.out⟩, below_draw hb1.out hg2 (Nat.le_refl _)⟩

/-- A net, two towns and two times. -/
def RetD6u (w : World) (e : Ending) (w' : World) : Prop :=
  ∃ (n : Int) (A : Option Addr) (c : Nat) (fr t ch u : Int) (net : Net), e = .returned (.tuple #[.int .i64 n, .slice A net.length c, .int .i64 fr, .int .i64 t, .int .i64 ch, .int .i64 u]) ∧ 2 ≤ n ∧ n ≤ 6 ∧ (-121 ≤ t ∧ t ≤ 119) ∧ (-1 ≤ ch ∧ ch ≤ 301) ∧ (-200 ≤ u ∧ u ≤ 300) ∧ NetRd w' A net ∧ Below w.heap.size w w'
set_option maxRecDepth 100000 in
set_option maxHeartbeats 2000000 in
theorem dReach_any (A : Option Addr) (n c : Nat) (bs : Nat → Int) (w : World) (h : Byt w w.heap.size A n bs) (hn : n ≤ 1048576) (hc : n ≤ c) :
    Calls Try.prog 39 #[.slice A n c] w (RetD6u w) := by
  go_enter Try.func39, Try.ntmps39
  go_wp2_with fail
  refine (open_any A n c bs _ h hn hc).mono ?_
  rintro e w1 ⟨f, rfl, hr1, hb1, hs1⟩
  have hb1 := Lib.hid hb1
  have hsz := Lib.hid hs1
  have hs1 : w.heap.size < w1.heap.size := by omega
  go_wp2_with fail
  refine (post_any w.heap.size 0 f _ hr1 (by omega)).mono ?_
  rintro e w2 ⟨n, A, c, fr, t, ch, p2, net, rfl, hn1, hn2, hln, hlr, hrd, ht, hch, -, hp2, hr2, hg2⟩
  have HLR := Lib.hid hlr
  have hz2 := hg2.size
  have b3 := drawF_bd (n := 120) hr2 (p := p2) (by omega) (by omega)
  clear hlr
  go_wp2_with fail
  refine (pick_any 120 w.heap.size p2 f _ hr2 (by omega) (by omega) (by omega)).mono ?_
  rintro e w3 ⟨rfl, hs3⟩
  have hr3 := hs3.rdr hr2
  have HRD := Lib.hid ((hrd.stepR hs3.grown hs1 (Nat.le_refl _)).more (Nat.zero_le _) hs3.grown.size)
  have hg3 := hg2.trans hs3.grown
  clear hrd hs3
  generalize f p2 120 = v at *
  obtain ⟨b30, b31⟩ := b3
  obtain ⟨ht0, ht1⟩ := ht
  have w1' : IntKind.i64.wrap (t + v) = t + v := IntWalk.i64_in _ (by omega)
  have w2' : IntKind.i64.wrap (t + v - 2) = t + v - 2 := IntWalk.i64_in _ (by omega)
  go_wp2_with fail
  refine bodyPost_ret (v := .tuple #[.int .i64 n, .slice A net.length c, .int .i64 fr, .int .i64 t, .int .i64 ch, .int .i64 (t + v - 2)]) (by simp [results, Try.results39, go_sem]) rfl ?_
  exact ⟨n, A, c, fr, t, ch, t + v - 2, net, rfl, hn1, hn2, ⟨ht0, ht1⟩, hch, ⟨by omega, by omega⟩, ⟨hln, HLR.out, HRD.out⟩, below_draw hb1.out hg3 (Nat.le_refl _)⟩
set_option maxRecDepth 100000 in
set_option maxHeartbeats 2000000 in
theorem dLea_any (A : Option Addr) (n c : Nat) (bs : Nat → Int) (w : World) (h : Byt w w.heap.size A n bs) (hn : n ≤ 1048576) (hc : n ≤ c) :
    Calls Try.prog 47 #[.slice A n c] w (RetD6 w) := by
  go_enter Try.func47, Try.ntmps47
  go_wp2_with fail
  refine (open_any A n c bs _ h hn hc).mono ?_
  rintro e w1 ⟨f, rfl, hr1, hb1, hs1⟩
  have hb1 := Lib.hid hb1
  have hsz := Lib.hid hs1
  have hs1 : w.heap.size < w1.heap.size := by omega
  go_wp2_with fail
  refine (two_any w.heap.size 0 f _ hr1 (by omega)).mono ?_
  rintro e w2 ⟨n, A, c, fr, g, t, ch, p2, net, rfl, hn1, hn2, hln, hlr, hrd, ht, hch, -, hp2, hr2, hg2⟩
  have HLR := Lib.hid hlr
  have hz2 := hg2.size
  have b3 := drawF_bd (n := 3) hr2 (p := p2) (by omega) (by omega)
  clear hlr
  go_wp2_with fail
  refine (pick_any 3 w.heap.size p2 f _ hr2 (by omega) (by omega) (by omega)).mono ?_
  rintro e w3 ⟨rfl, hs3⟩
  have hr3 := hs3.rdr hr2
  have HRD := Lib.hid ((hrd.stepR hs3.grown hs1 (Nat.le_refl _)).more (Nat.zero_le _) hs3.grown.size)
  have hg3 := hg2.trans hs3.grown
  clear hrd hs3
  generalize f p2 3 = v at *
  obtain ⟨b30, b31⟩ := b3
  obtain ⟨ht0, ht1⟩ := ht
  have w1' : IntKind.i64.wrap (v * 100) = v * 100 := IntWalk.i64_in _ (by omega)
  have w2' : IntKind.i64.wrap (t + v * 100) = t + v * 100 := IntWalk.i64_in _ (by omega)
  go_wp2_with fail
  refine bodyPost_ret (v := .tuple #[.int .i64 n, .slice A net.length c, .int .i64 fr, .int .i64 g, .int .i64 (t + v * 100), .int .i64 ch]) (by simp [results, Try.results47, go_sem]) rfl ?_
  exact ⟨n, A, c, fr, g, t + v * 100, ch, net, rfl, hn1, hn2, ⟨by omega, by omega⟩, hch, ⟨hln, HLR.out, HRD.out⟩, below_draw hb1.out hg3 (Nat.le_refl _)⟩
/-- A net and a time. -/
def RetD3 (w : World) (e : Ending) (w' : World) : Prop :=
  ∃ (n : Int) (A : Option Addr) (c : Nat) (t : Int) (net : Net), e = .returned (.tuple #[.int .i64 n, .slice A net.length c, .int .i64 t]) ∧ 2 ≤ n ∧ n ≤ 6 ∧ (-300 ≤ t ∧ t ≤ 599) ∧ NetRd w' A net ∧ Below w.heap.size w w'
set_option maxRecDepth 100000 in
set_option maxHeartbeats 2000000 in
theorem dBack_any (A : Option Addr) (n c : Nat) (bs : Nat → Int) (w : World) (h : Byt w w.heap.size A n bs) (hn : n ≤ 1048576) (hc : n ≤ c) :
    Calls Try.prog 43 #[.slice A n c] w (RetD3 w) := by
  go_enter Try.func43, Try.ntmps43
  go_wp2_with fail
  refine (open_any A n c bs _ h hn hc).mono ?_
  rintro e w1 ⟨f, rfl, hr1, hb1, hs1⟩
  have hb1 := Lib.hid hb1
  have hsz := Lib.hid hs1
  have hs1 : w.heap.size < w1.heap.size := by omega
  go_wp2_with fail
  refine (net_any w.heap.size 0 f _ hr1 (by omega)).mono ?_
  rintro e w2 ⟨n, A, c, p2, net, rfl, hn1, hn2, hln, hlr, hrd, -, hp2, hr2, hg2⟩
  have HLR := Lib.hid hlr
  have hz2 := hg2.size
  have b3 := drawF_bd (n := 300) hr2 (p := p2) (by omega) (by omega)
  clear hlr
  go_wp2_with fail
  refine (pick_any 300 w.heap.size p2 f _ hr2 (by omega) (by omega) (by omega)).mono ?_
  rintro e w3 ⟨rfl, hs3⟩
  have hr3 := hs3.rdr hr2
  have hrd3 := (hrd.stepR hs3.grown hs1 (Nat.le_refl _)).more (Nat.le_refl _) hs3.grown.size
  have hg3 := hg2.trans hs3.grown
  clear hrd hs3
  generalize f p2 300 = v at *
  obtain ⟨b30, b31⟩ := b3
  have w1' : IntKind.i64.wrap (300 + v) = 300 + v := IntWalk.i64_in _ (by omega)
  have b4 := drawF_bd (n := 20) hr3 (p := p2 + 1) (by omega) (by omega)
  go_wp2_with fail
  refine (pick_any 20 w.heap.size (p2 + 1) f _ hr3 (by omega) (by omega) (by omega)).mono ?_
  rintro e w4 ⟨rfl, hs4⟩
  have HRD := Lib.hid ((hrd3.stepR hs4.grown hs1 (Nat.le_refl _)).more (Nat.zero_le _) hs4.grown.size)
  have hg4 := hg3.trans hs4.grown
  generalize f (p2 + 1) 20 = x at *
  have hq0 : 0 ≤ x.tdiv 19 ∧ x.tdiv 19 ≤ 1 := by rw [Int.tdiv_eq_ediv_of_nonneg b4.1]; omega
  clear hs4 hrd3 hr3
  generalize hq : x.tdiv 19 = q at *
  obtain ⟨hq1, hq2⟩ := hq0
  have wq : IntKind.i64.wrap q = q := IntWalk.i64_in _ (by omega)
  have wq2 : IntKind.i64.wrap (q * 600) = q * 600 := IntWalk.i64_in _ (by omega)
  have wq3 : IntKind.i64.wrap (300 + v - q * 600) = 300 + v - q * 600 := IntWalk.i64_in _ (by omega)
  go_wp2_with fail
  refine bodyPost_ret (v := .tuple #[.int .i64 n, .slice A net.length c, .int .i64 (300 + v - q * 600)]) (by simp [results, Try.results43, go_sem]) rfl ?_
  exact ⟨n, A, c, 300 + v - q * 600, net, rfl, hn1, hn2, ⟨by omega, by omega⟩, ⟨hln, HLR.out, HRD.out⟩, below_draw hb1.out hg4 (Nat.le_refl _)⟩
/-- A net and a timetable. -/
def RetDA (w : World) (e : Ending) (w' : World) : Prop :=
  ∃ (n : Int) (A : Option Addr) (c : Nat) (B : Option Addr) (d : Nat) (l : List T3) (net : Net), e = .returned (.tuple #[.int .i64 n, .slice A net.length c, .slice B l.length d]) ∧ 2 ≤ n ∧ n ≤ 6 ∧ l.length ≤ 100 ∧ Rd w' 0 w'.heap.size B (flat3 l) ∧ NetRd w' A net ∧ Below w.heap.size w w'
set_option maxRecDepth 100000 in
set_option maxHeartbeats 2000000 in
theorem dAdd_any (A : Option Addr) (n c : Nat) (bs : Nat → Int) (w : World) (h : Byt w w.heap.size A n bs) (hn : n ≤ 1048576) (hc : n ≤ c) :
    Calls Try.prog 26 #[.slice A n c] w (RetDA w) := by
  go_enter Try.func26, Try.ntmps26
  go_wp2_with fail
  refine (open_any A n c bs _ h hn hc).mono ?_
  rintro e w1 ⟨f, rfl, hr1, hb1, hs1⟩
  have hb1 := Lib.hid hb1
  have hsz := Lib.hid hs1
  have hs1 : w.heap.size < w1.heap.size := by omega
  go_wp2_with fail
  refine (net_any w.heap.size 0 f _ hr1 (by omega)).mono ?_
  rintro e w2 ⟨n, A, c, p2, net, rfl, hn1, hn2, hln, hlr, hrd, -, hp2, hr2, hg2⟩
  have HLR := Lib.hid hlr
  have hz2 := hg2.size
  have b3 := drawF_bd (n := 150) hr2 (p := p2) (by omega) (by omega)
  clear hlr
  go_wp2_with fail
  refine (pick_any 150 w.heap.size p2 f _ hr2 (by omega) (by omega) (by omega)).mono ?_
  rintro e w3 ⟨rfl, hs3⟩
  have hr3 := hs3.rdr hr2
  have hrd3 := (hrd.stepR hs3.grown hs1 (Nat.le_refl _)).more (Nat.le_refl _) hs3.grown.size
  have hg3 := hg2.trans hs3.grown
  have hz3 := hs3.grown.size
  clear hrd hs3
  generalize f p2 150 = v at *
  obtain ⟨b30, b31⟩ := b3
  go_wp2_with fail
  refine (stops_any w.heap.size (p2 + 1) f n v _ hr3 (by omega) (by omega) (by omega) (by omega) (by omega)).mono ?_
  rintro e w4 ⟨B, d, p4, l, rfl, hll, hown, -, -, hr4, hg4⟩
  have HRD := Lib.hid ((hrd3.stepR hg4 hs1 (Nat.le_refl _)).more (Nat.zero_le _) hg4.size)
  have HO := Lib.hid ((Rd.of_own hown).more (Nat.zero_le _) (Nat.le_refl _))
  have hg04 := hg3.trans hg4
  clear hrd3 hown
  go_wp2_with fail
  refine bodyPost_ret (v := .tuple #[.int .i64 n, .slice A net.length c, .slice B l.length d]) (by simp [results, Try.results26, go_sem]) rfl ?_
  exact ⟨n, A, c, B, d, l, net, rfl, hn1, hn2, hll, HO.out, ⟨hln, HLR.out, HRD.out⟩, below_draw hb1.out hg04 (Nat.le_refl _)⟩

end Go.Proofs.Ytdiichfdffhdaaa

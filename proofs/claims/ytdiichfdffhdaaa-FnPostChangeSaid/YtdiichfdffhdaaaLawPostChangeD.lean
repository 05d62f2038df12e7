/-
  For every input the law FnPostChange returns true: shorter changes are no later.
-/
import Derived.Test.YtdiichfdffhdaaaPostLaws
import Derived.Test.YtdiichfdffhdaaaNetArgs
import Derived.Test.YtdiichfdffhdaaaMore2
import Derived.Test.YtdiichfdffhdaaaClass
namespace Go.Proofs.Ytdiichfdffhdaaa
open Go.ChangeShapes Go.WideShapes Go.ChangeAt Go.RowKit

def moreC (n fr t : Int) : List T3 := [(fr, t, t), (Int.tmod (fr + 1) n, t + 9, t + 9)]
theorem iNV_len (n : Int) (A : Option Addr) (c lo hi : Nat) (net : Net) (m : Nat) (hm : net.length = m) (w : World) (hl : netSize net ≤ 1048576) (hr : RdN w lo hi A net) (hh : hi ≤ w.heap.size) :
    Calls Try.prog 37 #[.int .i64 n, .slice A m c] w fun e w' => e = .returned (.bool (netB n net)) ∧ Below w.heap.size w w' := by
  subst hm; exact iNetValid n A c lo hi net w hl hr hh
theorem iPA_len (n : Int) (A : Option Addr) (c hi : Nat) (net : Net) (m : Nat) (hm : net.length = m) (f tq t0 ch : Int) (w : World) (hl : netSize net ≤ 1048576) (hr : RdN w 0 hi A net) (hh : hi ≤ w.heap.size) :
    Calls Try.prog 17 #[.int .i64 n, .slice A m c, .int .i64 f, .int .i64 tq, .int .i64 t0, .int .i64 ch] w fun e w' => e = .returned (.int .i64 (postArr n net f tq t0 ch)) ∧ Below w.heap.size w w' := by
  subst hm; exact iPostArrive_any n A c hi net f tq t0 ch w hl hr hh

set_option maxRecDepth 100000 in
set_option maxHeartbeats 16000000 in
theorem postChange_any (A0 : Option Addr) (c0 n0 : Nat) (bs0 : Nat → Int) (w : World) (hm0 : n0 ≤ maxLen) (hb0 : Byt w w.heap.size A0 n0 bs0) (hc0 : n0 ≤ c0) :
    Calls Try.prog 8 #[.slice A0 n0 c0] w fun e w' => e = .returned (.bool true) ∧ Below w.heap.size w w' := by
  unfold maxLen at hm0
  by_cases hbig0 : (1048576 : Int) < n0
  · go_enter Try.func8, Try.ntmps8
    go_wp2_with fail
    go_ret
    exact ⟨rfl, Below.refl _ _⟩
  have hn0 : n0 ≤ 1048576 := by omega
  have hni0 : (n0 : Int) ≤ 1048576 := by omega
  clear hm0
  go_enter Try.func8, Try.ntmps8
  obtain ⟨i1, hi1, hy0, hy1, hy2⟩ := info_parts infoHdrD
  go_wp2_with fail
  refine (dArr_any A0 n0 c0 bs0 _ hb0 hn0 hc0).mono ?_
  rintro e w1 ⟨n, A, c, fr, g, t, ch, net, rfl, hN1, hN2, ht, hch, r_N, hb⟩
  obtain ⟨ht0, ht1⟩ := ht
  obtain ⟨hch0, hch1⟩ := hch
  obtain ⟨V, hV⟩ : ∃ V, V = postArr n net fr g t ch := ⟨_, rfl⟩
  have HV := Lib.hid hV
  clear hV
  go_wp2_with fail
  refine (iPostArrive_any n _ _ _ net fr g t ch _ (Nat.le_trans r_N.size (by omega)) r_N.2.2 (Nat.le_refl _)).mono ?_
  rintro e w2 ⟨rfl, hs⟩
  replace r_N := r_N.below hs
  replace hb := hb.trans (hs.mono hb.size)
  clear hs
  rw [← HV.out]
  go_wp2_with fail
  refine (sPostArrive_any n _ _ _ net fr g t ch _ (Nat.le_trans r_N.size (by omega)) r_N.2.2 (Nat.le_refl _)).mono ?_
  rintro e w3 ⟨rfl, hs⟩
  replace r_N := r_N.below hs
  replace hb := hb.trans (hs.mono hb.size)
  clear hs
  rw [← HV.out]
  have vv : (V == V) = true := by simp
  have vn : (V != V) = false := by simp
  by_cases hneg : V < 0
  · have dv : decide (V < 0) = true := decide_eq_true hneg
    go_wp2_with fail
    go_ret
    exact ⟨rfl, by (repeat (first | exact Below.refl _ _ | assumption | apply below_alloc | apply below_drewN | apply Below.drew | refine Below.setCell ?_ (by simp; try omega) _))⟩
  have dv : decide (V < 0) = false := decide_eq_false hneg
  have hv0 : 0 ≤ V := by omega
  obtain ⟨X, hX⟩ : ∃ X, X = postArr n net fr g t (ch - 1) := ⟨_, rfl⟩
  have HX := Lib.hid hX
  clear hX
  obtain ⟨Y, hY⟩ : ∃ Y, Y = postArr n (net ++ [moreC n fr t]) fr g t ch := ⟨_, rfl⟩
  have HY := Lib.hid hY
  clear hY
  obtain ⟨B, hB⟩ : ∃ B, B = netB n (net ++ [moreC n fr t]) := ⟨_, rfl⟩
  have HB := Lib.hid hB
  clear hB
  have hok : postOk n net fr t ch = true ∧ 0 ≤ g ∧ g < n ∧ V = tg (tableL n net fr t ch) g := by
    have h := HV.out
    unfold postArr at h
    by_cases hc : (postOk n net fr t ch && inB g 0 (n - 1)) = true
    · rw [if_pos hc] at h
      simp only [Bool.and_eq_true, inB, decide_eq_true_eq] at hc
      exact ⟨hc.1, by omega, by omega, h⟩
    · rw [if_neg hc] at h; omega
  obtain ⟨hok, hg0, hg1, hVe⟩ := hok
  obtain ⟨hnet, hf, ht, hc, _⟩ := postOk_and hok
  obtain ⟨hf0, hf1⟩ := hf
  have ha := tab_ge hok hg0 hg1 (by rw [← hVe]; exact hv0)
  rw [← hVe] at ha
  have hfr := tab_from hok
  have hin : inB g 0 (n - 1) = true := inB_true ⟨hg0, by omega⟩
  have HL1 := Lib.hid (show ch ≠ 0 → 0 ≤ X ∧ X ≤ V from fun h => by
    have ok2 : postOk n net fr t (ch - 1) = true := by
      simp only [postOk, Bool.and_eq_true, inB, decide_eq_true_eq]; exact ⟨⟨⟨hnet, by omega⟩, by omega⟩, by omega⟩
    have e : X = tg (tableL n net fr t (ch - 1)) g := by rw [HX.out]; unfold postArr; rw [ok2, hin]; rfl
    rw [e, hVe]
    exact tab_mono hok ok2 (fun _ h => h) (Int.le_refl _) (by omega) hg0 hg1 (by rw [← hVe]; exact hv0))
  have HL2 := Lib.hid (show B = true → 0 ≤ Y ∧ Y ≤ V from fun h => by
    have ok2 : postOk n (net ++ [moreC n fr t]) fr t ch = true := by
      simp only [postOk, Bool.and_eq_true, inB, decide_eq_true_eq]; exact ⟨⟨⟨by rw [← HB.out]; exact h, by omega⟩, by omega⟩, by omega⟩
    have e : Y = tg (tableL n (net ++ [moreC n fr t]) fr t ch) g := by rw [HY.out]; unfold postArr; rw [ok2, hin]; rfl
    rw [e, hVe]
    exact tab_mono hok ok2 (fun x hx => List.mem_append_left _ hx) (Int.le_refl _) (Int.le_refl _) hg0 hg1 (by rw [← hVe]; exact hv0))
  have HL3 := Lib.hid (show (V == t) = (fr == g) from by
    by_cases e : fr = g
    · have e2 : V = t := by rw [hVe, ← e]; exact hfr
      rw [show (fr == g) = true by simp [e], show (V == t) = true by simp [e2]]
    · have e2 : V ≠ t := fun h => e (ha.2 h).symm
      rw [show (fr == g) = false by simp [e], show (V == t) = false by simp [e2]])
  have hvt : t ≤ V := ha.1
  clear ha hfr hin hVe hok hnet
  obtain ⟨s, hs'⟩ : ∃ s, s = Int.tmod (fr + 1) n := ⟨_, rfl⟩
  have hsb : 0 ≤ s ∧ s < n := by rw [hs', Int.tmod_eq_emod_of_nonneg (by omega)]; exact ⟨Int.emod_nonneg _ (by omega), Int.emod_lt_of_pos _ (by omega)⟩
  obtain ⟨hs0, hs1⟩ := hsb
  have ms : Int.tmod (fr + 1) n = s := hs'.symm
  have m2s : (fr + 1) % n = s := by rw [hs', Int.tmod_eq_emod_of_nonneg (by omega)]
  have ws : IntKind.i64.wrap s = s := IntWalk.i64_in _ (by omega)
  have wf : IntKind.i64.wrap (fr + 1) = fr + 1 := IntWalk.i64_in _ (by omega)
  have w9 : IntKind.i64.wrap (t + 9) = t + 9 := IntWalk.i64_in _ (by omega)
  have wc1 : IntKind.i64.wrap (ch - 1) = ch - 1 := IntWalk.i64_in _ (by omega)
  have hnz : (n == 0) = false := by rw [beq_eq_false_iff_ne]; omega
  have hnz2 : ¬ n = 0 := by omega
  have HMC := Lib.hid (show moreC n fr t = [(fr, t, t), (s, t + 9, t + 9)] by unfold moreC; rw [ms])
  clear hs' hneg
  have hln := r_N.1
  obtain ⟨hs, hH, hR, hO⟩ := hdr_of r_N.2.2
  have hHl : hs.length = net.length := hH.1
  have HH := Lib.hid hH
  have HO := Lib.hid hO
  have HRW := Lib.hid (show ∀ W, Below w3.heap.size w3 W → Rd W 0 w3.heap.size A hs from fun W hW => hR.below hW (Nat.le_refl _))
  have HHL := Lib.hid hHl
  have hbD : Below w3.heap.size w3 w3.drew := below_drewN (Below.refl _ _) 1
  have hzD : w3.drew.heap.size = w3.heap.size := rfl
  obtain ⟨D, hD⟩ : ∃ D, D = w3.drew := ⟨_, rfl⟩
  clear hH hR hO hHl
  go_upto_region 8 with fail
  go_cut [11] (fun s11 wx => ∃ (PZ : Option Addr) (cZ : Nat), s11 = .slice PZ (net.length + 1) cZ ∧ Hid (RdN wx 0 wx.heap.size PZ (net ++ [moreC n fr t])) ∧ Below w3.heap.size w3 wx)
  case first =>
    go_region_law (first
        | (refine step_appendH rfl (.tmp 50) (.tmp 51) 23 rfl w3.heap.size 31 i1 _ Try.underlying23 hi1 hy0 hy1 hy2 rfl (.slice (some ⟨w3.heap.size, 0, none⟩) 0 0) 0 [] rfl (own_lit0 w3.drew _ _ 1 (Nat.le_refl _)) A net.length c _ _ hs rfl (HRW.out (w3.drew.alloc (.cells #[] 31)) (below_alloc hbD _)) HHL.out HO.out (by omega) (below_alloc hbD _).size ?_; intro PA cA wA hownA hgA hPA; have hbA : Below w3.heap.size w3 wA := below_grown (below_alloc hbD _) (below_alloc hbD _).size (own_lit0 w3.drew _ _ 1 (Nat.le_refl _) : World.ownsRow (w3.drew.alloc (.cells #[] 31)) w3.heap.size 31 1 (.slice (some ⟨w3.heap.size, 0, none⟩) 0 0) 0 []) (Nat.le_refl _) hgA; have hbAs := hbA.size; simp only [Nat.zero_add, List.nil_append] at hownA hPA ⊢; clear hgA hPA)
        | (refine step_appendH rfl (.tmp 50) (.tmp 51) 23 rfl w3.heap.size 31 i1 _ Try.underlying23 hi1 hy0 hy1 hy2 rfl (.slice (some ⟨w3.heap.size, 0, none⟩) 0 0) 0 [] rfl ((own_lit0 w3.drew _ _ 1 (Nat.le_refl _)).alloc _) A net.length c _ _ hs rfl (HRW.out ((w3.drew.alloc (.cells #[] 31)).alloc (.cells #[.int .i64 fr, .int .i64 t, .int .i64 t, .int .i64 s, .int .i64 (t + 9), .int .i64 (t + 9)] 30)) (below_alloc (below_alloc hbD _) _)) HHL.out HO.out (by omega) (below_alloc (below_alloc hbD _) _).size ?_; intro PA cA wA hownA hgA hPA; have hbA : Below w3.heap.size w3 wA := below_grown (below_alloc (below_alloc hbD _) _) (below_alloc (below_alloc hbD _) _).size ((own_lit0 w3.drew _ _ 1 (Nat.le_refl _)).alloc _ : World.ownsRow ((w3.drew.alloc (.cells #[] 31)).alloc (.cells #[.int .i64 fr, .int .i64 t, .int .i64 t, .int .i64 s, .int .i64 (t + 9), .int .i64 (t + 9)] 30)) w3.heap.size 31 1 (.slice (some ⟨w3.heap.size, 0, none⟩) 0 0) 0 []) (Nat.le_refl _) hgA; have hbAs := hbA.size; simp only [Nat.zero_add, List.nil_append] at hownA hPA ⊢; have hRR : Rd wA (w3.heap.size + 1) ((w3.heap.size + 1) + 1) (some ⟨(w3.heap.size + 1), 0, none⟩) (flat3 [((fr, t, t) : T3), ((s, t + 9, t + 9) : T3)]) := Rd.grownNe (Rd_two1 w3.drew (.cells #[] 31) ((fr, t, t) : T3) ((s, t + 9, t + 9) : T3) _) hgA (by first | (simp; done) | (simp; omega) | omega) (by omega); have hNE := first_ne (r := (w3.heap.size + 1)) hPA (by omega) (by first | (simp; done) | (simp; omega) | omega); have hRl : (w3.heap.size + 1) + 1 ≤ wA.heap.size := Nat.le_trans (by first | (simp; done) | (simp; omega) | omega) hgA.size; clear hgA hPA)
        | (refine step_appendH rfl (.tmp 50) (.tmp 51) 23 rfl w3.heap.size 31 i1 _ Try.underlying23 hi1 hy0 hy1 hy2 rfl (.slice (some ⟨w3.heap.size, 0, none⟩) 0 0) 0 [] rfl (((own_lit0 w3.drew _ _ 1 (Nat.le_refl _)).alloc _).alloc _) A net.length c _ _ hs rfl (HRW.out (((w3.drew.alloc (.cells #[] 31)).alloc (.cells #[.int .i64 fr, .int .i64 t, .int .i64 t, .int .i64 s, .int .i64 (t + 9), .int .i64 (t + 9)] 30)).alloc (.cells #[.slice (some ⟨(w3.heap.size + 1), 0, none⟩) 2 2] 31)) (below_alloc (below_alloc (below_alloc hbD _) _) _)) HHL.out HO.out (by omega) (below_alloc (below_alloc (below_alloc hbD _) _) _).size ?_; intro PA cA wA hownA hgA hPA; have hbA : Below w3.heap.size w3 wA := below_grown (below_alloc (below_alloc (below_alloc hbD _) _) _) (below_alloc (below_alloc (below_alloc hbD _) _) _).size (((own_lit0 w3.drew _ _ 1 (Nat.le_refl _)).alloc _).alloc _ : World.ownsRow (((w3.drew.alloc (.cells #[] 31)).alloc (.cells #[.int .i64 fr, .int .i64 t, .int .i64 t, .int .i64 s, .int .i64 (t + 9), .int .i64 (t + 9)] 30)).alloc (.cells #[.slice (some ⟨(w3.heap.size + 1), 0, none⟩) 2 2] 31)) w3.heap.size 31 1 (.slice (some ⟨w3.heap.size, 0, none⟩) 0 0) 0 []) (Nat.le_refl _) hgA; have hbAs := hbA.size; simp only [Nat.zero_add, List.nil_append] at hownA hPA ⊢; have hRR : Rd wA (w3.heap.size + 1) ((w3.heap.size + 1) + 1) (some ⟨(w3.heap.size + 1), 0, none⟩) (flat3 [((fr, t, t) : T3), ((s, t + 9, t + 9) : T3)]) := Rd.grownNe ((Rd_two1 w3.drew (.cells #[] 31) ((fr, t, t) : T3) ((s, t + 9, t + 9) : T3) _).alloc1 (by simp) _) hgA (by first | (simp; done) | (simp; omega) | omega) (by omega); have hNE := first_ne (r := (w3.heap.size + 1)) hPA (by omega) (by first | (simp; done) | (simp; omega) | omega); have hRl : (w3.heap.size + 1) + 1 ≤ wA.heap.size := Nat.le_trans (by first | (simp; done) | (simp; omega) | omega) hgA.size; have hHH : Rd wA (w3.heap.size + 2) ((w3.heap.size + 2) + 1) (some ⟨(w3.heap.size + 2), 0, none⟩) [.slice (some ⟨(w3.heap.size + 1), 0, none⟩) 2 2] := Rd.grownNe (Rd_lit3 w3.drew (.cells #[] 31) (.cells #[.int .i64 fr, .int .i64 t, .int .i64 t, .int .i64 s, .int .i64 (t + 9), .int .i64 (t + 9)] 30) _ _) hgA (by first | (simp; done) | (simp; omega) | omega) (by omega); clear hgA hPA)
        | (refine step_appendH rfl (.tmp 50) (.tmp 51) 23 rfl w3.heap.size 31 i1 _ Try.underlying23 hi1 hy0 hy1 hy2 rfl (.slice (some ⟨(w3.heap.size + 1), 0, none⟩) 0 0) 0 [] rfl (own_litE1 w3.drew _ _ _ 1 (Nat.le_refl _)) A net.length c _ _ hs rfl (HRW.out ((w3.drew.alloc (.cells #[.int .i64 fr, .int .i64 t, .int .i64 t, .int .i64 s, .int .i64 (t + 9), .int .i64 (t + 9)] 30)).alloc (.cells #[] 31)) (below_alloc (below_alloc hbD _) _)) HHL.out HO.out (by omega) (below_alloc (below_alloc hbD _) _).size ?_; intro PA cA wA hownA hgA hPA; have hbA : Below w3.heap.size w3 wA := below_grown (below_alloc (below_alloc hbD _) _) (below_alloc (below_alloc hbD _) _).size (own_litE1 w3.drew _ _ _ 1 (Nat.le_refl _) : World.ownsRow ((w3.drew.alloc (.cells #[.int .i64 fr, .int .i64 t, .int .i64 t, .int .i64 s, .int .i64 (t + 9), .int .i64 (t + 9)] 30)).alloc (.cells #[] 31)) w3.heap.size 31 1 (.slice (some ⟨(w3.heap.size + 1), 0, none⟩) 0 0) 0 []) (Nat.le_refl _) hgA; have hbAs := hbA.size; simp only [Nat.zero_add, List.nil_append] at hownA hPA ⊢; have hRR : Rd wA w3.heap.size (w3.heap.size + 1) (some ⟨w3.heap.size, 0, none⟩) (flat3 [((fr, t, t) : T3), ((s, t + 9, t + 9) : T3)]) := Rd.grownNe ((Rd_two w3.drew ((fr, t, t) : T3) ((s, t + 9, t + 9) : T3) _).alloc1 (by simp) _) hgA (by first | (simp; done) | (simp; omega) | omega) (by omega); have hNE := first_ne (r := w3.heap.size) hPA (by omega) (by first | (simp; done) | (simp; omega) | omega); have hRl : w3.heap.size + 1 ≤ wA.heap.size := Nat.le_trans (by first | (simp; done) | (simp; omega) | omega) hgA.size; clear hgA hPA)
        | (refine step_appendH rfl (.tmp 50) (.tmp 51) 23 rfl w3.heap.size 31 i1 _ Try.underlying23 hi1 hy0 hy1 hy2 rfl (.slice (some ⟨(w3.heap.size + 1), 0, none⟩) 0 0) 0 [] rfl ((own_litE1 w3.drew _ _ _ 1 (Nat.le_refl _)).alloc _) A net.length c _ _ hs rfl (HRW.out (((w3.drew.alloc (.cells #[.int .i64 fr, .int .i64 t, .int .i64 t, .int .i64 s, .int .i64 (t + 9), .int .i64 (t + 9)] 30)).alloc (.cells #[] 31)).alloc (.cells #[.slice (some ⟨w3.heap.size, 0, none⟩) 2 2] 31)) (below_alloc (below_alloc (below_alloc hbD _) _) _)) HHL.out HO.out (by omega) (below_alloc (below_alloc (below_alloc hbD _) _) _).size ?_; intro PA cA wA hownA hgA hPA; have hbA : Below w3.heap.size w3 wA := below_grown (below_alloc (below_alloc (below_alloc hbD _) _) _) (below_alloc (below_alloc (below_alloc hbD _) _) _).size ((own_litE1 w3.drew _ _ _ 1 (Nat.le_refl _)).alloc _ : World.ownsRow (((w3.drew.alloc (.cells #[.int .i64 fr, .int .i64 t, .int .i64 t, .int .i64 s, .int .i64 (t + 9), .int .i64 (t + 9)] 30)).alloc (.cells #[] 31)).alloc (.cells #[.slice (some ⟨w3.heap.size, 0, none⟩) 2 2] 31)) w3.heap.size 31 1 (.slice (some ⟨(w3.heap.size + 1), 0, none⟩) 0 0) 0 []) (Nat.le_refl _) hgA; have hbAs := hbA.size; simp only [Nat.zero_add, List.nil_append] at hownA hPA ⊢; have hRR : Rd wA w3.heap.size (w3.heap.size + 1) (some ⟨w3.heap.size, 0, none⟩) (flat3 [((fr, t, t) : T3), ((s, t + 9, t + 9) : T3)]) := Rd.grownNe (((Rd_two w3.drew ((fr, t, t) : T3) ((s, t + 9, t + 9) : T3) _).alloc1 (by simp) _).alloc1 (by simp) _) hgA (by first | (simp; done) | (simp; omega) | omega) (by omega); have hNE := first_ne (r := w3.heap.size) hPA (by omega) (by first | (simp; done) | (simp; omega) | omega); have hRl : w3.heap.size + 1 ≤ wA.heap.size := Nat.le_trans (by first | (simp; done) | (simp; omega) | omega) hgA.size; have hHH : Rd wA (w3.heap.size + 2) ((w3.heap.size + 2) + 1) (some ⟨(w3.heap.size + 2), 0, none⟩) [.slice (some ⟨w3.heap.size, 0, none⟩) 2 2] := Rd.grownNe (Rd_lit3 w3.drew (.cells #[.int .i64 fr, .int .i64 t, .int .i64 t, .int .i64 s, .int .i64 (t + 9), .int .i64 (t + 9)] 30) (.cells #[] 31) _ _) hgA (by first | (simp; done) | (simp; omega) | omega) (by omega); clear hgA hPA)
        | (refine step_appendH rfl (.tmp 50) (.tmp 51) 23 rfl w3.heap.size 31 i1 _ Try.underlying23 hi1 hy0 hy1 hy2 rfl (.slice (some ⟨(w3.heap.size + 2), 0, none⟩) 0 0) 0 [] rfl (own_litE2 w3.drew _ _ _ _ 1 (Nat.le_refl _)) A net.length c _ _ hs rfl (HRW.out (((w3.drew.alloc (.cells #[.int .i64 fr, .int .i64 t, .int .i64 t, .int .i64 s, .int .i64 (t + 9), .int .i64 (t + 9)] 30)).alloc (.cells #[.slice (some ⟨w3.heap.size, 0, none⟩) 2 2] 31)).alloc (.cells #[] 31)) (below_alloc (below_alloc (below_alloc hbD _) _) _)) HHL.out HO.out (by omega) (below_alloc (below_alloc (below_alloc hbD _) _) _).size ?_; intro PA cA wA hownA hgA hPA; have hbA : Below w3.heap.size w3 wA := below_grown (below_alloc (below_alloc (below_alloc hbD _) _) _) (below_alloc (below_alloc (below_alloc hbD _) _) _).size (own_litE2 w3.drew _ _ _ _ 1 (Nat.le_refl _) : World.ownsRow (((w3.drew.alloc (.cells #[.int .i64 fr, .int .i64 t, .int .i64 t, .int .i64 s, .int .i64 (t + 9), .int .i64 (t + 9)] 30)).alloc (.cells #[.slice (some ⟨w3.heap.size, 0, none⟩) 2 2] 31)).alloc (.cells #[] 31)) w3.heap.size 31 1 (.slice (some ⟨(w3.heap.size + 2), 0, none⟩) 0 0) 0 []) (Nat.le_refl _) hgA; have hbAs := hbA.size; simp only [Nat.zero_add, List.nil_append] at hownA hPA ⊢; have hRR : Rd wA w3.heap.size (w3.heap.size + 1) (some ⟨w3.heap.size, 0, none⟩) (flat3 [((fr, t, t) : T3), ((s, t + 9, t + 9) : T3)]) := Rd.grownNe (((Rd_two w3.drew ((fr, t, t) : T3) ((s, t + 9, t + 9) : T3) _).alloc1 (by simp) _).alloc1 (by simp) _) hgA (by first | (simp; done) | (simp; omega) | omega) (by omega); have hNE := first_ne (r := w3.heap.size) hPA (by omega) (by first | (simp; done) | (simp; omega) | omega); have hRl : w3.heap.size + 1 ≤ wA.heap.size := Nat.le_trans (by first | (simp; done) | (simp; omega) | omega) hgA.size; have hHH : Rd wA (w3.heap.size + 1) ((w3.heap.size + 1) + 1) (some ⟨(w3.heap.size + 1), 0, none⟩) [.slice (some ⟨w3.heap.size, 0, none⟩) 2 2] := Rd.grownNe ((Rd_lit2 w3.drew (.cells #[.int .i64 fr, .int .i64 t, .int .i64 t, .int .i64 s, .int .i64 (t + 9), .int .i64 (t + 9)] 30) _ _).alloc1 (by simp) _) hgA (by first | (simp; done) | (simp; omega) | omega) (by omega); clear hgA hPA)
        | (refine step_appendH rfl (.tmp 52) (.tmp 67) 23 rfl w3.heap.size 31 i1 _ Try.underlying23 hi1 hy0 hy1 hy2 rfl (.slice PA net.length cA) net.length hs rfl ((hownA.alloc _).alloc _) (some ⟨wA.heap.size + 1, 0, none⟩) 1 1 _ _ [.slice (some ⟨wA.heap.size, 0, none⟩) 2 2] rfl (Rd_lit2 wA _ _ _) rfl (by simp [Value.oneCell']) (by omega) (by first | omega | (simp; omega)) ?_; intro PZ cZ wZ hownZ hgZ hPZ; have hFIN := more_rd (x := ((fr, t, t) : T3)) (y := ((s, t + 9, t + 9) : T3)) HH.out hbA hownA hgZ hownZ; obtain ⟨hbZ, hMR⟩ := hFIN; clear hownZ hgZ hPZ hownA hbA)
        | (refine step_appendH rfl (.tmp 52) (.tmp 67) 23 rfl w3.heap.size 31 i1 _ Try.underlying23 hi1 hy0 hy1 hy2 rfl (.slice PA net.length cA) net.length hs rfl (hownA.alloc _) (some ⟨wA.heap.size, 0, none⟩) 1 1 _ _ [.slice (some ⟨w3.heap.size, 0, none⟩) 2 2] rfl (Rd.lit wA _ _) rfl (by simp [Value.oneCell']) (by omega) (by first | omega | (simp; omega)) ?_; intro PZ cZ wZ hownZ hgZ hPZ; have hFIN := more_rd2 (x := ((fr, t, t) : T3)) (y := ((s, t + 9, t + 9) : T3)) HH.out (below_alloc hbA _) (hownA.alloc _) (hRR.alloc1 (by omega) _) (by simp; omega) hNE hgZ hownZ; obtain ⟨hbZ, hMR⟩ := hFIN; clear hownZ hgZ hPZ hownA hbA)
        | (refine step_appendH rfl (.tmp 52) (.tmp 67) 23 rfl w3.heap.size 31 i1 _ Try.underlying23 hi1 hy0 hy1 hy2 rfl (.slice PA net.length cA) net.length hs rfl (hownA.alloc _) (some ⟨wA.heap.size, 0, none⟩) 1 1 _ _ [.slice (some ⟨(w3.heap.size + 1), 0, none⟩) 2 2] rfl (Rd.lit wA _ _) rfl (by simp [Value.oneCell']) (by omega) (by first | omega | (simp; omega)) ?_; intro PZ cZ wZ hownZ hgZ hPZ; have hFIN := more_rd2 (x := ((fr, t, t) : T3)) (y := ((s, t + 9, t + 9) : T3)) HH.out (below_alloc hbA _) (hownA.alloc _) (hRR.alloc1 (by omega) _) (by simp; omega) hNE hgZ hownZ; obtain ⟨hbZ, hMR⟩ := hFIN; clear hownZ hgZ hPZ hownA hbA)
        | (refine step_appendH rfl (.tmp 52) (.tmp 67) 23 rfl w3.heap.size 31 i1 _ Try.underlying23 hi1 hy0 hy1 hy2 rfl (.slice PA net.length cA) net.length hs rfl (hownA) (some ⟨(w3.heap.size + 2), 0, none⟩) 1 1 _ _ [.slice (some ⟨(w3.heap.size + 1), 0, none⟩) 2 2] rfl (hHH) rfl (by simp [Value.oneCell']) (by omega) (by first | omega | (simp; omega)) ?_; intro PZ cZ wZ hownZ hgZ hPZ; have hFIN := more_rd2 (x := ((fr, t, t) : T3)) (y := ((s, t + 9, t + 9) : T3)) HH.out hbA hownA hRR (by omega) hNE hgZ hownZ; obtain ⟨hbZ, hMR⟩ := hFIN; clear hownZ hgZ hPZ hownA hbA)
        | (refine step_appendH rfl (.tmp 52) (.tmp 67) 23 rfl w3.heap.size 31 i1 _ Try.underlying23 hi1 hy0 hy1 hy2 rfl (.slice PA net.length cA) net.length hs rfl (hownA) (some ⟨(w3.heap.size + 2), 0, none⟩) 1 1 _ _ [.slice (some ⟨w3.heap.size, 0, none⟩) 2 2] rfl (hHH) rfl (by simp [Value.oneCell']) (by omega) (by first | omega | (simp; omega)) ?_; intro PZ cZ wZ hownZ hgZ hPZ; have hFIN := more_rd2 (x := ((fr, t, t) : T3)) (y := ((s, t + 9, t + 9) : T3)) HH.out hbA hownA hRR (by omega) hNE hgZ hownZ; obtain ⟨hbZ, hMR⟩ := hFIN; clear hownZ hgZ hPZ hownA hbA)
        | (refine step_appendH rfl (.tmp 52) (.tmp 67) 23 rfl w3.heap.size 31 i1 _ Try.underlying23 hi1 hy0 hy1 hy2 rfl (.slice PA net.length cA) net.length hs rfl (hownA) (some ⟨(w3.heap.size + 1), 0, none⟩) 1 1 _ _ [.slice (some ⟨w3.heap.size, 0, none⟩) 2 2] rfl (hHH) rfl (by simp [Value.oneCell']) (by omega) (by first | omega | (simp; omega)) ?_; intro PZ cZ wZ hownZ hgZ hPZ; have hFIN := more_rd2 (x := ((fr, t, t) : T3)) (y := ((s, t + 9, t + 9) : T3)) HH.out hbA hownA hRR (by omega) hNE hgZ hownZ; obtain ⟨hbZ, hMR⟩ := hFIN; clear hownZ hgZ hPZ hownA hbA))
    all_goals
      go_wp2_with fail
      go_meet
      exact ⟨PZ, cZ, rfl, Lib.hid (by rw [HMC.out]; exact hMR), hbZ⟩
  case rest =>
    obtain ⟨PZ, cZ, rfl, HMR, hbZ⟩ := hcut
    replace r_N := r_N.below hbZ
    replace hb := hb.trans (hbZ.mono hb.size)
    have r_M := HMR.out
    have HLM := Lib.hid (show (net ++ [moreC n fr t]).length = net.length + 1 by simp)
    have HSM := Lib.hid (show netSize (net ++ [moreC n fr t]) ≤ 1048576 by
      rw [netSize_snoc]; have := r_N.size; simp [moreC]; omega)
    clear HMR hbZ HH HO HRW HHL hbD hzD hD ms m2s ws wf w9 hnz hnz2
    go_wp2_with fail
    refine (iPostArrive_any n _ _ _ net fr g t (ch - 1) _ (Nat.le_trans r_N.size (by omega)) r_N.2.2 (Nat.le_refl _)).mono ?_
    rintro e w5 ⟨rfl, hs⟩
    replace r_N := r_N.below hs
    replace r_M := (r_M.below hs (Nat.le_refl _)).more (Nat.le_refl _) hs.size
    replace hb := hb.trans (hs.mono hb.size)
    clear hs
    rw [← HX.out]
    go_wp2_with fail
    refine (iPA_len n PZ cZ _ (net ++ [moreC n fr t]) (net.length + 1) HLM.out fr g t ch _ HSM.out r_M (Nat.le_refl _)).mono ?_
    rintro e w6 ⟨rfl, hs⟩
    replace r_N := r_N.below hs
    replace r_M := (r_M.below hs (Nat.le_refl _)).more (Nat.le_refl _) hs.size
    replace hb := hb.trans (hs.mono hb.size)
    clear hs
    rw [← HY.out]
    have d0 : decide (t ≤ V) = true := decide_eq_true hvt
    by_cases hc0 : ch = 0
    · have c0 : (ch == 0) = true := by simp [hc0]
      clear hc0
      go_wp2_with fail
      refine (iNV_len n PZ cZ _ _ (net ++ [moreC n fr t]) (net.length + 1) HLM.out _ HSM.out r_M (Nat.le_refl _)).mono ?_
      rintro e wq ⟨rfl, hs9⟩
      have hbb := hb.trans (hs9.mono hb.size)
      clear hs9
      rw [← HB.out]
      cases B
      · have e3 := HL3.out
        by_cases hfg : fr = g
        · have e1 : (fr == g) = true := by simp [hfg]
          have e2 : (V == t) = true := e3.trans e1
          clear hfg e3
          go_wp2_with fail
          go_ret
          exact ⟨rfl, hbb⟩
        · have e1 : (fr == g) = false := by simp [hfg]
          have e2 : (V == t) = false := e3.trans e1
          clear hfg e3
          go_wp2_with fail
          go_ret
          exact ⟨rfl, hbb⟩
      · obtain ⟨y0, y1⟩ := HL2.out rfl
        have d3 : decide (0 ≤ Y) = true := decide_eq_true y0
        have d4 : decide (Y ≤ V) = true := decide_eq_true y1
        have e3 := HL3.out
        by_cases hfg : fr = g
        · have e1 : (fr == g) = true := by simp [hfg]
          have e2 : (V == t) = true := e3.trans e1
          clear hfg e3
          go_wp2_with fail
          go_ret
          exact ⟨rfl, hbb⟩
        · have e1 : (fr == g) = false := by simp [hfg]
          have e2 : (V == t) = false := e3.trans e1
          clear hfg e3
          go_wp2_with fail
          go_ret
          exact ⟨rfl, hbb⟩
    · have c0 : (ch == 0) = false := by simp [hc0]
      obtain ⟨x0, x1⟩ := HL1.out hc0
      have d1 : decide (0 ≤ X) = true := decide_eq_true x0
      have d2 : decide (X ≤ V) = true := decide_eq_true x1
      clear hc0
      go_wp2_with fail
      refine (iNV_len n PZ cZ _ _ (net ++ [moreC n fr t]) (net.length + 1) HLM.out _ HSM.out r_M (Nat.le_refl _)).mono ?_
      rintro e wq ⟨rfl, hs9⟩
      have hbb := hb.trans (hs9.mono hb.size)
      clear hs9
      rw [← HB.out]
      cases B
      · have e3 := HL3.out
        by_cases hfg : fr = g
        · have e1 : (fr == g) = true := by simp [hfg]
          have e2 : (V == t) = true := e3.trans e1
          clear hfg e3
          go_wp2_with fail
          go_ret
          exact ⟨rfl, hbb⟩
        · have e1 : (fr == g) = false := by simp [hfg]
          have e2 : (V == t) = false := e3.trans e1
          clear hfg e3
          go_wp2_with fail
          go_ret
          exact ⟨rfl, hbb⟩
      · obtain ⟨y0, y1⟩ := HL2.out rfl
        have d3 : decide (0 ≤ Y) = true := decide_eq_true y0
        have d4 : decide (Y ≤ V) = true := decide_eq_true y1
        have e3 := HL3.out
        by_cases hfg : fr = g
        · have e1 : (fr == g) = true := by simp [hfg]
          have e2 : (V == t) = true := e3.trans e1
          clear hfg e3
          go_wp2_with fail
          go_ret
          exact ⟨rfl, hbb⟩
        · have e1 : (fr == g) = false := by simp [hfg]
          have e2 : (V == t) = false := e3.trans e1
          clear hfg e3
          go_wp2_with fail
          go_ret
          exact ⟨rfl, hbb⟩

set_option maxRecDepth 100000 in
theorem postChange_lifted (os : Os) (started : os.Started) (H : Type) (enc : TypeId × Value → H) :
    ReturnsInHanded {} Try.checked os 8 .any (Rows.fnPostChangeSpec.pre6 enc Try.prog Try.f8 Rows.fnPostChangeRow.domain false) (Rows.fnPostChangeSpec.post enc Try.prog Try.f8 false true false false) := by
  refine returnsInHanded_of_change (C := Try.checked) prog_own started (by kernel_rfl) Try.func8
    (ChangeSpec.witness6 (enc := enc) (C := Try.checked) false ⟨#[], #[.slice none 0 0], []⟩ 8 (by kernel_rfl) (by kernel_rfl) (by kernel_rfl) (by kernel_rfl)) ?_
  intro W base args ds gs before hval0 hW hcnd _
  have hval : ∀ (j : Nat) t v, Try.f8.params[j]? = some t → args[j]? = some v → Value.okWide Try.prog W .any base t v := hval0
  have hW' := hW
  obtain ⟨p, q, hA0, hV, rfl, hfz, hnd⟩ := hW
  have hA : DataW.TrodAll enc Try.prog W 0 (fun _ => true) true Try.f8.params.toList args.toList ds p := hA0
  rw [Try.params8] at hA hval
  obtain ⟨v0, vs0, d0, ds0, p0, q0, hargs, rfl, rfl, h0, r0⟩ := trodAll_cons hA
  obtain ⟨rfl, rfl, rfl⟩ := trodAll_nil r0
  obtain rfl : args = #[v0] := by cases args; simp_all
  obtain ⟨rfl, rfl⟩ := trodVars_none hV
  obtain ⟨a0, len0, cap0, rfl⟩ := okWide_slice Try.underlying22 (hval 0 22 v0 rfl rfl)
  have k0 := h0
  have lt0 : ∀ x ∈ p0, x.block < W.heap.size := by obtain ⟨m, hm⟩ := k0; exact DataW.trod_lt m _ _ _ hm
  obtain ⟨fuel0, hf0⟩ := h0
  obtain ⟨bs0, hm0, hb0, hc0⟩ := open_b1 Try.underlying22 Try.underlying5 (by kernel_rfl) hf0
  clear hA0 hval0
  refine (postChange_any a0 cap0 len0 bs0 W hm0 hb0 hc0).mono fun e W' ⟨he, bel⟩ => ?_
  subst he
  exact ⟨_, rfl, _, _, _, [], _, [], hW', trodAll_mk1 (shut_bool Try.underlying4 _), (trodAll_cons_mk (Below.trod prog_laidOut (by kernel_rfl) (of_decide_eq_true (by kernel_rfl)) k0 bel lt0) trodAll_mk0), rfl, bel.frame _, fun h => by cases h⟩

theorem postChange_holds : Rows.FnPostChangeSaid :=
  OpenClaim.holds_of_wide 8 Try.f8 rfl rfl rfl rfl rfl rfl rfl ⟨rfl, rfl, rfl, rfl, rfl⟩ rfl rfl rfl rfl rfl (by kernel_rfl) Try.func8 (by kernel_rfl)
    (of_decide_eq_true (by kernel_rfl)) (by unfold Func.isWrapper; first | (rw [if_pos (by decide +kernel)]; kernel_rfl) | (rw [if_neg (by decide +kernel)]; exact ⟨rfl, rfl⟩))
    (fun os started H enc _ => postChange_lifted os started H enc)

end Go.Proofs.Ytdiichfdffhdaaa

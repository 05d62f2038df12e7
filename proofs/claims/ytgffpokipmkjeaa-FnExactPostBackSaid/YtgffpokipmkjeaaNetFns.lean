/-
  Contracts on nets: the law's helpers (count, copy, compare), NetValid of the reference and of the program.
-/
import Derived.Test.YtgffpokipmkjeaaNet
import Derived.Test.YtgffpokipmkjeaaStopsS
import Derived.Test.YtgffpokipmkjeaaStopsI
namespace Go.Proofs.Ytgffpokipmkjeaa
open Go.RowKit

def szV (left : Int) (s : Nat) : Int := if left < s then -1 else left - s
set_option maxHeartbeats 1000000 in
theorem szStopSS_any (A : Option Addr) (c lo hi : Nat) (net : Net) (left : Int) (w : World) (h : net.length ≤ maxLen) (hin : ∀ l ∈ net, l.length ≤ maxLen) (hr : RdN w lo hi A net) (h0 : 0 ≤ left) (h1 : left ≤ 1048576) :
    Calls Try.prog 13 #[.slice A net.length c, .int .i64 left] w fun e w' => e = .returned (.int .i64 (szV left (netSize net))) ∧ w = w' := by
  unfold maxLen at h
  by_cases hlt : left < net.length
  · have hres := Lib.hid (show szV left (netSize net) = -1 by rw [szV, if_pos (by unfold netSize; omega)])
    go_enter Try.func13, Try.ntmps13
    go_wp2_with fail
    go_ret
    exact ⟨ret_int hres.out.symm, rfl⟩
  · have hlt' : (net.length : Int) ≤ left := by omega
    clear hlt
    have HIN := Lib.hid hin
    clear hin
    go_enter Try.func13, Try.ntmps13
    go_wp2_with fail
    go_loop [1, 5] (fun q i => ∃ k : Nat, k ≤ net.length ∧ i = .int .i64 k ∧ q = .int .i64 (left - net.length - netSum (net.take k)) ∧ (netSum (net.take k) : Int) ≤ left - net.length) (fun _ i => net.length - (intOf i).toNat)
    case atStart => exact ⟨0, Nat.zero_le _, rfl, by simp [netSum], by simp [netSum]; omega⟩
    case round =>
      obtain ⟨k, hk, rfl, rfl, hs⟩ := hrel
      by_cases hkl : k < net.length
      · obtain ⟨b, off, B, cc, rfl, _, _, c0, hc, _⟩ := hr k hkl
        have hm := HIN.out net[k] (List.getElem_mem hkl)
        have hq0 : 0 ≤ left - net.length - netSum (net.take k) := by omega
        have hq1 : left - net.length - netSum (net.take k) ≤ 1048576 := by omega
        have hts := netSum_take_succ net k hkl
        have htl := netSum_take_le net (k + 1)
        by_cases hbig : left - net.length - netSum (net.take k) < (net[k].length : Int)
        · have hres := Lib.hid (show szV left (netSize net) = -1 by rw [szV, if_pos (by unfold netSize; omega)])
          have HB := Lib.hid hbig
          clear hts htl hbig
          generalize hq : left - net.length - netSum (net.take k) = q at *
          generalize net[k].length = m at *
          clear hq
          go_wp2_with fail
          refine (szStopS_any _ _ _ _ _ hm (by omega) (by omega)).mono ?_
          rw [if_pos HB.out]
          rintro e w1 ⟨rfl, rfl⟩
          go_wp2_with fail
          go_ret
          exact ⟨ret_int hres.out.symm, rfl⟩
        · have hq2 : left - net.length - netSum (net.take (k + 1)) = left - net.length - netSum (net.take k) - (net[k].length : Int) := by omega
          have HQ2 := Lib.hid hq2
          have hle2 : (netSum (net.take (k + 1)) : Int) ≤ left - net.length := by omega
          have hge : (0 : Int) ≤ left - net.length - netSum (net.take k) - (net[k].length : Int) := by omega
          clear hts htl hq2
          generalize hq : left - net.length - netSum (net.take k) = q at *
          generalize net[k].length = m at *
          clear hq
          go_wp2_with fail
          refine (szStopS_any _ _ _ _ _ hm (by omega) (by omega)).mono ?_
          rw [if_neg (by omega)]
          rintro e w1 ⟨rfl, rfl⟩
          clear hbig
          go_wp2_with fail
          go_round
          case rel => exact ⟨k + 1, by omega, by go_num, by rw [HQ2.out], hle2⟩
          case measure => simp [intOf]; omega
      · have hres := Lib.hid (show szV left (netSize net) = left - net.length - netSum (net.take k) by
          rw [List.take_of_length_le (by omega)] at hs ⊢
          rw [szV, if_neg (by unfold netSize; omega)]; unfold netSize; omega)
        generalize hq : left - net.length - netSum (net.take k) = q at *
        clear hq
        go_wp2_with fail
        go_ret
        exact ⟨ret_int hres.out.symm, rfl⟩
def RetN (E EH : TypeId) (net : Net) (w : World) (e : Ending) (w' : World) : Prop :=
  ∃ A c, e = .returned (.slice A net.length c) ∧ OwnN w' w.heap.size E EH (.slice A net.length c) net ∧ Below w.heap.size w w'
theorem infoStops : (Try.prog.info? 38).map (fun i => (i.zero, i.size, i.bytes)) = some (some (.slice none 0 0), 1, 24) := by kernel_rfl
def toNRel (w wr : World) (E EH : TypeId) (net : Net) (k : Nat) : Prop :=
  ∃ hs : List Value, wr.ownsRow w.heap.size EH 1 (.slice (some ⟨w.heap.size, 0, none⟩) net.length net.length) net.length (hs ++ List.replicate (net.length - k) (.slice none 0 0)) ∧ OwnRows wr w.heap.size E hs (net.take k) ∧ (blks (.slice (some ⟨w.heap.size, 0, none⟩) net.length net.length :: hs)).Nodup
set_option maxHeartbeats 1000000 in
theorem toStopSS_any (A : Option Addr) (c lo hi : Nat) (net : Net) (w : World) (hl : netSize net ≤ 1048576) (hr : RdN w lo hi A net) (hh : hi ≤ w.heap.size) :
    Calls Try.prog 15 #[.slice A net.length c] w (RetN 65 38 net w) := by
  obtain ⟨i0, hi0, hz0, hz1, hz2⟩ := info_parts infoStops
  have hln : net.length ≤ 1048576 := by unfold netSize at hl; omega
  have hc1 : i0.bytes * net.length ≤ 281474976710656 := by rw [hz2]; omega
  have hc2 : net.length ≤ maxLen := by simp only [maxLen]; omega
  go_enter Try.func15, Try.ntmps15
  go_wp2_with (first | (at_make; go_must (refine wpList_make_full _ rfl _ _ 27 rfl w.heap.size 38 i0 _ 1 Try.underlying27 hi0 hz0 hz1 _ _ _ _ net.length rfl rfl rfl rfl hc1 hc2 (Nat.le_refl _) ?_); intro w1 hown hg))
  have hown' : w1.ownsRow w.heap.size 38 1 (.slice (some ⟨w.heap.size, 0, none⟩) net.length net.length) net.length (List.replicate net.length (.slice none 0 0)) := by
    rw [made_nil] at hown; exact hown
  have hb1 : Below w.heap.size w w1 := (Below.refl _ _).grown hg (Nat.le_refl _) (by simp)
  clear hg hown
  go_loopw [4] (fun i wr => ∃ k : Nat, k ≤ net.length ∧ i = .int .i64 k ∧ toNRel w wr 65 38 net k ∧ Below w.heap.size w wr) (fun i _ => net.length - (intOf i).toNat)
  case atStart => exact ⟨0, Nat.zero_le _, rfl, ⟨[], by simpa using hown', trivial, by simp [blks, Value.ownBlock]⟩, hb1⟩
  case round =>
    obtain ⟨k, hk, rfl, ⟨hs, h1, h2, h3⟩, hb⟩ := hrel
    clear hown' hb1
    have hbs := hb.size
    by_cases hlt : k < net.length
    · obtain ⟨b, off, B, cc, rfl, _, _, c0, hc, hrk⟩ := (hr.below hb hh) k hlt
      have hlk : net[k].length ≤ 1048576 := by have := netSum_get net k hlt; unfold netSize at hl; omega
      have hhs : hs.length = k := by rw [h2.len, List.length_take]; omega
      have htk := Lib.hid (List.take_succ_eq_append_getElem hlt)
      have H1 := Lib.hid h1
      have H2 := Lib.hid h2
      have H3 := Lib.hid h3
      have HHS := Lib.hid hhs
      clear h1 h2 h3 hhs
      generalize net[k] = l at *
      go_wp2_with fail
      refine (toStopS_any _ _ _ _ l _ hlk hrk (Nat.le_trans hh hbs)).mono ?_
      rintro e w2 ⟨A2, c2, rfl, ho2, hb2⟩
      have hb12 := hb.trans (hb2.mono hbs)
      have h1' := own_below H1.out hb2
      have hcl := h1'.cells (g := w.heap.size) rfl k (.slice none 0 0) (by
        rw [List.getElem?_append_right (by have := HHS.out; omega), HHS.out, Nat.sub_self, List.getElem?_replicate, if_pos (by omega)])
      rw [Addr.add_lit, Nat.zero_add] at hcl
      have hfz := h1'.frozenAt k
      have hst := Lib.hid ((h1'.stored k (.slice A2 l.length c2)).1)
      have HO2 := Lib.hid ho2
      clear c0 h1' ho2
      go_wp2
      go_roundw
      case rel =>
        refine ⟨k + 1, by omega, by go_num, ⟨hs ++ [.slice A2 l.length c2], ?_, ?_, ?_⟩, by (repeat (first | exact Below.refl _ _ | assumption | apply below_alloc | apply below_drewN | apply Below.drew | refine Below.setCell ?_ (by simp; try omega) _))⟩
        · have := hst.out
          rw [fill_next _ _ _ _ HHS.out hlt] at this
          exact this
        · rw [htk.out]
          have hn := List.nodup_cons.1 H3.out
          exact OwnRows.snoc ((H2.out.below hb2).setHead hn.1) ⟨_, _, rfl⟩ ((own_mono HO2.out hbs).kept (gr_setAny _ _ _ _) (by
            cases hv : (Value.slice A2 l.length c2).ownBlock with
            | none => exact .inl rfl
            | some g => refine .inr (fun e => ?_); have := (HO2.out.lt g hv).1; have := (own_lt H1.out).2; injection e with e; omega))
        · have e : (Value.slice (some ⟨w.heap.size, 0, none⟩) net.length net.length :: (hs ++ [Value.slice A2 l.length c2])) = (Value.slice (some ⟨w.heap.size, 0, none⟩) net.length net.length :: hs) ++ [Value.slice A2 l.length c2] := rfl
          rw [e, blks_append]
          refine nodup_snoc H3.out ?_ HO2.out
          intro b hb'
          simp only [blks, List.filterMap_cons, Value.ownBlock, List.mem_cons] at hb'
          rcases hb' with rfl | hb'
          · exact (own_lt H1.out).2
          · exact H2.out.lt b hb'
      case measure => simp [intOf]; omega
    · have hkl : k = net.length := by omega
      subst hkl
      have hfin : OwnN wr w.heap.size 65 38 (.slice (some ⟨w.heap.size, 0, none⟩) net.length net.length) net := ⟨hs, by simpa using h1, by simpa using h2, h3⟩
      clear h1 h2 h3
      go_wp2
      go_ret
      exact ⟨_, _, rfl, hfin, hb⟩
set_option maxHeartbeats 1000000 in
theorem eqStopSS_any (A B : Option Addr) (c d lo hi lo' hi' : Nat) (l m : Net) (w : World) (hl : netSize l ≤ 1048576) (hm : netSize m ≤ 1048576) (hr : RdN w lo hi A l) (hh : hi ≤ w.heap.size) (hr' : RdN w lo' hi' B m) (hh' : hi' ≤ w.heap.size) :
    Calls Try.prog 18 #[.slice A l.length c, .slice B m.length d] w fun e w' => e = .returned (.bool (decide (l = m))) ∧ Below w.heap.size w w' := by
  have hln : l.length ≤ 1048576 := by unfold netSize at hl; omega
  have hlm : m.length ≤ 1048576 := by unfold netSize at hm; omega
  by_cases hlen : l.length = m.length
  case neg =>
    have hres := Lib.hid (show decide (l = m) = false from decide_eq_false (fun h => hlen (by rw [h])))
    have hne : ((l.length : Int) != (m.length : Int)) = true := by simp; omega
    clear hlen
    go_enter Try.func18, Try.ntmps18
    go_wp2
    go_ret
    exact ⟨ret_bool hres.out.symm, by (repeat (first | exact Below.refl _ _ | assumption | apply below_alloc | apply below_drewN | apply Below.drew | refine Below.setCell ?_ (by simp; try omega) _))⟩
  case pos =>
    have hne : ((l.length : Int) != (m.length : Int)) = false := by simp; omega
    have hle : l.length ≤ m.length := by omega
    have HL := Lib.hid hlen
    clear hlen
    go_enter Try.func18, Try.ntmps18
    go_wp2
    go_loopw [5] (fun i wr => ∃ k : Nat, k ≤ l.length ∧ i = .int .i64 k ∧ Hid (l.take k = m.take k) ∧ Below w.heap.size w wr) (fun i _ => l.length - (intOf i).toNat)
    case atStart => exact ⟨0, Nat.zero_le _, rfl, by simp [Hid], Below.refl _ _⟩
    case round =>
      obtain ⟨k, hk, rfl, H, hb⟩ := hrel
      have hbs := hb.size
      by_cases hlt : k < l.length
      · have hlt' : k < m.length := by omega
        obtain ⟨b, off, B1, cc, rfl, hlo, hhi, c0, hc, hrk⟩ := (hr.below hb hh) k hlt
        obtain ⟨b', off', B2, cc', rfl, hlo', hhi', d0, hc', hrk'⟩ := (hr'.below hb hh') k hlt'
        have hyl : m[k].length ≤ 1048576 := by have := netSum_get m k hlt'; unfold netSize at hm; omega
        obtain ⟨x, hx⟩ : ∃ x, x = l[k] := ⟨_, rfl⟩
        obtain ⟨y, hy⟩ : ∃ y, y = m[k] := ⟨_, rfl⟩
        rw [← hx] at c0 hrk
        rw [← hy] at d0 hyl hrk'
        have HX := Lib.hid hx
        have HY := Lib.hid hy
        clear hx hy
        have hbw : b < wr.heap.size := by omega
        have hbw' : b' < wr.heap.size := by omega
        have hk0 : (0 : Int) ≤ (k : Int) := by omega
        have hk1 : (k : Int) < (l.length : Int) := by omega
        have hk2 : (k : Int) < (m.length : Int) := by omega
        have HR := Lib.hid hrk
        have HR' := Lib.hid hrk'
        clear hrk hrk'
        by_cases hxy : x = y
        · have hd : decide (x = y) = true := decide_eq_true hxy
          have hres := Lib.hid (show l.take (k + 1) = m.take (k + 1) by
            rw [List.take_succ_eq_append_getElem hlt, List.take_succ_eq_append_getElem hlt', H.out, ← HX.out, ← HY.out, hxy])
          clear hxy
          go_wp2
          go_region_held3 (fun w' => w'.cell? ⟨b, off + k, none⟩ = some (.slice B1 x.length cc) ∧ w'.cell? ⟨b', off' + k, none⟩ = some (.slice B2 y.length cc')) (go_keep)
            (first | (go_at_call 26; refine (eqStopS_any B1 B2 cc cc' _ _ _ _ x y _ hyl HR.out.drew (by simp; omega) HR'.out.drew (by simp; omega)).mono ?_; rintro e w2 ⟨rfl, hb2'⟩; have hb2 := below_of_drew hb2'; have hcb : ∀ b o, b < wr.heap.size → w2.cell? ⟨b, o, none⟩ = wr.cell? ⟨b, o, none⟩ := cell_below hb2))
          have hb3 : Below w.heap.size w w2 := hb.trans (hb2.mono hb.size)
          clear hcb
          go_wp2
          go_roundw
          case rel => exact ⟨k + 1, by omega, by go_num, hres, hb3⟩
          case measure => simp [intOf]; omega
        · have hd : decide (x = y) = false := decide_eq_false hxy
          have hres := Lib.hid (show decide (l = m) = false from decide_eq_false (fun h => hxy (by rw [HX.out, HY.out]; simp [h])))
          clear hxy
          go_wp2
          go_region_held3 (fun w' => w'.cell? ⟨b, off + k, none⟩ = some (.slice B1 x.length cc) ∧ w'.cell? ⟨b', off' + k, none⟩ = some (.slice B2 y.length cc')) (go_keep)
            (first | (go_at_call 26; refine (eqStopS_any B1 B2 cc cc' _ _ _ _ x y _ hyl HR.out.drew (by simp; omega) HR'.out.drew (by simp; omega)).mono ?_; rintro e w2 ⟨rfl, hb2'⟩; have hb2 := below_of_drew hb2'; have hcb : ∀ b o, b < wr.heap.size → w2.cell? ⟨b, o, none⟩ = wr.cell? ⟨b, o, none⟩ := cell_below hb2))
          have hb3 : Below w.heap.size w w2 := hb.trans (hb2.mono hb.size)
          clear hcb
          go_wp2
          go_ret
          exact ⟨ret_bool hres.out.symm, hb3⟩
      · have hres := Lib.hid (show decide (l = m) = true from decide_eq_true (by
          have h := H.out
          have hl := HL.out
          have hkl : k = l.length := by omega
          subst hkl
          rw [hl, List.take_length] at h
          rw [← hl, List.take_length] at h
          exact h))
        go_wp2
        go_ret
        exact ⟨ret_bool hres.out.symm, hb⟩
def netB (n : Int) (net : Net) : Bool := decide (1 ≤ n ∧ n ≤ 8 ∧ net.length ≤ 6) && net.all (stopsB n)
theorem netAll_take_succ {n : Int} {net : Net} (k : Nat) (hk : k < net.length) (h : (net.take k).all (stopsB n) = true) (hd : stopsB n net[k] = true) : (net.take (k + 1)).all (stopsB n) = true := by
  rw [List.take_succ_eq_append_getElem hk, List.all_append, h]; simp [hd]
theorem netAll_false {n : Int} {net : Net} (k : Nat) (hk : k < net.length) (hd : stopsB n net[k] = false) : netB n net = false := by
  have : net.all (stopsB n) = false := by rw [List.all_eq_false]; exact ⟨net[k], List.getElem_mem hk, by simp [hd]⟩
  rw [netB, this, Bool.and_false]

set_option maxHeartbeats 1000000 in
theorem sNetValid (n : Int) (A : Option Addr) (c lo hi : Nat) (net : Net) (w : World) (hl : netSize net ≤ 1048576) (hr : RdN w lo hi A net) (hh : hi ≤ w.heap.size) :
    Calls Try.prog 57 #[.int .i64 n, .slice A net.length c] w fun e w' => e = .returned (.bool (netB n net)) ∧ Below w.heap.size w w' := by
  have hln : net.length ≤ 1048576 := by unfold netSize at hl; omega
  go_enter Try.func57, Try.ntmps57
  go_wp2_with fail
  go_loopw [5] (fun i wr => ∃ k : Nat, k ≤ net.length ∧ i = .int .i64 k ∧ Hid ((net.take k).all (stopsB n) = true) ∧ Below w.heap.size w wr) (fun i _ => net.length - (intOf i).toNat)
  case atStart => exact ⟨0, Nat.zero_le _, rfl, by simp [Hid], Below.refl _ _⟩
  case round =>
    obtain ⟨k, hk, rfl, H, hb⟩ := hrel
    have hbs := hb.size
    by_cases hlt : k < net.length
    · obtain ⟨b, off, B, cc, rfl, _, _, c0, hc, hrk⟩ := (hr.below hb hh) k hlt
      have hlk : net[k].length ≤ 1048576 := by have := netSum_get net k hlt; unfold netSize at hl; omega
      have hno := Lib.hid (fun h => netAll_false (n := n) k hlt h)
      have hgo := Lib.hid (fun h => netAll_take_succ (n := n) k hlt H.out h)
      generalize net[k] = l at *
      go_wp2_with fail
      refine (sStopsValid n _ _ _ _ l _ hlk hrk (Nat.le_trans hh hbs)).mono ?_
      rintro e w1 ⟨rfl, hb1⟩
      have hb01 := hb.trans (hb1.mono hbs)
      cases hv : stopsB n l
      · have hres := Lib.hid (hno.out hv)
        clear hv hno hgo
        go_wp2_with fail
        go_ret
        exact ⟨ret_bool hres.out.symm, hb01⟩
      · have hres := Lib.hid (hgo.out hv)
        clear hv hno hgo
        go_wp2_with fail
        go_roundw
        case rel => exact ⟨k + 1, by omega, by go_num, hres, hb01⟩
        case measure => simp [intOf]; omega
    · have hres := Lib.hid (show netB n net = (inB n 1 8 && decide (net.length ≤ 6)) by
        have h := H.out
        rw [List.take_of_length_le (by omega)] at h
        rw [netB, h, Bool.and_true, inB]
        rw [Bool.eq_iff_iff]
        simp only [decide_eq_true_eq, Bool.and_eq_true]
        omega)
      go_wp2_with fail
      refine (l6In_any _ _ _ _).mono ?_
      rintro e w1 ⟨rfl, rfl⟩
      cases hv : inB n 1 8
      · have HV := Lib.hid hv
        clear hv
        go_wp2_with fail
        go_ret
        exact ⟨ret_bool (by rw [hres.out, HV.out]; rfl), hb⟩
      · have HV := Lib.hid hv
        clear hv
        go_wp2_with fail
        go_ret
        refine ⟨ret_bool ?_, hb⟩
        rw [hres.out, HV.out, Bool.true_and, Bool.eq_iff_iff]
        simp
        omega

set_option maxHeartbeats 1000000 in
theorem iNetValid (n : Int) (A : Option Addr) (c lo hi : Nat) (net : Net) (w : World) (hl : netSize net ≤ 1048576) (hr : RdN w lo hi A net) (hh : hi ≤ w.heap.size) :
    Calls Try.prog 60 #[.int .i64 n, .slice A net.length c] w fun e w' => e = .returned (.bool (netB n net)) ∧ Below w.heap.size w w' := by
  have hln : net.length ≤ 1048576 := by unfold netSize at hl; omega
  by_cases hs : 1 ≤ n ∧ n ≤ 8 ∧ net.length ≤ 6
  case neg =>
    have hres := Lib.hid (show netB n net = false by rw [netB, decide_eq_false hs, Bool.false_and])
    go_enter Try.func60, Try.ntmps60
    go_wp2_with fail
    all_goals first
      | (exfalso; omega)
      | (go_ret; exact ⟨ret_bool hres.out.symm, Below.refl _ _⟩)
  case pos =>
    have hall := Lib.hid (show netB n net = net.all (stopsB n) by rw [netB, decide_eq_true hs, Bool.true_and])
    obtain ⟨hn1, hn2, hn6⟩ := hs
    have hno0 := Lib.hid (fun k hk h => netAll_false (n := n) (net := net) k hk h)
    go_enter Try.func60, Try.ntmps60
    go_wp2_with fail
    go_loopw [20] (fun i wr => ∃ k : Nat, k ≤ net.length ∧ i = .int .i64 k ∧ Hid ((net.take k).all (stopsB n) = true) ∧ Below w.heap.size w wr) (fun i _ => net.length - (intOf i).toNat)
    case atStart => exact ⟨0, Nat.zero_le _, rfl, by simp [Hid], Below.refl _ _⟩
    case round =>
      obtain ⟨k, hk, rfl, H, hb⟩ := hrel
      have hbs := hb.size
      by_cases hlt : k < net.length
      · obtain ⟨b, off, B, cc, rfl, _, _, c0, hc, hrk⟩ := (hr.below hb hh) k hlt
        have hlk : net[k].length ≤ 1048576 := by have := netSum_get net k hlt; unfold netSize at hl; omega
        have hno := Lib.hid (fun h => hno0.out k hlt h)
        have hgo := Lib.hid (fun h => netAll_take_succ (n := n) k hlt H.out h)
        generalize net[k] = l at *
        go_wp2_with fail
        refine (iStopsValid n _ _ _ _ l _ hlk hrk (Nat.le_trans hh hbs)).mono ?_
        rintro e w1 ⟨rfl, hb1⟩
        have hb01 := hb.trans (hb1.mono hbs)
        cases hv : stopsB n l
        · have hres := Lib.hid (hno.out hv)
          clear hv hno hgo
          go_wp2_with fail
          go_ret
          exact ⟨ret_bool hres.out.symm, hb01⟩
        · have hres := Lib.hid (hgo.out hv)
          clear hv hno hgo
          go_wp2_with fail
          go_roundw
          case rel => exact ⟨k + 1, by omega, by go_num, hres, hb01⟩
          case measure => simp [intOf]; omega
      · have hres := Lib.hid (show netB n net = true by
          have h := H.out
          rw [List.take_of_length_le (by omega)] at h
          rw [hall.out, h])
        go_wp2_with fail
        go_ret
        exact ⟨ret_bool hres.out.symm, hb⟩

end Go.Proofs.Ytgffpokipmkjeaa

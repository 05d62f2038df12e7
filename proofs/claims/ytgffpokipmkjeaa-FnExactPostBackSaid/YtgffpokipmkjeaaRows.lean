/-
  No cell of these rows narrows 'for every input' (looked for: loops, veiled, ifaces, maps, wideKeys, modest, calm, conditions, laid).
  DERIVED. THE GIVEN ROWS OF THIS SEAT. 10 by the template 'for every input the law returns true; each argument reads behind the call as it read before'; 0 by the template 'total and deterministic' (their statements: YtgffpokipmkjeaaTotals.lean).
  GIVEN WITH THE SEED: the statements are not yours to turn. If you find one false, say at which input.
  Laid BY PROGRAM, IN A SANDBOX (cutbox-rows.mjs): the forced cells as the released guide's own fill.sh prints them over the translation 238489b380458d7a… (all of the seat's roots in one cut). By AI agents, Wed Nov 11 2026. No macro, syntax, notation, axiom, sorry.
-/
import Derived.Test.YtgffpokipmkjeaaChecked
import GoSem.Claim
import GoSem.ClaimJoined
import GoSem.ClaimMapViews
import Derived.JoinedTies
import Derived.KernelRfl
namespace Go.Proofs.Ytgffpokipmkjeaa
/- THE CELL 'sum', in the pinned program and in every row, IS THE sha256 OF THE DUMP (.gsa) THAT YtgffpokipmkjeaaProg.lean LOADS. Nothing in Lean hashes anything: it is a label: what it is worth is what the hold of that sum in a sandbox is worth. -/
noncomputable def Try.pinned : Pinned := { name := "ytgffpokipmkjeaa", sum := "238489b380458d7a9e73fa55b0dd5dbc523e9c4b9721645d46f46d5990b4dd16", checked := Try.checked }
namespace Rows
def none {H : Type} : Left H := { results := [], args := [] }

/-- 'laws.FnExactPostWay': WHATEVER THE INPUT: true; the input reads as it did. -/
def fnExactPostWaySpec : ChangeSpec := { name := "fnExactPostWay", fn := fun _ => fun
  | [d1, d2, d3, d4, d5, d6] => { results := [.lit (.bool true)], args := [d1, d2, d3, d4, d5, d6] }
  | _ => none }
def fnExactPostWayRow : OpenClaim := { program := "ytgffpokipmkjeaa", sum := "238489b380458d7a9e73fa55b0dd5dbc523e9c4b9721645d46f46d5990b4dd16", func := "loop.example/mailcoaches/laws.FnExactPostWay", spec := "fnExactPostWay", unfollowed := true, recurses := true, apart := false }
def FnExactPostWaySaid : Prop := fnExactPostWayRow.holds Try.pinned (OpenSpec.ofChange fnExactPostWaySpec)

/-- ITS FALSE NEIGHBOUR: 'it returns false'. Refute it at one input. -/
def fnExactPostWayWrong : ChangeSpec := { name := "fnExactPostWay", fn := fun _ => fun
  | [d1, d2, d3, d4, d5, d6] => { results := [.lit (.bool false)], args := [d1, d2, d3, d4, d5, d6] }
  | _ => none }
def FnExactPostWayWrongFalsely : Prop := fnExactPostWayRow.holds Try.pinned (OpenSpec.ofChange fnExactPostWayWrong)

/-- 'laws.FnExactPostAdd': WHATEVER THE INPUT: true; the input reads as it did. -/
def fnExactPostAddSpec : ChangeSpec := { name := "fnExactPostAdd", fn := fun _ => fun
  | [d1, d2, d3] => { results := [.lit (.bool true)], args := [d1, d2, d3] }
  | _ => none }
def fnExactPostAddRow : OpenClaim := { program := "ytgffpokipmkjeaa", sum := "238489b380458d7a9e73fa55b0dd5dbc523e9c4b9721645d46f46d5990b4dd16", func := "loop.example/mailcoaches/laws.FnExactPostAdd", spec := "fnExactPostAdd", apart := false }
def FnExactPostAddSaid : Prop := fnExactPostAddRow.holds Try.pinned (OpenSpec.ofChange fnExactPostAddSpec)

/-- ITS FALSE NEIGHBOUR: 'it returns false'. Refute it at one input. -/
def fnExactPostAddWrong : ChangeSpec := { name := "fnExactPostAdd", fn := fun _ => fun
  | [d1, d2, d3] => { results := [.lit (.bool false)], args := [d1, d2, d3] }
  | _ => none }
def FnExactPostAddWrongFalsely : Prop := fnExactPostAddRow.holds Try.pinned (OpenSpec.ofChange fnExactPostAddWrong)

/-- 'laws.FnExactJourneyValid': WHATEVER THE INPUT: true; the input reads as it did. -/
def fnExactJourneyValidSpec : ChangeSpec := { name := "fnExactJourneyValid", fn := fun _ => fun
  | [d1, d2, d3, d4] => { results := [.lit (.bool true)], args := [d1, d2, d3, d4] }
  | _ => none }
def fnExactJourneyValidRow : OpenClaim := { program := "ytgffpokipmkjeaa", sum := "238489b380458d7a9e73fa55b0dd5dbc523e9c4b9721645d46f46d5990b4dd16", func := "loop.example/mailcoaches/laws.FnExactJourneyValid", spec := "fnExactJourneyValid", apart := false }
def FnExactJourneyValidSaid : Prop := fnExactJourneyValidRow.holds Try.pinned (OpenSpec.ofChange fnExactJourneyValidSpec)

/-- ITS FALSE NEIGHBOUR: 'it returns false'. Refute it at one input. -/
def fnExactJourneyValidWrong : ChangeSpec := { name := "fnExactJourneyValid", fn := fun _ => fun
  | [d1, d2, d3, d4] => { results := [.lit (.bool false)], args := [d1, d2, d3, d4] }
  | _ => none }
def FnExactJourneyValidWrongFalsely : Prop := fnExactJourneyValidRow.holds Try.pinned (OpenSpec.ofChange fnExactJourneyValidWrong)

/-- 'laws.FnExactJourneyEnd': WHATEVER THE INPUT: true; the input reads as it did. -/
def fnExactJourneyEndSpec : ChangeSpec := { name := "fnExactJourneyEnd", fn := fun _ => fun
  | [d1, d2, d3, d4] => { results := [.lit (.bool true)], args := [d1, d2, d3, d4] }
  | _ => none }
def fnExactJourneyEndRow : OpenClaim := { program := "ytgffpokipmkjeaa", sum := "238489b380458d7a9e73fa55b0dd5dbc523e9c4b9721645d46f46d5990b4dd16", func := "loop.example/mailcoaches/laws.FnExactJourneyEnd", spec := "fnExactJourneyEnd", apart := false }
def FnExactJourneyEndSaid : Prop := fnExactJourneyEndRow.holds Try.pinned (OpenSpec.ofChange fnExactJourneyEndSpec)

/-- ITS FALSE NEIGHBOUR: 'it returns false'. Refute it at one input. -/
def fnExactJourneyEndWrong : ChangeSpec := { name := "fnExactJourneyEnd", fn := fun _ => fun
  | [d1, d2, d3, d4] => { results := [.lit (.bool false)], args := [d1, d2, d3, d4] }
  | _ => none }
def FnExactJourneyEndWrongFalsely : Prop := fnExactJourneyEndRow.holds Try.pinned (OpenSpec.ofChange fnExactJourneyEndWrong)

/-- 'laws.FnExactPostBack': WHATEVER THE INPUT: true; the input reads as it did. -/
def fnExactPostBackSpec : ChangeSpec := { name := "fnExactPostBack", fn := fun _ => fun
  | [d1, d2, d3] => { results := [.lit (.bool true)], args := [d1, d2, d3] }
  | _ => none }
def fnExactPostBackRow : OpenClaim := { program := "ytgffpokipmkjeaa", sum := "238489b380458d7a9e73fa55b0dd5dbc523e9c4b9721645d46f46d5990b4dd16", func := "loop.example/mailcoaches/laws.FnExactPostBack", spec := "fnExactPostBack", unfollowed := true, recurses := true, apart := false }
def FnExactPostBackSaid : Prop := fnExactPostBackRow.holds Try.pinned (OpenSpec.ofChange fnExactPostBackSpec)

/-- ITS FALSE NEIGHBOUR: 'it returns false'. Refute it at one input. -/
def fnExactPostBackWrong : ChangeSpec := { name := "fnExactPostBack", fn := fun _ => fun
  | [d1, d2, d3] => { results := [.lit (.bool false)], args := [d1, d2, d3] }
  | _ => none }
def FnExactPostBackWrongFalsely : Prop := fnExactPostBackRow.holds Try.pinned (OpenSpec.ofChange fnExactPostBackWrong)

/-- 'laws.FnExactPostArrive': WHATEVER THE INPUT: true; the input reads as it did. -/
def fnExactPostArriveSpec : ChangeSpec := { name := "fnExactPostArrive", fn := fun _ => fun
  | [d1, d2, d3, d4, d5, d6] => { results := [.lit (.bool true)], args := [d1, d2, d3, d4, d5, d6] }
  | _ => none }
def fnExactPostArriveRow : OpenClaim := { program := "ytgffpokipmkjeaa", sum := "238489b380458d7a9e73fa55b0dd5dbc523e9c4b9721645d46f46d5990b4dd16", func := "loop.example/mailcoaches/laws.FnExactPostArrive", spec := "fnExactPostArrive", unfollowed := true, recurses := true, apart := false }
def FnExactPostArriveSaid : Prop := fnExactPostArriveRow.holds Try.pinned (OpenSpec.ofChange fnExactPostArriveSpec)

/-- ITS FALSE NEIGHBOUR: 'it returns false'. Refute it at one input. -/
def fnExactPostArriveWrong : ChangeSpec := { name := "fnExactPostArrive", fn := fun _ => fun
  | [d1, d2, d3, d4, d5, d6] => { results := [.lit (.bool false)], args := [d1, d2, d3, d4, d5, d6] }
  | _ => none }
def FnExactPostArriveWrongFalsely : Prop := fnExactPostArriveRow.holds Try.pinned (OpenSpec.ofChange fnExactPostArriveWrong)

/-- 'laws.FnExactPostLeave': WHATEVER THE INPUT: true; the input reads as it did. -/
def fnExactPostLeaveSpec : ChangeSpec := { name := "fnExactPostLeave", fn := fun _ => fun
  | [d1, d2, d3, d4, d5, d6] => { results := [.lit (.bool true)], args := [d1, d2, d3, d4, d5, d6] }
  | _ => none }
def fnExactPostLeaveRow : OpenClaim := { program := "ytgffpokipmkjeaa", sum := "238489b380458d7a9e73fa55b0dd5dbc523e9c4b9721645d46f46d5990b4dd16", func := "loop.example/mailcoaches/laws.FnExactPostLeave", spec := "fnExactPostLeave", unfollowed := true, recurses := true, apart := false }
def FnExactPostLeaveSaid : Prop := fnExactPostLeaveRow.holds Try.pinned (OpenSpec.ofChange fnExactPostLeaveSpec)

/-- ITS FALSE NEIGHBOUR: 'it returns false'. Refute it at one input. -/
def fnExactPostLeaveWrong : ChangeSpec := { name := "fnExactPostLeave", fn := fun _ => fun
  | [d1, d2, d3, d4, d5, d6] => { results := [.lit (.bool false)], args := [d1, d2, d3, d4, d5, d6] }
  | _ => none }
def FnExactPostLeaveWrongFalsely : Prop := fnExactPostLeaveRow.holds Try.pinned (OpenSpec.ofChange fnExactPostLeaveWrong)

/-- 'laws.FnExactPostTable': WHATEVER THE INPUT: true; the input reads as it did. -/
def fnExactPostTableSpec : ChangeSpec := { name := "fnExactPostTable", fn := fun _ => fun
  | [d1, d2, d3, d4, d5] => { results := [.lit (.bool true)], args := [d1, d2, d3, d4, d5] }
  | _ => none }
def fnExactPostTableRow : OpenClaim := { program := "ytgffpokipmkjeaa", sum := "238489b380458d7a9e73fa55b0dd5dbc523e9c4b9721645d46f46d5990b4dd16", func := "loop.example/mailcoaches/laws.FnExactPostTable", spec := "fnExactPostTable", unfollowed := true, recurses := true, apart := false }
def FnExactPostTableSaid : Prop := fnExactPostTableRow.holds Try.pinned (OpenSpec.ofChange fnExactPostTableSpec)

/-- ITS FALSE NEIGHBOUR: 'it returns false'. Refute it at one input. -/
def fnExactPostTableWrong : ChangeSpec := { name := "fnExactPostTable", fn := fun _ => fun
  | [d1, d2, d3, d4, d5] => { results := [.lit (.bool false)], args := [d1, d2, d3, d4, d5] }
  | _ => none }
def FnExactPostTableWrongFalsely : Prop := fnExactPostTableRow.holds Try.pinned (OpenSpec.ofChange fnExactPostTableWrong)

/-- 'laws.FnExactPostReach': WHATEVER THE INPUT: true; the input reads as it did. -/
def fnExactPostReachSpec : ChangeSpec := { name := "fnExactPostReach", fn := fun _ => fun
  | [d1, d2, d3, d4, d5, d6] => { results := [.lit (.bool true)], args := [d1, d2, d3, d4, d5, d6] }
  | _ => none }
def fnExactPostReachRow : OpenClaim := { program := "ytgffpokipmkjeaa", sum := "238489b380458d7a9e73fa55b0dd5dbc523e9c4b9721645d46f46d5990b4dd16", func := "loop.example/mailcoaches/laws.FnExactPostReach", spec := "fnExactPostReach", unfollowed := true, recurses := true, apart := false }
def FnExactPostReachSaid : Prop := fnExactPostReachRow.holds Try.pinned (OpenSpec.ofChange fnExactPostReachSpec)

/-- ITS FALSE NEIGHBOUR: 'it returns false'. Refute it at one input. -/
def fnExactPostReachWrong : ChangeSpec := { name := "fnExactPostReach", fn := fun _ => fun
  | [d1, d2, d3, d4, d5, d6] => { results := [.lit (.bool false)], args := [d1, d2, d3, d4, d5, d6] }
  | _ => none }
def FnExactPostReachWrongFalsely : Prop := fnExactPostReachRow.holds Try.pinned (OpenSpec.ofChange fnExactPostReachWrong)

/-- 'laws.FnExactPostFewest': WHATEVER THE INPUT: true; the input reads as it did. -/
def fnExactPostFewestSpec : ChangeSpec := { name := "fnExactPostFewest", fn := fun _ => fun
  | [d1, d2, d3, d4, d5, d6] => { results := [.lit (.bool true)], args := [d1, d2, d3, d4, d5, d6] }
  | _ => none }
def fnExactPostFewestRow : OpenClaim := { program := "ytgffpokipmkjeaa", sum := "238489b380458d7a9e73fa55b0dd5dbc523e9c4b9721645d46f46d5990b4dd16", func := "loop.example/mailcoaches/laws.FnExactPostFewest", spec := "fnExactPostFewest", unfollowed := true, recurses := true, apart := false }
def FnExactPostFewestSaid : Prop := fnExactPostFewestRow.holds Try.pinned (OpenSpec.ofChange fnExactPostFewestSpec)

/-- ITS FALSE NEIGHBOUR: 'it returns false'. Refute it at one input. -/
def fnExactPostFewestWrong : ChangeSpec := { name := "fnExactPostFewest", fn := fun _ => fun
  | [d1, d2, d3, d4, d5, d6] => { results := [.lit (.bool false)], args := [d1, d2, d3, d4, d5, d6] }
  | _ => none }
def FnExactPostFewestWrongFalsely : Prop := fnExactPostFewestRow.holds Try.pinned (OpenSpec.ofChange fnExactPostFewestWrong)

/- THE SECOND FORM. 'bulk': how many values and letters a reading holds, each counted each time it is reached (what is shared counts as often as it is met; a slice's spare places count too). A statement '..UptoSaid' is the law's where the arguments, and the package variables that the reading takes, are together of bulk at most 1048576: NARROWER than '..Said'. Prove '..Said' where nothing that the law and all that it calls make is longer than what came in: it says more and counts as full. Else prove '..UptoSaid'. A law counts once. -/
mutual
def uptoBulk {H : Type} : DataW H → Nat
  | .lit (.string bytes) => bytes.length + 1
  | .lit _ => 1
  | .nil => 1
  | .ptr d => uptoBulk d + 1
  | .slice elems spare => uptoBulkAll elems + uptoBulkAll spare + 1
  | .agg parts => uptoBulkAll parts + 1
  | .iface _ d => uptoBulk d + 1
  | .map entries => uptoBulkEntries entries + 1
  | .held _ => 1
def uptoBulkAll {H : Type} : List (DataW H) → Nat
  | [] => 0
  | d :: r => uptoBulk d + uptoBulkAll r
def uptoBulkEntries {H : Type} : List (Lit × DataW H) → Nat
  | [] => 0
  | x :: r => uptoBulkEntry x + uptoBulkEntries r
def uptoBulkEntry {H : Type} : Lit × DataW H → Nat
  | (.string bytes, d) => bytes.length + uptoBulk d + 1
  | (_, d) => uptoBulk d + 1
 end
def uptoSmall : (H : Type) → List (DataW H) → Bool := fun _ ds => decide (uptoBulkAll ds ≤ 1048576)
def OpenSpec.upto (s : _root_.Go.ChangeSpec) : _root_.Go.OpenSpec := { _root_.Go.OpenSpec.ofChange s with cond := some uptoSmall }

/-- 'laws.FnExactPostWay', WHERE WHAT IT READS IS OF BULK AT MOST 1048576: true; the input reads as it did. -/
def fnExactPostWayUptoRow : OpenClaim := { program := "ytgffpokipmkjeaa", sum := "238489b380458d7a9e73fa55b0dd5dbc523e9c4b9721645d46f46d5990b4dd16", func := "loop.example/mailcoaches/laws.FnExactPostWay", spec := "fnExactPostWay", unfollowed := true, recurses := true, apart := false, narrowed := true }
def FnExactPostWayUptoSaid : Prop := fnExactPostWayUptoRow.holds Try.pinned (OpenSpec.upto fnExactPostWaySpec)

/-- 'laws.FnExactPostAdd', WHERE WHAT IT READS IS OF BULK AT MOST 1048576: true; the input reads as it did. -/
def fnExactPostAddUptoRow : OpenClaim := { program := "ytgffpokipmkjeaa", sum := "238489b380458d7a9e73fa55b0dd5dbc523e9c4b9721645d46f46d5990b4dd16", func := "loop.example/mailcoaches/laws.FnExactPostAdd", spec := "fnExactPostAdd", apart := false, narrowed := true }
def FnExactPostAddUptoSaid : Prop := fnExactPostAddUptoRow.holds Try.pinned (OpenSpec.upto fnExactPostAddSpec)

/-- 'laws.FnExactJourneyValid', WHERE WHAT IT READS IS OF BULK AT MOST 1048576: true; the input reads as it did. -/
def fnExactJourneyValidUptoRow : OpenClaim := { program := "ytgffpokipmkjeaa", sum := "238489b380458d7a9e73fa55b0dd5dbc523e9c4b9721645d46f46d5990b4dd16", func := "loop.example/mailcoaches/laws.FnExactJourneyValid", spec := "fnExactJourneyValid", apart := false, narrowed := true }
def FnExactJourneyValidUptoSaid : Prop := fnExactJourneyValidUptoRow.holds Try.pinned (OpenSpec.upto fnExactJourneyValidSpec)

/-- 'laws.FnExactJourneyEnd', WHERE WHAT IT READS IS OF BULK AT MOST 1048576: true; the input reads as it did. -/
def fnExactJourneyEndUptoRow : OpenClaim := { program := "ytgffpokipmkjeaa", sum := "238489b380458d7a9e73fa55b0dd5dbc523e9c4b9721645d46f46d5990b4dd16", func := "loop.example/mailcoaches/laws.FnExactJourneyEnd", spec := "fnExactJourneyEnd", apart := false, narrowed := true }
def FnExactJourneyEndUptoSaid : Prop := fnExactJourneyEndUptoRow.holds Try.pinned (OpenSpec.upto fnExactJourneyEndSpec)

/-- 'laws.FnExactPostBack', WHERE WHAT IT READS IS OF BULK AT MOST 1048576: true; the input reads as it did. -/
def fnExactPostBackUptoRow : OpenClaim := { program := "ytgffpokipmkjeaa", sum := "238489b380458d7a9e73fa55b0dd5dbc523e9c4b9721645d46f46d5990b4dd16", func := "loop.example/mailcoaches/laws.FnExactPostBack", spec := "fnExactPostBack", unfollowed := true, recurses := true, apart := false, narrowed := true }
def FnExactPostBackUptoSaid : Prop := fnExactPostBackUptoRow.holds Try.pinned (OpenSpec.upto fnExactPostBackSpec)

/-- 'laws.FnExactPostArrive', WHERE WHAT IT READS IS OF BULK AT MOST 1048576: true; the input reads as it did. -/
def fnExactPostArriveUptoRow : OpenClaim := { program := "ytgffpokipmkjeaa", sum := "238489b380458d7a9e73fa55b0dd5dbc523e9c4b9721645d46f46d5990b4dd16", func := "loop.example/mailcoaches/laws.FnExactPostArrive", spec := "fnExactPostArrive", unfollowed := true, recurses := true, apart := false, narrowed := true }
def FnExactPostArriveUptoSaid : Prop := fnExactPostArriveUptoRow.holds Try.pinned (OpenSpec.upto fnExactPostArriveSpec)

/-- 'laws.FnExactPostLeave', WHERE WHAT IT READS IS OF BULK AT MOST 1048576: true; the input reads as it did. -/
def fnExactPostLeaveUptoRow : OpenClaim := { program := "ytgffpokipmkjeaa", sum := "238489b380458d7a9e73fa55b0dd5dbc523e9c4b9721645d46f46d5990b4dd16", func := "loop.example/mailcoaches/laws.FnExactPostLeave", spec := "fnExactPostLeave", unfollowed := true, recurses := true, apart := false, narrowed := true }
def FnExactPostLeaveUptoSaid : Prop := fnExactPostLeaveUptoRow.holds Try.pinned (OpenSpec.upto fnExactPostLeaveSpec)

/-- 'laws.FnExactPostTable', WHERE WHAT IT READS IS OF BULK AT MOST 1048576: true; the input reads as it did. -/
def fnExactPostTableUptoRow : OpenClaim := { program := "ytgffpokipmkjeaa", sum := "238489b380458d7a9e73fa55b0dd5dbc523e9c4b9721645d46f46d5990b4dd16", func := "loop.example/mailcoaches/laws.FnExactPostTable", spec := "fnExactPostTable", unfollowed := true, recurses := true, apart := false, narrowed := true }
def FnExactPostTableUptoSaid : Prop := fnExactPostTableUptoRow.holds Try.pinned (OpenSpec.upto fnExactPostTableSpec)

/-- 'laws.FnExactPostReach', WHERE WHAT IT READS IS OF BULK AT MOST 1048576: true; the input reads as it did. -/
def fnExactPostReachUptoRow : OpenClaim := { program := "ytgffpokipmkjeaa", sum := "238489b380458d7a9e73fa55b0dd5dbc523e9c4b9721645d46f46d5990b4dd16", func := "loop.example/mailcoaches/laws.FnExactPostReach", spec := "fnExactPostReach", unfollowed := true, recurses := true, apart := false, narrowed := true }
def FnExactPostReachUptoSaid : Prop := fnExactPostReachUptoRow.holds Try.pinned (OpenSpec.upto fnExactPostReachSpec)

/-- 'laws.FnExactPostFewest', WHERE WHAT IT READS IS OF BULK AT MOST 1048576: true; the input reads as it did. -/
def fnExactPostFewestUptoRow : OpenClaim := { program := "ytgffpokipmkjeaa", sum := "238489b380458d7a9e73fa55b0dd5dbc523e9c4b9721645d46f46d5990b4dd16", func := "loop.example/mailcoaches/laws.FnExactPostFewest", spec := "fnExactPostFewest", unfollowed := true, recurses := true, apart := false, narrowed := true }
def FnExactPostFewestUptoSaid : Prop := fnExactPostFewestUptoRow.holds Try.pinned (OpenSpec.upto fnExactPostFewestSpec)

end Rows
end Go.Proofs.Ytgffpokipmkjeaa

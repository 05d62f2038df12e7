/-
  No cell of these rows narrows 'for every input' (looked for: loops, veiled, ifaces, maps, wideKeys, modest, calm, conditions, laid).
  DERIVED. THE GIVEN ROWS OF THIS SEAT. 11 by the template 'for every input the law returns true; each argument reads behind the call as it read before'; 0 by the template 'total and deterministic' (their statements: YtdiichfdffhdaaaTotals.lean).
  GIVEN WITH THE SEED: the statements are not yours to turn. If you find one false, say at which input.
  Laid BY PROGRAM, IN A SANDBOX (cutbox-rows.mjs): the forced cells as the released guide's own fill.sh prints them over the translation a291c8a076b397b5… (all of the seat's roots in one cut). By AI agents, Wed Nov 11 2026. No macro, syntax, notation, axiom, sorry.
-/
import Derived.Test.YtdiichfdffhdaaaChecked
import GoSem.Claim
import GoSem.ClaimJoined
import GoSem.ClaimMapViews
import Derived.JoinedTies
import Derived.KernelRfl
namespace Go.Proofs.Ytdiichfdffhdaaa
/- THE CELL 'sum', in the pinned program and in every row, IS THE sha256 OF THE DUMP (.gsa) THAT YtdiichfdffhdaaaProg.lean LOADS. Nothing in Lean hashes anything: it is a label: what it is worth is what the hold of that sum in a sandbox is worth. -/
noncomputable def Try.pinned : Pinned := { name := "ytdiichfdffhdaaa", sum := "a291c8a076b397b5bbcedfc7bd321abee3c3734e13248f346570192143a4d69e", checked := Try.checked }
namespace Rows
def none {H : Type} : Left H := { results := [], args := [] }

/-- 'laws.FnJourneyEnd': WHATEVER THE INPUT: true; the input reads as it did. -/
def fnJourneyEndSpec : ChangeSpec := { name := "fnJourneyEnd", fn := fun _ => fun
  | [d] => { results := [.lit (.bool true)], args := [d] }
  | _ => none }
def fnJourneyEndRow : OpenClaim := { program := "ytdiichfdffhdaaa", sum := "a291c8a076b397b5bbcedfc7bd321abee3c3734e13248f346570192143a4d69e", func := "loop.example/mailcoaches/laws.FnJourneyEnd", spec := "fnJourneyEnd", unfollowed := true, recurses := true, apart := false }
def FnJourneyEndSaid : Prop := fnJourneyEndRow.holds Try.pinned (OpenSpec.ofChange fnJourneyEndSpec)

/-- ITS FALSE NEIGHBOUR: 'it returns false'. Refute it at one input. -/
def fnJourneyEndWrong : ChangeSpec := { name := "fnJourneyEnd", fn := fun _ => fun
  | [d] => { results := [.lit (.bool false)], args := [d] }
  | _ => none }
def FnJourneyEndWrongFalsely : Prop := fnJourneyEndRow.holds Try.pinned (OpenSpec.ofChange fnJourneyEndWrong)

/-- 'laws.FnPostWay': WHATEVER THE INPUT: true; the input reads as it did. -/
def fnPostWaySpec : ChangeSpec := { name := "fnPostWay", fn := fun _ => fun
  | [d] => { results := [.lit (.bool true)], args := [d] }
  | _ => none }
def fnPostWayRow : OpenClaim := { program := "ytdiichfdffhdaaa", sum := "a291c8a076b397b5bbcedfc7bd321abee3c3734e13248f346570192143a4d69e", func := "loop.example/mailcoaches/laws.FnPostWay", spec := "fnPostWay", unfollowed := true, recurses := true, apart := false }
def FnPostWaySaid : Prop := fnPostWayRow.holds Try.pinned (OpenSpec.ofChange fnPostWaySpec)

/-- ITS FALSE NEIGHBOUR: 'it returns false'. Refute it at one input. -/
def fnPostWayWrong : ChangeSpec := { name := "fnPostWay", fn := fun _ => fun
  | [d] => { results := [.lit (.bool false)], args := [d] }
  | _ => none }
def FnPostWayWrongFalsely : Prop := fnPostWayRow.holds Try.pinned (OpenSpec.ofChange fnPostWayWrong)

/-- 'laws.FnJourney': WHATEVER THE INPUT: true; the input reads as it did. -/
def fnJourneySpec : ChangeSpec := { name := "fnJourney", fn := fun _ => fun
  | [d1, d2] => { results := [.lit (.bool true)], args := [d1, d2] }
  | _ => none }
def fnJourneyRow : OpenClaim := { program := "ytdiichfdffhdaaa", sum := "a291c8a076b397b5bbcedfc7bd321abee3c3734e13248f346570192143a4d69e", func := "loop.example/mailcoaches/laws.FnJourney", spec := "fnJourney", apart := false }
def FnJourneySaid : Prop := fnJourneyRow.holds Try.pinned (OpenSpec.ofChange fnJourneySpec)

/-- ITS FALSE NEIGHBOUR: 'it returns false'. Refute it at one input. -/
def fnJourneyWrong : ChangeSpec := { name := "fnJourney", fn := fun _ => fun
  | [d1, d2] => { results := [.lit (.bool false)], args := [d1, d2] }
  | _ => none }
def FnJourneyWrongFalsely : Prop := fnJourneyRow.holds Try.pinned (OpenSpec.ofChange fnJourneyWrong)

/-- 'laws.FnPostAdd': WHATEVER THE INPUT: true; the input reads as it did. -/
def fnPostAddSpec : ChangeSpec := { name := "fnPostAdd", fn := fun _ => fun
  | [d1, d2] => { results := [.lit (.bool true)], args := [d1, d2] }
  | _ => none }
def fnPostAddRow : OpenClaim := { program := "ytdiichfdffhdaaa", sum := "a291c8a076b397b5bbcedfc7bd321abee3c3734e13248f346570192143a4d69e", func := "loop.example/mailcoaches/laws.FnPostAdd", spec := "fnPostAdd", unfollowed := true, recurses := true, apart := false }
def FnPostAddSaid : Prop := fnPostAddRow.holds Try.pinned (OpenSpec.ofChange fnPostAddSpec)

/-- ITS FALSE NEIGHBOUR: 'it returns false'. Refute it at one input. -/
def fnPostAddWrong : ChangeSpec := { name := "fnPostAdd", fn := fun _ => fun
  | [d1, d2] => { results := [.lit (.bool false)], args := [d1, d2] }
  | _ => none }
def FnPostAddWrongFalsely : Prop := fnPostAddRow.holds Try.pinned (OpenSpec.ofChange fnPostAddWrong)

/-- 'laws.FnPostTable': WHATEVER THE INPUT: true; the input reads as it did. -/
def fnPostTableSpec : ChangeSpec := { name := "fnPostTable", fn := fun _ => fun
  | [d1, d2] => { results := [.lit (.bool true)], args := [d1, d2] }
  | _ => none }
def fnPostTableRow : OpenClaim := { program := "ytdiichfdffhdaaa", sum := "a291c8a076b397b5bbcedfc7bd321abee3c3734e13248f346570192143a4d69e", func := "loop.example/mailcoaches/laws.FnPostTable", spec := "fnPostTable", unfollowed := true, recurses := true, apart := false }
def FnPostTableSaid : Prop := fnPostTableRow.holds Try.pinned (OpenSpec.ofChange fnPostTableSpec)

/-- ITS FALSE NEIGHBOUR: 'it returns false'. Refute it at one input. -/
def fnPostTableWrong : ChangeSpec := { name := "fnPostTable", fn := fun _ => fun
  | [d1, d2] => { results := [.lit (.bool false)], args := [d1, d2] }
  | _ => none }
def FnPostTableWrongFalsely : Prop := fnPostTableRow.holds Try.pinned (OpenSpec.ofChange fnPostTableWrong)

/-- 'laws.FnPostChange': WHATEVER THE INPUT: true; the input reads as it did. -/
def fnPostChangeSpec : ChangeSpec := { name := "fnPostChange", fn := fun _ => fun
  | [d] => { results := [.lit (.bool true)], args := [d] }
  | _ => none }
def fnPostChangeRow : OpenClaim := { program := "ytdiichfdffhdaaa", sum := "a291c8a076b397b5bbcedfc7bd321abee3c3734e13248f346570192143a4d69e", func := "loop.example/mailcoaches/laws.FnPostChange", spec := "fnPostChange", unfollowed := true, recurses := true, apart := false }
def FnPostChangeSaid : Prop := fnPostChangeRow.holds Try.pinned (OpenSpec.ofChange fnPostChangeSpec)

/-- ITS FALSE NEIGHBOUR: 'it returns false'. Refute it at one input. -/
def fnPostChangeWrong : ChangeSpec := { name := "fnPostChange", fn := fun _ => fun
  | [d] => { results := [.lit (.bool false)], args := [d] }
  | _ => none }
def FnPostChangeWrongFalsely : Prop := fnPostChangeRow.holds Try.pinned (OpenSpec.ofChange fnPostChangeWrong)

/-- 'laws.FnPostOne': WHATEVER THE INPUT: true; the input reads as it did. -/
def fnPostOneSpec : ChangeSpec := { name := "fnPostOne", fn := fun _ => fun
  | [d] => { results := [.lit (.bool true)], args := [d] }
  | _ => none }
def fnPostOneRow : OpenClaim := { program := "ytdiichfdffhdaaa", sum := "a291c8a076b397b5bbcedfc7bd321abee3c3734e13248f346570192143a4d69e", func := "loop.example/mailcoaches/laws.FnPostOne", spec := "fnPostOne", unfollowed := true, recurses := true, apart := false }
def FnPostOneSaid : Prop := fnPostOneRow.holds Try.pinned (OpenSpec.ofChange fnPostOneSpec)

/-- ITS FALSE NEIGHBOUR: 'it returns false'. Refute it at one input. -/
def fnPostOneWrong : ChangeSpec := { name := "fnPostOne", fn := fun _ => fun
  | [d] => { results := [.lit (.bool false)], args := [d] }
  | _ => none }
def FnPostOneWrongFalsely : Prop := fnPostOneRow.holds Try.pinned (OpenSpec.ofChange fnPostOneWrong)

/-- 'laws.FnPostReach': WHATEVER THE INPUT: true; the input reads as it did. -/
def fnPostReachSpec : ChangeSpec := { name := "fnPostReach", fn := fun _ => fun
  | [d] => { results := [.lit (.bool true)], args := [d] }
  | _ => none }
def fnPostReachRow : OpenClaim := { program := "ytdiichfdffhdaaa", sum := "a291c8a076b397b5bbcedfc7bd321abee3c3734e13248f346570192143a4d69e", func := "loop.example/mailcoaches/laws.FnPostReach", spec := "fnPostReach", unfollowed := true, recurses := true, apart := false }
def FnPostReachSaid : Prop := fnPostReachRow.holds Try.pinned (OpenSpec.ofChange fnPostReachSpec)

/-- ITS FALSE NEIGHBOUR: 'it returns false'. Refute it at one input. -/
def fnPostReachWrong : ChangeSpec := { name := "fnPostReach", fn := fun _ => fun
  | [d] => { results := [.lit (.bool false)], args := [d] }
  | _ => none }
def FnPostReachWrongFalsely : Prop := fnPostReachRow.holds Try.pinned (OpenSpec.ofChange fnPostReachWrong)

/-- 'laws.FnPostBack': WHATEVER THE INPUT: true; the input reads as it did. -/
def fnPostBackSpec : ChangeSpec := { name := "fnPostBack", fn := fun _ => fun
  | [d1, d2] => { results := [.lit (.bool true)], args := [d1, d2] }
  | _ => none }
def fnPostBackRow : OpenClaim := { program := "ytdiichfdffhdaaa", sum := "a291c8a076b397b5bbcedfc7bd321abee3c3734e13248f346570192143a4d69e", func := "loop.example/mailcoaches/laws.FnPostBack", spec := "fnPostBack", unfollowed := true, recurses := true, apart := false }
def FnPostBackSaid : Prop := fnPostBackRow.holds Try.pinned (OpenSpec.ofChange fnPostBackSpec)

/-- ITS FALSE NEIGHBOUR: 'it returns false'. Refute it at one input. -/
def fnPostBackWrong : ChangeSpec := { name := "fnPostBack", fn := fun _ => fun
  | [d1, d2] => { results := [.lit (.bool false)], args := [d1, d2] }
  | _ => none }
def FnPostBackWrongFalsely : Prop := fnPostBackRow.holds Try.pinned (OpenSpec.ofChange fnPostBackWrong)

/-- 'laws.FnPostLeave': WHATEVER THE INPUT: true; the input reads as it did. -/
def fnPostLeaveSpec : ChangeSpec := { name := "fnPostLeave", fn := fun _ => fun
  | [d] => { results := [.lit (.bool true)], args := [d] }
  | _ => none }
def fnPostLeaveRow : OpenClaim := { program := "ytdiichfdffhdaaa", sum := "a291c8a076b397b5bbcedfc7bd321abee3c3734e13248f346570192143a4d69e", func := "loop.example/mailcoaches/laws.FnPostLeave", spec := "fnPostLeave", unfollowed := true, recurses := true, apart := false }
def FnPostLeaveSaid : Prop := fnPostLeaveRow.holds Try.pinned (OpenSpec.ofChange fnPostLeaveSpec)

/-- ITS FALSE NEIGHBOUR: 'it returns false'. Refute it at one input. -/
def fnPostLeaveWrong : ChangeSpec := { name := "fnPostLeave", fn := fun _ => fun
  | [d] => { results := [.lit (.bool false)], args := [d] }
  | _ => none }
def FnPostLeaveWrongFalsely : Prop := fnPostLeaveRow.holds Try.pinned (OpenSpec.ofChange fnPostLeaveWrong)

/-- 'laws.FnPostFewest': WHATEVER THE INPUT: true; the input reads as it did. -/
def fnPostFewestSpec : ChangeSpec := { name := "fnPostFewest", fn := fun _ => fun
  | [d] => { results := [.lit (.bool true)], args := [d] }
  | _ => none }
def fnPostFewestRow : OpenClaim := { program := "ytdiichfdffhdaaa", sum := "a291c8a076b397b5bbcedfc7bd321abee3c3734e13248f346570192143a4d69e", func := "loop.example/mailcoaches/laws.FnPostFewest", spec := "fnPostFewest", unfollowed := true, recurses := true, apart := false }
def FnPostFewestSaid : Prop := fnPostFewestRow.holds Try.pinned (OpenSpec.ofChange fnPostFewestSpec)

/-- ITS FALSE NEIGHBOUR: 'it returns false'. Refute it at one input. -/
def fnPostFewestWrong : ChangeSpec := { name := "fnPostFewest", fn := fun _ => fun
  | [d] => { results := [.lit (.bool false)], args := [d] }
  | _ => none }
def FnPostFewestWrongFalsely : Prop := fnPostFewestRow.holds Try.pinned (OpenSpec.ofChange fnPostFewestWrong)

/- THE SECOND FORM. 'bulk': how many values and letters a reading holds, each counted each time it is reached (what is shared counts as often as it is met; a slice's spare places count too). A statement '..UptoSaid' is the law's where the arguments, and the package variables that the reading takes, are together of bulk at most 1048576: NARROWER than '..Said'. Prove '..Said' where nothing that the law and all that it calls make is longer than what came in: it says more and counts as full. Else prove '..UptoSaid'. A law counts once. -/
mutual
def uptoBulk {H : Type} : DataW H → Nat
  | .lit (.string bytes) => bytes.length + 1
  | .lit _ => 1
  | .nil => 1
  | .ptr d => uptoBulk d + 1
  | .slice elems spare => uptoBulkAll elems + uptoBulkAll spare + 1
  | .agg parts => uptoBulkAll parts + 1
  | .iface _ d => uptoBulk d + 1
  | .map entries => uptoBulkEntries entries + 1
  | .held _ => 1
def uptoBulkAll {H : Type} : List (DataW H) → Nat
  | [] => 0
  | d :: r => uptoBulk d + uptoBulkAll r
def uptoBulkEntries {H : Type} : List (Lit × DataW H) → Nat
  | [] => 0
  | x :: r => uptoBulkEntry x + uptoBulkEntries r
def uptoBulkEntry {H : Type} : Lit × DataW H → Nat
  | (.string bytes, d) => bytes.length + uptoBulk d + 1
  | (_, d) => uptoBulk d + 1
 end
def uptoSmall : (H : Type) → List (DataW H) → Bool := fun _ ds => decide (uptoBulkAll ds ≤ 1048576)
def OpenSpec.upto (s : _root_.Go.ChangeSpec) : _root_.Go.OpenSpec := { _root_.Go.OpenSpec.ofChange s with cond := some uptoSmall }

/-- 'laws.FnJourneyEnd', WHERE WHAT IT READS IS OF BULK AT MOST 1048576: true; the input reads as it did. -/
def fnJourneyEndUptoRow : OpenClaim := { program := "ytdiichfdffhdaaa", sum := "a291c8a076b397b5bbcedfc7bd321abee3c3734e13248f346570192143a4d69e", func := "loop.example/mailcoaches/laws.FnJourneyEnd", spec := "fnJourneyEnd", unfollowed := true, recurses := true, apart := false, narrowed := true }
def FnJourneyEndUptoSaid : Prop := fnJourneyEndUptoRow.holds Try.pinned (OpenSpec.upto fnJourneyEndSpec)

/-- 'laws.FnPostWay', WHERE WHAT IT READS IS OF BULK AT MOST 1048576: true; the input reads as it did. -/
def fnPostWayUptoRow : OpenClaim := { program := "ytdiichfdffhdaaa", sum := "a291c8a076b397b5bbcedfc7bd321abee3c3734e13248f346570192143a4d69e", func := "loop.example/mailcoaches/laws.FnPostWay", spec := "fnPostWay", unfollowed := true, recurses := true, apart := false, narrowed := true }
def FnPostWayUptoSaid : Prop := fnPostWayUptoRow.holds Try.pinned (OpenSpec.upto fnPostWaySpec)

/-- 'laws.FnJourney', WHERE WHAT IT READS IS OF BULK AT MOST 1048576: true; the input reads as it did. -/
def fnJourneyUptoRow : OpenClaim := { program := "ytdiichfdffhdaaa", sum := "a291c8a076b397b5bbcedfc7bd321abee3c3734e13248f346570192143a4d69e", func := "loop.example/mailcoaches/laws.FnJourney", spec := "fnJourney", apart := false, narrowed := true }
def FnJourneyUptoSaid : Prop := fnJourneyUptoRow.holds Try.pinned (OpenSpec.upto fnJourneySpec)

/-- 'laws.FnPostAdd', WHERE WHAT IT READS IS OF BULK AT MOST 1048576: true; the input reads as it did. -/
def fnPostAddUptoRow : OpenClaim := { program := "ytdiichfdffhdaaa", sum := "a291c8a076b397b5bbcedfc7bd321abee3c3734e13248f346570192143a4d69e", func := "loop.example/mailcoaches/laws.FnPostAdd", spec := "fnPostAdd", unfollowed := true, recurses := true, apart := false, narrowed := true }
def FnPostAddUptoSaid : Prop := fnPostAddUptoRow.holds Try.pinned (OpenSpec.upto fnPostAddSpec)

/-- 'laws.FnPostTable', WHERE WHAT IT READS IS OF BULK AT MOST 1048576: true; the input reads as it did. -/
def fnPostTableUptoRow : OpenClaim := { program := "ytdiichfdffhdaaa", sum := "a291c8a076b397b5bbcedfc7bd321abee3c3734e13248f346570192143a4d69e", func := "loop.example/mailcoaches/laws.FnPostTable", spec := "fnPostTable", unfollowed := true, recurses := true, apart := false, narrowed := true }
def FnPostTableUptoSaid : Prop := fnPostTableUptoRow.holds Try.pinned (OpenSpec.upto fnPostTableSpec)

/-- 'laws.FnPostChange', WHERE WHAT IT READS IS OF BULK AT MOST 1048576: true; the input reads as it did. -/
def fnPostChangeUptoRow : OpenClaim := { program := "ytdiichfdffhdaaa", sum := "a291c8a076b397b5bbcedfc7bd321abee3c3734e13248f346570192143a4d69e", func := "loop.example/mailcoaches/laws.FnPostChange", spec := "fnPostChange", unfollowed := true, recurses := true, apart := false, narrowed := true }
def FnPostChangeUptoSaid : Prop := fnPostChangeUptoRow.holds Try.pinned (OpenSpec.upto fnPostChangeSpec)

/-- 'laws.FnPostOne', WHERE WHAT IT READS IS OF BULK AT MOST 1048576: true; the input reads as it did. -/
def fnPostOneUptoRow : OpenClaim := { program := "ytdiichfdffhdaaa", sum := "a291c8a076b397b5bbcedfc7bd321abee3c3734e13248f346570192143a4d69e", func := "loop.example/mailcoaches/laws.FnPostOne", spec := "fnPostOne", unfollowed := true, recurses := true, apart := false, narrowed := true }
def FnPostOneUptoSaid : Prop := fnPostOneUptoRow.holds Try.pinned (OpenSpec.upto fnPostOneSpec)

/-- 'laws.FnPostReach', WHERE WHAT IT READS IS OF BULK AT MOST 1048576: true; the input reads as it did. -/
def fnPostReachUptoRow : OpenClaim := { program := "ytdiichfdffhdaaa", sum := "a291c8a076b397b5bbcedfc7bd321abee3c3734e13248f346570192143a4d69e", func := "loop.example/mailcoaches/laws.FnPostReach", spec := "fnPostReach", unfollowed := true, recurses := true, apart := false, narrowed := true }
def FnPostReachUptoSaid : Prop := fnPostReachUptoRow.holds Try.pinned (OpenSpec.upto fnPostReachSpec)

/-- 'laws.FnPostBack', WHERE WHAT IT READS IS OF BULK AT MOST 1048576: true; the input reads as it did. -/
def fnPostBackUptoRow : OpenClaim := { program := "ytdiichfdffhdaaa", sum := "a291c8a076b397b5bbcedfc7bd321abee3c3734e13248f346570192143a4d69e", func := "loop.example/mailcoaches/laws.FnPostBack", spec := "fnPostBack", unfollowed := true, recurses := true, apart := false, narrowed := true }
def FnPostBackUptoSaid : Prop := fnPostBackUptoRow.holds Try.pinned (OpenSpec.upto fnPostBackSpec)

/-- 'laws.FnPostLeave', WHERE WHAT IT READS IS OF BULK AT MOST 1048576: true; the input reads as it did. -/
def fnPostLeaveUptoRow : OpenClaim := { program := "ytdiichfdffhdaaa", sum := "a291c8a076b397b5bbcedfc7bd321abee3c3734e13248f346570192143a4d69e", func := "loop.example/mailcoaches/laws.FnPostLeave", spec := "fnPostLeave", unfollowed := true, recurses := true, apart := false, narrowed := true }
def FnPostLeaveUptoSaid : Prop := fnPostLeaveUptoRow.holds Try.pinned (OpenSpec.upto fnPostLeaveSpec)

/-- 'laws.FnPostFewest', WHERE WHAT IT READS IS OF BULK AT MOST 1048576: true; the input reads as it did. -/
def fnPostFewestUptoRow : OpenClaim := { program := "ytdiichfdffhdaaa", sum := "a291c8a076b397b5bbcedfc7bd321abee3c3734e13248f346570192143a4d69e", func := "loop.example/mailcoaches/laws.FnPostFewest", spec := "fnPostFewest", unfollowed := true, recurses := true, apart := false, narrowed := true }
def FnPostFewestUptoSaid : Prop := fnPostFewestUptoRow.holds Try.pinned (OpenSpec.upto fnPostFewestSpec)

end Rows
end Go.Proofs.Ytdiichfdffhdaaa

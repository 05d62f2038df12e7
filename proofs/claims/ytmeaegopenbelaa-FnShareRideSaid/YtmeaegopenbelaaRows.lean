/-
  No cell of these rows narrows 'for every input' (looked for: loops, veiled, ifaces, maps, wideKeys, modest, calm, conditions, laid).
  DERIVED. THE GIVEN ROWS OF THIS SEAT. 7 by the template 'for every input the law returns true; each argument reads behind the call as it read before'; 0 by the template 'total and deterministic' (their statements: YtmeaegopenbelaaTotals.lean).
  GIVEN WITH THE SEED: the statements are not yours to turn. If you find one false, say at which input.
  Laid BY PROGRAM, IN A SANDBOX (cutbox-rows.mjs): the forced cells as the released guide's own fill.sh prints them over the translation 9317f0cefe41aa02… (all of the seat's roots in one cut). By AI agents, Wed Nov 11 2026. No macro, syntax, notation, axiom, sorry.
-/
import Derived.Test.YtmeaegopenbelaaChecked
import GoSem.Claim
import GoSem.ClaimJoined
import GoSem.ClaimMapViews
import Derived.JoinedTies
import Derived.KernelRfl
namespace Go.Proofs.Ytmeaegopenbelaa
/- THE CELL 'sum', in the pinned program and in every row, IS THE sha256 OF THE DUMP (.gsa) THAT YtmeaegopenbelaaProg.lean LOADS. Nothing in Lean hashes anything: it is a label: what it is worth is what the hold of that sum in a sandbox is worth. -/
noncomputable def Try.pinned : Pinned := { name := "ytmeaegopenbelaa", sum := "9317f0cefe41aa02845afcd420e04af12bdee2970f76a859bea035b9a2349456", checked := Try.checked }
namespace Rows
def none {H : Type} : Left H := { results := [], args := [] }

/-- 'laws.FnShareOrder': WHATEVER THE INPUT: true; the input reads as it did. -/
def fnShareOrderSpec : ChangeSpec := { name := "fnShareOrder", fn := fun _ => fun
  | [d] => { results := [.lit (.bool true)], args := [d] }
  | _ => none }
def fnShareOrderRow : OpenClaim := { program := "ytmeaegopenbelaa", sum := "9317f0cefe41aa02845afcd420e04af12bdee2970f76a859bea035b9a2349456", func := "loop.example/mailcoaches/laws.FnShareOrder", spec := "fnShareOrder", unfollowed := true, recurses := true, apart := false }
def FnShareOrderSaid : Prop := fnShareOrderRow.holds Try.pinned (OpenSpec.ofChange fnShareOrderSpec)

/-- ITS FALSE NEIGHBOUR: 'it returns false'. Refute it at one input. -/
def fnShareOrderWrong : ChangeSpec := { name := "fnShareOrder", fn := fun _ => fun
  | [d] => { results := [.lit (.bool false)], args := [d] }
  | _ => none }
def FnShareOrderWrongFalsely : Prop := fnShareOrderRow.holds Try.pinned (OpenSpec.ofChange fnShareOrderWrong)

/-- 'laws.FnShareMake': WHATEVER THE INPUT: true; the input reads as it did. -/
def fnShareMakeSpec : ChangeSpec := { name := "fnShareMake", fn := fun _ => fun
  | [d] => { results := [.lit (.bool true)], args := [d] }
  | _ => none }
def fnShareMakeRow : OpenClaim := { program := "ytmeaegopenbelaa", sum := "9317f0cefe41aa02845afcd420e04af12bdee2970f76a859bea035b9a2349456", func := "loop.example/mailcoaches/laws.FnShareMake", spec := "fnShareMake", unfollowed := true, recurses := true, apart := false }
def FnShareMakeSaid : Prop := fnShareMakeRow.holds Try.pinned (OpenSpec.ofChange fnShareMakeSpec)

/-- ITS FALSE NEIGHBOUR: 'it returns false'. Refute it at one input. -/
def fnShareMakeWrong : ChangeSpec := { name := "fnShareMake", fn := fun _ => fun
  | [d] => { results := [.lit (.bool false)], args := [d] }
  | _ => none }
def FnShareMakeWrongFalsely : Prop := fnShareMakeRow.holds Try.pinned (OpenSpec.ofChange fnShareMakeWrong)

/-- 'laws.FnExactShareMake': WHATEVER THE INPUT: true; the input reads as it did. -/
def fnExactShareMakeSpec : ChangeSpec := { name := "fnExactShareMake", fn := fun _ => fun
  | [d1, d2] => { results := [.lit (.bool true)], args := [d1, d2] }
  | _ => none }
def fnExactShareMakeRow : OpenClaim := { program := "ytmeaegopenbelaa", sum := "9317f0cefe41aa02845afcd420e04af12bdee2970f76a859bea035b9a2349456", func := "loop.example/mailcoaches/laws.FnExactShareMake", spec := "fnExactShareMake", unfollowed := true, recurses := true, apart := false }
def FnExactShareMakeSaid : Prop := fnExactShareMakeRow.holds Try.pinned (OpenSpec.ofChange fnExactShareMakeSpec)

/-- ITS FALSE NEIGHBOUR: 'it returns false'. Refute it at one input. -/
def fnExactShareMakeWrong : ChangeSpec := { name := "fnExactShareMake", fn := fun _ => fun
  | [d1, d2] => { results := [.lit (.bool false)], args := [d1, d2] }
  | _ => none }
def FnExactShareMakeWrongFalsely : Prop := fnExactShareMakeRow.holds Try.pinned (OpenSpec.ofChange fnExactShareMakeWrong)

/-- 'laws.FnExactShareRide': WHATEVER THE INPUT: true; the input reads as it did. -/
def fnExactShareRideSpec : ChangeSpec := { name := "fnExactShareRide", fn := fun _ => fun
  | [d1, d2, d3, d4] => { results := [.lit (.bool true)], args := [d1, d2, d3, d4] }
  | _ => none }
def fnExactShareRideRow : OpenClaim := { program := "ytmeaegopenbelaa", sum := "9317f0cefe41aa02845afcd420e04af12bdee2970f76a859bea035b9a2349456", func := "loop.example/mailcoaches/laws.FnExactShareRide", spec := "fnExactShareRide", unfollowed := true, recurses := true, apart := false }
def FnExactShareRideSaid : Prop := fnExactShareRideRow.holds Try.pinned (OpenSpec.ofChange fnExactShareRideSpec)

/-- ITS FALSE NEIGHBOUR: 'it returns false'. Refute it at one input. -/
def fnExactShareRideWrong : ChangeSpec := { name := "fnExactShareRide", fn := fun _ => fun
  | [d1, d2, d3, d4] => { results := [.lit (.bool false)], args := [d1, d2, d3, d4] }
  | _ => none }
def FnExactShareRideWrongFalsely : Prop := fnExactShareRideRow.holds Try.pinned (OpenSpec.ofChange fnExactShareRideWrong)

/-- 'laws.FnShareSettle': WHATEVER THE INPUT: true; the input reads as it did. -/
def fnShareSettleSpec : ChangeSpec := { name := "fnShareSettle", fn := fun _ => fun
  | [d] => { results := [.lit (.bool true)], args := [d] }
  | _ => none }
def fnShareSettleRow : OpenClaim := { program := "ytmeaegopenbelaa", sum := "9317f0cefe41aa02845afcd420e04af12bdee2970f76a859bea035b9a2349456", func := "loop.example/mailcoaches/laws.FnShareSettle", spec := "fnShareSettle", unfollowed := true, recurses := true, apart := false }
def FnShareSettleSaid : Prop := fnShareSettleRow.holds Try.pinned (OpenSpec.ofChange fnShareSettleSpec)

/-- ITS FALSE NEIGHBOUR: 'it returns false'. Refute it at one input. -/
def fnShareSettleWrong : ChangeSpec := { name := "fnShareSettle", fn := fun _ => fun
  | [d] => { results := [.lit (.bool false)], args := [d] }
  | _ => none }
def FnShareSettleWrongFalsely : Prop := fnShareSettleRow.holds Try.pinned (OpenSpec.ofChange fnShareSettleWrong)

/-- 'laws.FnShareRide': WHATEVER THE INPUT: true; the input reads as it did. -/
def fnShareRideSpec : ChangeSpec := { name := "fnShareRide", fn := fun _ => fun
  | [d] => { results := [.lit (.bool true)], args := [d] }
  | _ => none }
def fnShareRideRow : OpenClaim := { program := "ytmeaegopenbelaa", sum := "9317f0cefe41aa02845afcd420e04af12bdee2970f76a859bea035b9a2349456", func := "loop.example/mailcoaches/laws.FnShareRide", spec := "fnShareRide", unfollowed := true, recurses := true, apart := false }
def FnShareRideSaid : Prop := fnShareRideRow.holds Try.pinned (OpenSpec.ofChange fnShareRideSpec)

/-- ITS FALSE NEIGHBOUR: 'it returns false'. Refute it at one input. -/
def fnShareRideWrong : ChangeSpec := { name := "fnShareRide", fn := fun _ => fun
  | [d] => { results := [.lit (.bool false)], args := [d] }
  | _ => none }
def FnShareRideWrongFalsely : Prop := fnShareRideRow.holds Try.pinned (OpenSpec.ofChange fnShareRideWrong)

/-- 'laws.FnExactShareSettle': WHATEVER THE INPUT: true; the input reads as it did. -/
def fnExactShareSettleSpec : ChangeSpec := { name := "fnExactShareSettle", fn := fun _ => fun
  | [d1, d2] => { results := [.lit (.bool true)], args := [d1, d2] }
  | _ => none }
def fnExactShareSettleRow : OpenClaim := { program := "ytmeaegopenbelaa", sum := "9317f0cefe41aa02845afcd420e04af12bdee2970f76a859bea035b9a2349456", func := "loop.example/mailcoaches/laws.FnExactShareSettle", spec := "fnExactShareSettle", unfollowed := true, recurses := true, apart := false }
def FnExactShareSettleSaid : Prop := fnExactShareSettleRow.holds Try.pinned (OpenSpec.ofChange fnExactShareSettleSpec)

/-- ITS FALSE NEIGHBOUR: 'it returns false'. Refute it at one input. -/
def fnExactShareSettleWrong : ChangeSpec := { name := "fnExactShareSettle", fn := fun _ => fun
  | [d1, d2] => { results := [.lit (.bool false)], args := [d1, d2] }
  | _ => none }
def FnExactShareSettleWrongFalsely : Prop := fnExactShareSettleRow.holds Try.pinned (OpenSpec.ofChange fnExactShareSettleWrong)

/- THE SECOND FORM. 'bulk': how many values and letters a reading holds, each counted each time it is reached (what is shared counts as often as it is met; a slice's spare places count too). A statement '..UptoSaid' is the law's where the arguments, and the package variables that the reading takes, are together of bulk at most 1048576: NARROWER than '..Said'. Prove '..Said' where nothing that the law and all that it calls make is longer than what came in: it says more and counts as full. Else prove '..UptoSaid'. A law counts once. -/
mutual
def uptoBulk {H : Type} : DataW H → Nat
  | .lit (.string bytes) => bytes.length + 1
  | .lit _ => 1
  | .nil => 1
  | .ptr d => uptoBulk d + 1
  | .slice elems spare => uptoBulkAll elems + uptoBulkAll spare + 1
  | .agg parts => uptoBulkAll parts + 1
  | .iface _ d => uptoBulk d + 1
  | .map entries => uptoBulkEntries entries + 1
  | .held _ => 1
def uptoBulkAll {H : Type} : List (DataW H) → Nat
  | [] => 0
  | d :: r => uptoBulk d + uptoBulkAll r
def uptoBulkEntries {H : Type} : List (Lit × DataW H) → Nat
  | [] => 0
  | x :: r => uptoBulkEntry x + uptoBulkEntries r
def uptoBulkEntry {H : Type} : Lit × DataW H → Nat
  | (.string bytes, d) => bytes.length + uptoBulk d + 1
  | (_, d) => uptoBulk d + 1
 end
def uptoSmall : (H : Type) → List (DataW H) → Bool := fun _ ds => decide (uptoBulkAll ds ≤ 1048576)
def OpenSpec.upto (s : _root_.Go.ChangeSpec) : _root_.Go.OpenSpec := { _root_.Go.OpenSpec.ofChange s with cond := some uptoSmall }

/-- 'laws.FnShareOrder', WHERE WHAT IT READS IS OF BULK AT MOST 1048576: true; the input reads as it did. -/
def fnShareOrderUptoRow : OpenClaim := { program := "ytmeaegopenbelaa", sum := "9317f0cefe41aa02845afcd420e04af12bdee2970f76a859bea035b9a2349456", func := "loop.example/mailcoaches/laws.FnShareOrder", spec := "fnShareOrder", unfollowed := true, recurses := true, apart := false, narrowed := true }
def FnShareOrderUptoSaid : Prop := fnShareOrderUptoRow.holds Try.pinned (OpenSpec.upto fnShareOrderSpec)

/-- 'laws.FnShareMake', WHERE WHAT IT READS IS OF BULK AT MOST 1048576: true; the input reads as it did. -/
def fnShareMakeUptoRow : OpenClaim := { program := "ytmeaegopenbelaa", sum := "9317f0cefe41aa02845afcd420e04af12bdee2970f76a859bea035b9a2349456", func := "loop.example/mailcoaches/laws.FnShareMake", spec := "fnShareMake", unfollowed := true, recurses := true, apart := false, narrowed := true }
def FnShareMakeUptoSaid : Prop := fnShareMakeUptoRow.holds Try.pinned (OpenSpec.upto fnShareMakeSpec)

/-- 'laws.FnExactShareMake', WHERE WHAT IT READS IS OF BULK AT MOST 1048576: true; the input reads as it did. -/
def fnExactShareMakeUptoRow : OpenClaim := { program := "ytmeaegopenbelaa", sum := "9317f0cefe41aa02845afcd420e04af12bdee2970f76a859bea035b9a2349456", func := "loop.example/mailcoaches/laws.FnExactShareMake", spec := "fnExactShareMake", unfollowed := true, recurses := true, apart := false, narrowed := true }
def FnExactShareMakeUptoSaid : Prop := fnExactShareMakeUptoRow.holds Try.pinned (OpenSpec.upto fnExactShareMakeSpec)

/-- 'laws.FnExactShareRide', WHERE WHAT IT READS IS OF BULK AT MOST 1048576: true; the input reads as it did. -/
def fnExactShareRideUptoRow : OpenClaim := { program := "ytmeaegopenbelaa", sum := "9317f0cefe41aa02845afcd420e04af12bdee2970f76a859bea035b9a2349456", func := "loop.example/mailcoaches/laws.FnExactShareRide", spec := "fnExactShareRide", unfollowed := true, recurses := true, apart := false, narrowed := true }
def FnExactShareRideUptoSaid : Prop := fnExactShareRideUptoRow.holds Try.pinned (OpenSpec.upto fnExactShareRideSpec)

/-- 'laws.FnShareSettle', WHERE WHAT IT READS IS OF BULK AT MOST 1048576: true; the input reads as it did. -/
def fnShareSettleUptoRow : OpenClaim := { program := "ytmeaegopenbelaa", sum := "9317f0cefe41aa02845afcd420e04af12bdee2970f76a859bea035b9a2349456", func := "loop.example/mailcoaches/laws.FnShareSettle", spec := "fnShareSettle", unfollowed := true, recurses := true, apart := false, narrowed := true }
def FnShareSettleUptoSaid : Prop := fnShareSettleUptoRow.holds Try.pinned (OpenSpec.upto fnShareSettleSpec)

/-- 'laws.FnShareRide', WHERE WHAT IT READS IS OF BULK AT MOST 1048576: true; the input reads as it did. -/
def fnShareRideUptoRow : OpenClaim := { program := "ytmeaegopenbelaa", sum := "9317f0cefe41aa02845afcd420e04af12bdee2970f76a859bea035b9a2349456", func := "loop.example/mailcoaches/laws.FnShareRide", spec := "fnShareRide", unfollowed := true, recurses := true, apart := false, narrowed := true }
def FnShareRideUptoSaid : Prop := fnShareRideUptoRow.holds Try.pinned (OpenSpec.upto fnShareRideSpec)

/-- 'laws.FnExactShareSettle', WHERE WHAT IT READS IS OF BULK AT MOST 1048576: true; the input reads as it did. -/
def fnExactShareSettleUptoRow : OpenClaim := { program := "ytmeaegopenbelaa", sum := "9317f0cefe41aa02845afcd420e04af12bdee2970f76a859bea035b9a2349456", func := "loop.example/mailcoaches/laws.FnExactShareSettle", spec := "fnExactShareSettle", unfollowed := true, recurses := true, apart := false, narrowed := true }
def FnExactShareSettleUptoSaid : Prop := fnExactShareSettleUptoRow.holds Try.pinned (OpenSpec.upto fnExactShareSettleSpec)

end Rows
end Go.Proofs.Ytmeaegopenbelaa

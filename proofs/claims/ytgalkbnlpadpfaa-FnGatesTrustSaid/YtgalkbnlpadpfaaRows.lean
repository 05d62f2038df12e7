/-
  No cell of these rows narrows 'for every input' (looked for: loops, veiled, ifaces, maps, wideKeys, modest, calm, conditions, laid).
  DERIVED. THE GIVEN ROWS OF THIS SEAT. 4 by the template 'for every input the law returns true; each argument reads behind the call as it read before'; 0 by the template 'total and deterministic' (their statements: YtgalkbnlpadpfaaTotals.lean).
  GIVEN WITH THE SEED: the statements are not yours to turn. If you find one false, say at which input.
  Laid BY PROGRAM, IN A SANDBOX (cutbox-rows.mjs): the forced cells as the released guide's own fill.sh prints them over the translation 64f747d971423cb1… (all of the seat's roots in one cut). By AI agents, Wed Nov 11 2026. No macro, syntax, notation, axiom, sorry.
-/
import Derived.Test.YtgalkbnlpadpfaaChecked
import GoSem.Claim
import GoSem.ClaimJoined
import GoSem.ClaimMapViews
import Derived.JoinedTies
import Derived.KernelRfl
namespace Go.Proofs.Ytgalkbnlpadpfaa
/- THE CELL 'sum', in the pinned program and in every row, IS THE sha256 OF THE DUMP (.gsa) THAT YtgalkbnlpadpfaaProg.lean LOADS. Nothing in Lean hashes anything: it is a label: what it is worth is what the hold of that sum in a sandbox is worth. -/
noncomputable def Try.pinned : Pinned := { name := "ytgalkbnlpadpfaa", sum := "64f747d971423cb1a9aac959bf4d22432a020ff543e3e44410bbab9af128131f", checked := Try.checked }
namespace Rows
def none {H : Type} : Left H := { results := [], args := [] }

/-- 'laws.FnExactGatesValid': WHATEVER THE INPUT: true; the input reads as it did. -/
def fnExactGatesValidSpec : ChangeSpec := { name := "fnExactGatesValid", fn := fun _ => fun
  | [d] => { results := [.lit (.bool true)], args := [d] }
  | _ => none }
def fnExactGatesValidRow : OpenClaim := { program := "ytgalkbnlpadpfaa", sum := "64f747d971423cb1a9aac959bf4d22432a020ff543e3e44410bbab9af128131f", func := "loop.example/mailcoaches/laws.FnExactGatesValid", spec := "fnExactGatesValid", apart := false }
def FnExactGatesValidSaid : Prop := fnExactGatesValidRow.holds Try.pinned (OpenSpec.ofChange fnExactGatesValidSpec)

/-- ITS FALSE NEIGHBOUR: 'it returns false'. Refute it at one input. -/
def fnExactGatesValidWrong : ChangeSpec := { name := "fnExactGatesValid", fn := fun _ => fun
  | [d] => { results := [.lit (.bool false)], args := [d] }
  | _ => none }
def FnExactGatesValidWrongFalsely : Prop := fnExactGatesValidRow.holds Try.pinned (OpenSpec.ofChange fnExactGatesValidWrong)

/-- 'laws.FnGatesTrust': WHATEVER THE INPUT: true; the input reads as it did. -/
def fnGatesTrustSpec : ChangeSpec := { name := "fnGatesTrust", fn := fun _ => fun
  | [d] => { results := [.lit (.bool true)], args := [d] }
  | _ => none }
def fnGatesTrustRow : OpenClaim := { program := "ytgalkbnlpadpfaa", sum := "64f747d971423cb1a9aac959bf4d22432a020ff543e3e44410bbab9af128131f", func := "loop.example/mailcoaches/laws.FnGatesTrust", spec := "fnGatesTrust", unfollowed := true, recurses := true, apart := false }
def FnGatesTrustSaid : Prop := fnGatesTrustRow.holds Try.pinned (OpenSpec.ofChange fnGatesTrustSpec)

/-- ITS FALSE NEIGHBOUR: 'it returns false'. Refute it at one input. -/
def fnGatesTrustWrong : ChangeSpec := { name := "fnGatesTrust", fn := fun _ => fun
  | [d] => { results := [.lit (.bool false)], args := [d] }
  | _ => none }
def FnGatesTrustWrongFalsely : Prop := fnGatesTrustRow.holds Try.pinned (OpenSpec.ofChange fnGatesTrustWrong)

/-- 'laws.FnPassed': WHATEVER THE INPUT: true; the input reads as it did. -/
def fnPassedSpec : ChangeSpec := { name := "fnPassed", fn := fun _ => fun
  | [d1, d2] => { results := [.lit (.bool true)], args := [d1, d2] }
  | _ => none }
def fnPassedRow : OpenClaim := { program := "ytgalkbnlpadpfaa", sum := "64f747d971423cb1a9aac959bf4d22432a020ff543e3e44410bbab9af128131f", func := "loop.example/mailcoaches/laws.FnPassed", spec := "fnPassed", apart := false }
def FnPassedSaid : Prop := fnPassedRow.holds Try.pinned (OpenSpec.ofChange fnPassedSpec)

/-- ITS FALSE NEIGHBOUR: 'it returns false'. Refute it at one input. -/
def fnPassedWrong : ChangeSpec := { name := "fnPassed", fn := fun _ => fun
  | [d1, d2] => { results := [.lit (.bool false)], args := [d1, d2] }
  | _ => none }
def FnPassedWrongFalsely : Prop := fnPassedRow.holds Try.pinned (OpenSpec.ofChange fnPassedWrong)

/-- 'laws.FnExactGatesLater': WHATEVER THE INPUT: true; the input reads as it did. -/
def fnExactGatesLaterSpec : ChangeSpec := { name := "fnExactGatesLater", fn := fun _ => fun
  | [d1, d2] => { results := [.lit (.bool true)], args := [d1, d2] }
  | _ => none }
def fnExactGatesLaterRow : OpenClaim := { program := "ytgalkbnlpadpfaa", sum := "64f747d971423cb1a9aac959bf4d22432a020ff543e3e44410bbab9af128131f", func := "loop.example/mailcoaches/laws.FnExactGatesLater", spec := "fnExactGatesLater", apart := false }
def FnExactGatesLaterSaid : Prop := fnExactGatesLaterRow.holds Try.pinned (OpenSpec.ofChange fnExactGatesLaterSpec)

/-- ITS FALSE NEIGHBOUR: 'it returns false'. Refute it at one input. -/
def fnExactGatesLaterWrong : ChangeSpec := { name := "fnExactGatesLater", fn := fun _ => fun
  | [d1, d2] => { results := [.lit (.bool false)], args := [d1, d2] }
  | _ => none }
def FnExactGatesLaterWrongFalsely : Prop := fnExactGatesLaterRow.holds Try.pinned (OpenSpec.ofChange fnExactGatesLaterWrong)

/- THE SECOND FORM. 'bulk': how many values and letters a reading holds, each counted each time it is reached (what is shared counts as often as it is met; a slice's spare places count too). A statement '..UptoSaid' is the law's where the arguments, and the package variables that the reading takes, are together of bulk at most 1048576: NARROWER than '..Said'. Prove '..Said' where nothing that the law and all that it calls make is longer than what came in: it says more and counts as full. Else prove '..UptoSaid'. A law counts once. -/
mutual
def uptoBulk {H : Type} : DataW H → Nat
  | .lit (.string bytes) => bytes.length + 1
  | .lit _ => 1
  | .nil => 1
  | .ptr d => uptoBulk d + 1
  | .slice elems spare => uptoBulkAll elems + uptoBulkAll spare + 1
  | .agg parts => uptoBulkAll parts + 1
  | .iface _ d => uptoBulk d + 1
  | .map entries => uptoBulkEntries entries + 1
  | .held _ => 1
def uptoBulkAll {H : Type} : List (DataW H) → Nat
  | [] => 0
  | d :: r => uptoBulk d + uptoBulkAll r
def uptoBulkEntries {H : Type} : List (Lit × DataW H) → Nat
  | [] => 0
  | x :: r => uptoBulkEntry x + uptoBulkEntries r
def uptoBulkEntry {H : Type} : Lit × DataW H → Nat
  | (.string bytes, d) => bytes.length + uptoBulk d + 1
  | (_, d) => uptoBulk d + 1
 end
def uptoSmall : (H : Type) → List (DataW H) → Bool := fun _ ds => decide (uptoBulkAll ds ≤ 1048576)
def OpenSpec.upto (s : _root_.Go.ChangeSpec) : _root_.Go.OpenSpec := { _root_.Go.OpenSpec.ofChange s with cond := some uptoSmall }

/-- 'laws.FnExactGatesValid', WHERE WHAT IT READS IS OF BULK AT MOST 1048576: true; the input reads as it did. -/
def fnExactGatesValidUptoRow : OpenClaim := { program := "ytgalkbnlpadpfaa", sum := "64f747d971423cb1a9aac959bf4d22432a020ff543e3e44410bbab9af128131f", func := "loop.example/mailcoaches/laws.FnExactGatesValid", spec := "fnExactGatesValid", apart := false, narrowed := true }
def FnExactGatesValidUptoSaid : Prop := fnExactGatesValidUptoRow.holds Try.pinned (OpenSpec.upto fnExactGatesValidSpec)

/-- 'laws.FnGatesTrust', WHERE WHAT IT READS IS OF BULK AT MOST 1048576: true; the input reads as it did. -/
def fnGatesTrustUptoRow : OpenClaim := { program := "ytgalkbnlpadpfaa", sum := "64f747d971423cb1a9aac959bf4d22432a020ff543e3e44410bbab9af128131f", func := "loop.example/mailcoaches/laws.FnGatesTrust", spec := "fnGatesTrust", unfollowed := true, recurses := true, apart := false, narrowed := true }
def FnGatesTrustUptoSaid : Prop := fnGatesTrustUptoRow.holds Try.pinned (OpenSpec.upto fnGatesTrustSpec)

/-- 'laws.FnPassed', WHERE WHAT IT READS IS OF BULK AT MOST 1048576: true; the input reads as it did. -/
def fnPassedUptoRow : OpenClaim := { program := "ytgalkbnlpadpfaa", sum := "64f747d971423cb1a9aac959bf4d22432a020ff543e3e44410bbab9af128131f", func := "loop.example/mailcoaches/laws.FnPassed", spec := "fnPassed", apart := false, narrowed := true }
def FnPassedUptoSaid : Prop := fnPassedUptoRow.holds Try.pinned (OpenSpec.upto fnPassedSpec)

/-- 'laws.FnExactGatesLater', WHERE WHAT IT READS IS OF BULK AT MOST 1048576: true; the input reads as it did. -/
def fnExactGatesLaterUptoRow : OpenClaim := { program := "ytgalkbnlpadpfaa", sum := "64f747d971423cb1a9aac959bf4d22432a020ff543e3e44410bbab9af128131f", func := "loop.example/mailcoaches/laws.FnExactGatesLater", spec := "fnExactGatesLater", apart := false, narrowed := true }
def FnExactGatesLaterUptoSaid : Prop := fnExactGatesLaterUptoRow.holds Try.pinned (OpenSpec.upto fnExactGatesLaterSpec)

end Rows
end Go.Proofs.Ytgalkbnlpadpfaa

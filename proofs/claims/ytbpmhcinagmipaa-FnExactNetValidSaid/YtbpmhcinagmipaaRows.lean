/-
  No cell of these rows narrows 'for every input' (looked for: loops, veiled, ifaces, maps, wideKeys, modest, calm, conditions, laid).
  DERIVED. THE GIVEN ROWS OF THIS SEAT. 12 by the template 'for every input the law returns true; each argument reads behind the call as it read before'; 0 by the template 'total and deterministic' (their statements: YtbpmhcinagmipaaTotals.lean).
  GIVEN WITH THE SEED: the statements are not yours to turn. If you find one false, say at which input.
  Laid BY PROGRAM, IN A SANDBOX (cutbox-rows.mjs): the forced cells as the released guide's own fill.sh prints them over the translation 926f3d92ba4aa296… (all of the seat's roots in one cut). By AI agents, Wed Nov 11 2026. No macro, syntax, notation, axiom, sorry.
-/
import Derived.Test.YtbpmhcinagmipaaChecked
import GoSem.Claim
import GoSem.ClaimJoined
import GoSem.ClaimMapViews
import Derived.JoinedTies
import Derived.KernelRfl
namespace Go.Proofs.Ytbpmhcinagmipaa
/- THE CELL 'sum', in the pinned program and in every row, IS THE sha256 OF THE DUMP (.gsa) THAT YtbpmhcinagmipaaProg.lean LOADS. Nothing in Lean hashes anything: it is a label: what it is worth is what the hold of that sum in a sandbox is worth. -/
noncomputable def Try.pinned : Pinned := { name := "ytbpmhcinagmipaa", sum := "926f3d92ba4aa29668a2409f38de01594711c7239478b2d1e23717778938062d", checked := Try.checked }
namespace Rows
def none {H : Type} : Left H := { results := [], args := [] }

/-- 'laws.FnExactConnectMade': WHATEVER THE INPUT: true; the input reads as it did. -/
def fnExactConnectMadeSpec : ChangeSpec := { name := "fnExactConnectMade", fn := fun _ => fun
  | [d1, d2, d3, d4, d5, d6, d7] => { results := [.lit (.bool true)], args := [d1, d2, d3, d4, d5, d6, d7] }
  | _ => none }
def fnExactConnectMadeRow : OpenClaim := { program := "ytbpmhcinagmipaa", sum := "926f3d92ba4aa29668a2409f38de01594711c7239478b2d1e23717778938062d", func := "loop.example/mailcoaches/laws.FnExactConnectMade", spec := "fnExactConnectMade", apart := false }
def FnExactConnectMadeSaid : Prop := fnExactConnectMadeRow.holds Try.pinned (OpenSpec.ofChange fnExactConnectMadeSpec)

/-- ITS FALSE NEIGHBOUR: 'it returns false'. Refute it at one input. -/
def fnExactConnectMadeWrong : ChangeSpec := { name := "fnExactConnectMade", fn := fun _ => fun
  | [d1, d2, d3, d4, d5, d6, d7] => { results := [.lit (.bool false)], args := [d1, d2, d3, d4, d5, d6, d7] }
  | _ => none }
def FnExactConnectMadeWrongFalsely : Prop := fnExactConnectMadeRow.holds Try.pinned (OpenSpec.ofChange fnExactConnectMadeWrong)

/-- 'laws.FnExactNetValid': WHATEVER THE INPUT: true; the input reads as it did. -/
def fnExactNetValidSpec : ChangeSpec := { name := "fnExactNetValid", fn := fun _ => fun
  | [d1, d2] => { results := [.lit (.bool true)], args := [d1, d2] }
  | _ => none }
def fnExactNetValidRow : OpenClaim := { program := "ytbpmhcinagmipaa", sum := "926f3d92ba4aa29668a2409f38de01594711c7239478b2d1e23717778938062d", func := "loop.example/mailcoaches/laws.FnExactNetValid", spec := "fnExactNetValid", apart := false }
def FnExactNetValidSaid : Prop := fnExactNetValidRow.holds Try.pinned (OpenSpec.ofChange fnExactNetValidSpec)

/-- ITS FALSE NEIGHBOUR: 'it returns false'. Refute it at one input. -/
def fnExactNetValidWrong : ChangeSpec := { name := "fnExactNetValid", fn := fun _ => fun
  | [d1, d2] => { results := [.lit (.bool false)], args := [d1, d2] }
  | _ => none }
def FnExactNetValidWrongFalsely : Prop := fnExactNetValidRow.holds Try.pinned (OpenSpec.ofChange fnExactNetValidWrong)

/-- 'laws.FnExactLateFree': WHATEVER THE INPUT: true; the input reads as it did. -/
def fnExactLateFreeSpec : ChangeSpec := { name := "fnExactLateFree", fn := fun _ => fun
  | [d1, d2, d3] => { results := [.lit (.bool true)], args := [d1, d2, d3] }
  | _ => none }
def fnExactLateFreeRow : OpenClaim := { program := "ytbpmhcinagmipaa", sum := "926f3d92ba4aa29668a2409f38de01594711c7239478b2d1e23717778938062d", func := "loop.example/mailcoaches/laws.FnExactLateFree", spec := "fnExactLateFree", apart := false }
def FnExactLateFreeSaid : Prop := fnExactLateFreeRow.holds Try.pinned (OpenSpec.ofChange fnExactLateFreeSpec)

/-- ITS FALSE NEIGHBOUR: 'it returns false'. Refute it at one input. -/
def fnExactLateFreeWrong : ChangeSpec := { name := "fnExactLateFree", fn := fun _ => fun
  | [d1, d2, d3] => { results := [.lit (.bool false)], args := [d1, d2, d3] }
  | _ => none }
def FnExactLateFreeWrongFalsely : Prop := fnExactLateFreeRow.holds Try.pinned (OpenSpec.ofChange fnExactLateFreeWrong)

/-- 'laws.FnExactConnectLate': WHATEVER THE INPUT: true; the input reads as it did. -/
def fnExactConnectLateSpec : ChangeSpec := { name := "fnExactConnectLate", fn := fun _ => fun
  | [d1, d2, d3, d4, d5, d6, d7] => { results := [.lit (.bool true)], args := [d1, d2, d3, d4, d5, d6, d7] }
  | _ => none }
def fnExactConnectLateRow : OpenClaim := { program := "ytbpmhcinagmipaa", sum := "926f3d92ba4aa29668a2409f38de01594711c7239478b2d1e23717778938062d", func := "loop.example/mailcoaches/laws.FnExactConnectLate", spec := "fnExactConnectLate", apart := false }
def FnExactConnectLateSaid : Prop := fnExactConnectLateRow.holds Try.pinned (OpenSpec.ofChange fnExactConnectLateSpec)

/-- ITS FALSE NEIGHBOUR: 'it returns false'. Refute it at one input. -/
def fnExactConnectLateWrong : ChangeSpec := { name := "fnExactConnectLate", fn := fun _ => fun
  | [d1, d2, d3, d4, d5, d6, d7] => { results := [.lit (.bool false)], args := [d1, d2, d3, d4, d5, d6, d7] }
  | _ => none }
def FnExactConnectLateWrongFalsely : Prop := fnExactConnectLateRow.holds Try.pinned (OpenSpec.ofChange fnExactConnectLateWrong)

/-- 'laws.FnExactConnectMost': WHATEVER THE INPUT: true; the input reads as it did. -/
def fnExactConnectMostSpec : ChangeSpec := { name := "fnExactConnectMost", fn := fun _ => fun
  | [d1, d2, d3, d4, d5, d6] => { results := [.lit (.bool true)], args := [d1, d2, d3, d4, d5, d6] }
  | _ => none }
def fnExactConnectMostRow : OpenClaim := { program := "ytbpmhcinagmipaa", sum := "926f3d92ba4aa29668a2409f38de01594711c7239478b2d1e23717778938062d", func := "loop.example/mailcoaches/laws.FnExactConnectMost", spec := "fnExactConnectMost", apart := false }
def FnExactConnectMostSaid : Prop := fnExactConnectMostRow.holds Try.pinned (OpenSpec.ofChange fnExactConnectMostSpec)

/-- ITS FALSE NEIGHBOUR: 'it returns false'. Refute it at one input. -/
def fnExactConnectMostWrong : ChangeSpec := { name := "fnExactConnectMost", fn := fun _ => fun
  | [d1, d2, d3, d4, d5, d6] => { results := [.lit (.bool false)], args := [d1, d2, d3, d4, d5, d6] }
  | _ => none }
def FnExactConnectMostWrongFalsely : Prop := fnExactConnectMostRow.holds Try.pinned (OpenSpec.ofChange fnExactConnectMostWrong)

/-- 'laws.FnExactLateSlack': WHATEVER THE INPUT: true; the input reads as it did. -/
def fnExactLateSlackSpec : ChangeSpec := { name := "fnExactLateSlack", fn := fun _ => fun
  | [d1, d2, d3] => { results := [.lit (.bool true)], args := [d1, d2, d3] }
  | _ => none }
def fnExactLateSlackRow : OpenClaim := { program := "ytbpmhcinagmipaa", sum := "926f3d92ba4aa29668a2409f38de01594711c7239478b2d1e23717778938062d", func := "loop.example/mailcoaches/laws.FnExactLateSlack", spec := "fnExactLateSlack", apart := false }
def FnExactLateSlackSaid : Prop := fnExactLateSlackRow.holds Try.pinned (OpenSpec.ofChange fnExactLateSlackSpec)

/-- ITS FALSE NEIGHBOUR: 'it returns false'. Refute it at one input. -/
def fnExactLateSlackWrong : ChangeSpec := { name := "fnExactLateSlack", fn := fun _ => fun
  | [d1, d2, d3] => { results := [.lit (.bool false)], args := [d1, d2, d3] }
  | _ => none }
def FnExactLateSlackWrongFalsely : Prop := fnExactLateSlackRow.holds Try.pinned (OpenSpec.ofChange fnExactLateSlackWrong)

/-- 'laws.FnExactLateEnd': WHATEVER THE INPUT: true; the input reads as it did. -/
def fnExactLateEndSpec : ChangeSpec := { name := "fnExactLateEnd", fn := fun _ => fun
  | [d1, d2, d3, d4, d5] => { results := [.lit (.bool true)], args := [d1, d2, d3, d4, d5] }
  | _ => none }
def fnExactLateEndRow : OpenClaim := { program := "ytbpmhcinagmipaa", sum := "926f3d92ba4aa29668a2409f38de01594711c7239478b2d1e23717778938062d", func := "loop.example/mailcoaches/laws.FnExactLateEnd", spec := "fnExactLateEnd", unfollowed := true, recurses := true, apart := false }
def FnExactLateEndSaid : Prop := fnExactLateEndRow.holds Try.pinned (OpenSpec.ofChange fnExactLateEndSpec)

/-- ITS FALSE NEIGHBOUR: 'it returns false'. Refute it at one input. -/
def fnExactLateEndWrong : ChangeSpec := { name := "fnExactLateEnd", fn := fun _ => fun
  | [d1, d2, d3, d4, d5] => { results := [.lit (.bool false)], args := [d1, d2, d3, d4, d5] }
  | _ => none }
def FnExactLateEndWrongFalsely : Prop := fnExactLateEndRow.holds Try.pinned (OpenSpec.ofChange fnExactLateEndWrong)

/-- 'laws.FnExactLateSum': WHATEVER THE INPUT: true; the input reads as it did. -/
def fnExactLateSumSpec : ChangeSpec := { name := "fnExactLateSum", fn := fun _ => fun
  | [d1, d2, d3, d4, d5] => { results := [.lit (.bool true)], args := [d1, d2, d3, d4, d5] }
  | _ => none }
def fnExactLateSumRow : OpenClaim := { program := "ytbpmhcinagmipaa", sum := "926f3d92ba4aa29668a2409f38de01594711c7239478b2d1e23717778938062d", func := "loop.example/mailcoaches/laws.FnExactLateSum", spec := "fnExactLateSum", unfollowed := true, recurses := true, apart := false }
def FnExactLateSumSaid : Prop := fnExactLateSumRow.holds Try.pinned (OpenSpec.ofChange fnExactLateSumSpec)

/-- ITS FALSE NEIGHBOUR: 'it returns false'. Refute it at one input. -/
def fnExactLateSumWrong : ChangeSpec := { name := "fnExactLateSum", fn := fun _ => fun
  | [d1, d2, d3, d4, d5] => { results := [.lit (.bool false)], args := [d1, d2, d3, d4, d5] }
  | _ => none }
def FnExactLateSumWrongFalsely : Prop := fnExactLateSumRow.holds Try.pinned (OpenSpec.ofChange fnExactLateSumWrong)

/-- 'laws.FnExactLateArrive': WHATEVER THE INPUT: true; the input reads as it did. -/
def fnExactLateArriveSpec : ChangeSpec := { name := "fnExactLateArrive", fn := fun _ => fun
  | [d1, d2, d3, d4, d5] => { results := [.lit (.bool true)], args := [d1, d2, d3, d4, d5] }
  | _ => none }
def fnExactLateArriveRow : OpenClaim := { program := "ytbpmhcinagmipaa", sum := "926f3d92ba4aa29668a2409f38de01594711c7239478b2d1e23717778938062d", func := "loop.example/mailcoaches/laws.FnExactLateArrive", spec := "fnExactLateArrive", unfollowed := true, recurses := true, apart := false }
def FnExactLateArriveSaid : Prop := fnExactLateArriveRow.holds Try.pinned (OpenSpec.ofChange fnExactLateArriveSpec)

/-- ITS FALSE NEIGHBOUR: 'it returns false'. Refute it at one input. -/
def fnExactLateArriveWrong : ChangeSpec := { name := "fnExactLateArrive", fn := fun _ => fun
  | [d1, d2, d3, d4, d5] => { results := [.lit (.bool false)], args := [d1, d2, d3, d4, d5] }
  | _ => none }
def FnExactLateArriveWrongFalsely : Prop := fnExactLateArriveRow.holds Try.pinned (OpenSpec.ofChange fnExactLateArriveWrong)

/-- 'laws.FnExactLateLeave': WHATEVER THE INPUT: true; the input reads as it did. -/
def fnExactLateLeaveSpec : ChangeSpec := { name := "fnExactLateLeave", fn := fun _ => fun
  | [d1, d2, d3, d4, d5] => { results := [.lit (.bool true)], args := [d1, d2, d3, d4, d5] }
  | _ => none }
def fnExactLateLeaveRow : OpenClaim := { program := "ytbpmhcinagmipaa", sum := "926f3d92ba4aa29668a2409f38de01594711c7239478b2d1e23717778938062d", func := "loop.example/mailcoaches/laws.FnExactLateLeave", spec := "fnExactLateLeave", unfollowed := true, recurses := true, apart := false }
def FnExactLateLeaveSaid : Prop := fnExactLateLeaveRow.holds Try.pinned (OpenSpec.ofChange fnExactLateLeaveSpec)

/-- ITS FALSE NEIGHBOUR: 'it returns false'. Refute it at one input. -/
def fnExactLateLeaveWrong : ChangeSpec := { name := "fnExactLateLeave", fn := fun _ => fun
  | [d1, d2, d3, d4, d5] => { results := [.lit (.bool false)], args := [d1, d2, d3, d4, d5] }
  | _ => none }
def FnExactLateLeaveWrongFalsely : Prop := fnExactLateLeaveRow.holds Try.pinned (OpenSpec.ofChange fnExactLateLeaveWrong)

/-- 'laws.FnExactLateBlame': WHATEVER THE INPUT: true; the input reads as it did. -/
def fnExactLateBlameSpec : ChangeSpec := { name := "fnExactLateBlame", fn := fun _ => fun
  | [d1, d2, d3, d4, d5, d6] => { results := [.lit (.bool true)], args := [d1, d2, d3, d4, d5, d6] }
  | _ => none }
def fnExactLateBlameRow : OpenClaim := { program := "ytbpmhcinagmipaa", sum := "926f3d92ba4aa29668a2409f38de01594711c7239478b2d1e23717778938062d", func := "loop.example/mailcoaches/laws.FnExactLateBlame", spec := "fnExactLateBlame", unfollowed := true, recurses := true, apart := false }
def FnExactLateBlameSaid : Prop := fnExactLateBlameRow.holds Try.pinned (OpenSpec.ofChange fnExactLateBlameSpec)

/-- ITS FALSE NEIGHBOUR: 'it returns false'. Refute it at one input. -/
def fnExactLateBlameWrong : ChangeSpec := { name := "fnExactLateBlame", fn := fun _ => fun
  | [d1, d2, d3, d4, d5, d6] => { results := [.lit (.bool false)], args := [d1, d2, d3, d4, d5, d6] }
  | _ => none }
def FnExactLateBlameWrongFalsely : Prop := fnExactLateBlameRow.holds Try.pinned (OpenSpec.ofChange fnExactLateBlameWrong)

/-- 'laws.FnExactLateStops': WHATEVER THE INPUT: true; the input reads as it did. -/
def fnExactLateStopsSpec : ChangeSpec := { name := "fnExactLateStops", fn := fun _ => fun
  | [d1, d2, d3, d4, d5] => { results := [.lit (.bool true)], args := [d1, d2, d3, d4, d5] }
  | _ => none }
def fnExactLateStopsRow : OpenClaim := { program := "ytbpmhcinagmipaa", sum := "926f3d92ba4aa29668a2409f38de01594711c7239478b2d1e23717778938062d", func := "loop.example/mailcoaches/laws.FnExactLateStops", spec := "fnExactLateStops", unfollowed := true, recurses := true, apart := false }
def FnExactLateStopsSaid : Prop := fnExactLateStopsRow.holds Try.pinned (OpenSpec.ofChange fnExactLateStopsSpec)

/-- ITS FALSE NEIGHBOUR: 'it returns false'. Refute it at one input. -/
def fnExactLateStopsWrong : ChangeSpec := { name := "fnExactLateStops", fn := fun _ => fun
  | [d1, d2, d3, d4, d5] => { results := [.lit (.bool false)], args := [d1, d2, d3, d4, d5] }
  | _ => none }
def FnExactLateStopsWrongFalsely : Prop := fnExactLateStopsRow.holds Try.pinned (OpenSpec.ofChange fnExactLateStopsWrong)

/- THE SECOND FORM. 'bulk': how many values and letters a reading holds, each counted each time it is reached (what is shared counts as often as it is met; a slice's spare places count too). A statement '..UptoSaid' is the law's where the arguments, and the package variables that the reading takes, are together of bulk at most 1048576: NARROWER than '..Said'. Prove '..Said' where nothing that the law and all that it calls make is longer than what came in: it says more and counts as full. Else prove '..UptoSaid'. A law counts once. -/
mutual
def uptoBulk {H : Type} : DataW H → Nat
  | .lit (.string bytes) => bytes.length + 1
  | .lit _ => 1
  | .nil => 1
  | .ptr d => uptoBulk d + 1
  | .slice elems spare => uptoBulkAll elems + uptoBulkAll spare + 1
  | .agg parts => uptoBulkAll parts + 1
  | .iface _ d => uptoBulk d + 1
  | .map entries => uptoBulkEntries entries + 1
  | .held _ => 1
def uptoBulkAll {H : Type} : List (DataW H) → Nat
  | [] => 0
  | d :: r => uptoBulk d + uptoBulkAll r
def uptoBulkEntries {H : Type} : List (Lit × DataW H) → Nat
  | [] => 0
  | x :: r => uptoBulkEntry x + uptoBulkEntries r
def uptoBulkEntry {H : Type} : Lit × DataW H → Nat
  | (.string bytes, d) => bytes.length + uptoBulk d + 1
  | (_, d) => uptoBulk d + 1
 end
def uptoSmall : (H : Type) → List (DataW H) → Bool := fun _ ds => decide (uptoBulkAll ds ≤ 1048576)
def OpenSpec.upto (s : _root_.Go.ChangeSpec) : _root_.Go.OpenSpec := { _root_.Go.OpenSpec.ofChange s with cond := some uptoSmall }

/-- 'laws.FnExactConnectMade', WHERE WHAT IT READS IS OF BULK AT MOST 1048576: true; the input reads as it did. -/
def fnExactConnectMadeUptoRow : OpenClaim := { program := "ytbpmhcinagmipaa", sum := "926f3d92ba4aa29668a2409f38de01594711c7239478b2d1e23717778938062d", func := "loop.example/mailcoaches/laws.FnExactConnectMade", spec := "fnExactConnectMade", apart := false, narrowed := true }
def FnExactConnectMadeUptoSaid : Prop := fnExactConnectMadeUptoRow.holds Try.pinned (OpenSpec.upto fnExactConnectMadeSpec)

/-- 'laws.FnExactNetValid', WHERE WHAT IT READS IS OF BULK AT MOST 1048576: true; the input reads as it did. -/
def fnExactNetValidUptoRow : OpenClaim := { program := "ytbpmhcinagmipaa", sum := "926f3d92ba4aa29668a2409f38de01594711c7239478b2d1e23717778938062d", func := "loop.example/mailcoaches/laws.FnExactNetValid", spec := "fnExactNetValid", apart := false, narrowed := true }
def FnExactNetValidUptoSaid : Prop := fnExactNetValidUptoRow.holds Try.pinned (OpenSpec.upto fnExactNetValidSpec)

/-- 'laws.FnExactLateFree', WHERE WHAT IT READS IS OF BULK AT MOST 1048576: true; the input reads as it did. -/
def fnExactLateFreeUptoRow : OpenClaim := { program := "ytbpmhcinagmipaa", sum := "926f3d92ba4aa29668a2409f38de01594711c7239478b2d1e23717778938062d", func := "loop.example/mailcoaches/laws.FnExactLateFree", spec := "fnExactLateFree", apart := false, narrowed := true }
def FnExactLateFreeUptoSaid : Prop := fnExactLateFreeUptoRow.holds Try.pinned (OpenSpec.upto fnExactLateFreeSpec)

/-- 'laws.FnExactConnectLate', WHERE WHAT IT READS IS OF BULK AT MOST 1048576: true; the input reads as it did. -/
def fnExactConnectLateUptoRow : OpenClaim := { program := "ytbpmhcinagmipaa", sum := "926f3d92ba4aa29668a2409f38de01594711c7239478b2d1e23717778938062d", func := "loop.example/mailcoaches/laws.FnExactConnectLate", spec := "fnExactConnectLate", apart := false, narrowed := true }
def FnExactConnectLateUptoSaid : Prop := fnExactConnectLateUptoRow.holds Try.pinned (OpenSpec.upto fnExactConnectLateSpec)

/-- 'laws.FnExactConnectMost', WHERE WHAT IT READS IS OF BULK AT MOST 1048576: true; the input reads as it did. -/
def fnExactConnectMostUptoRow : OpenClaim := { program := "ytbpmhcinagmipaa", sum := "926f3d92ba4aa29668a2409f38de01594711c7239478b2d1e23717778938062d", func := "loop.example/mailcoaches/laws.FnExactConnectMost", spec := "fnExactConnectMost", apart := false, narrowed := true }
def FnExactConnectMostUptoSaid : Prop := fnExactConnectMostUptoRow.holds Try.pinned (OpenSpec.upto fnExactConnectMostSpec)

/-- 'laws.FnExactLateSlack', WHERE WHAT IT READS IS OF BULK AT MOST 1048576: true; the input reads as it did. -/
def fnExactLateSlackUptoRow : OpenClaim := { program := "ytbpmhcinagmipaa", sum := "926f3d92ba4aa29668a2409f38de01594711c7239478b2d1e23717778938062d", func := "loop.example/mailcoaches/laws.FnExactLateSlack", spec := "fnExactLateSlack", apart := false, narrowed := true }
def FnExactLateSlackUptoSaid : Prop := fnExactLateSlackUptoRow.holds Try.pinned (OpenSpec.upto fnExactLateSlackSpec)

/-- 'laws.FnExactLateEnd', WHERE WHAT IT READS IS OF BULK AT MOST 1048576: true; the input reads as it did. -/
def fnExactLateEndUptoRow : OpenClaim := { program := "ytbpmhcinagmipaa", sum := "926f3d92ba4aa29668a2409f38de01594711c7239478b2d1e23717778938062d", func := "loop.example/mailcoaches/laws.FnExactLateEnd", spec := "fnExactLateEnd", unfollowed := true, recurses := true, apart := false, narrowed := true }
def FnExactLateEndUptoSaid : Prop := fnExactLateEndUptoRow.holds Try.pinned (OpenSpec.upto fnExactLateEndSpec)

/-- 'laws.FnExactLateSum', WHERE WHAT IT READS IS OF BULK AT MOST 1048576: true; the input reads as it did. -/
def fnExactLateSumUptoRow : OpenClaim := { program := "ytbpmhcinagmipaa", sum := "926f3d92ba4aa29668a2409f38de01594711c7239478b2d1e23717778938062d", func := "loop.example/mailcoaches/laws.FnExactLateSum", spec := "fnExactLateSum", unfollowed := true, recurses := true, apart := false, narrowed := true }
def FnExactLateSumUptoSaid : Prop := fnExactLateSumUptoRow.holds Try.pinned (OpenSpec.upto fnExactLateSumSpec)

/-- 'laws.FnExactLateArrive', WHERE WHAT IT READS IS OF BULK AT MOST 1048576: true; the input reads as it did. -/
def fnExactLateArriveUptoRow : OpenClaim := { program := "ytbpmhcinagmipaa", sum := "926f3d92ba4aa29668a2409f38de01594711c7239478b2d1e23717778938062d", func := "loop.example/mailcoaches/laws.FnExactLateArrive", spec := "fnExactLateArrive", unfollowed := true, recurses := true, apart := false, narrowed := true }
def FnExactLateArriveUptoSaid : Prop := fnExactLateArriveUptoRow.holds Try.pinned (OpenSpec.upto fnExactLateArriveSpec)

/-- 'laws.FnExactLateLeave', WHERE WHAT IT READS IS OF BULK AT MOST 1048576: true; the input reads as it did. -/
def fnExactLateLeaveUptoRow : OpenClaim := { program := "ytbpmhcinagmipaa", sum := "926f3d92ba4aa29668a2409f38de01594711c7239478b2d1e23717778938062d", func := "loop.example/mailcoaches/laws.FnExactLateLeave", spec := "fnExactLateLeave", unfollowed := true, recurses := true, apart := false, narrowed := true }
def FnExactLateLeaveUptoSaid : Prop := fnExactLateLeaveUptoRow.holds Try.pinned (OpenSpec.upto fnExactLateLeaveSpec)

/-- 'laws.FnExactLateBlame', WHERE WHAT IT READS IS OF BULK AT MOST 1048576: true; the input reads as it did. -/
def fnExactLateBlameUptoRow : OpenClaim := { program := "ytbpmhcinagmipaa", sum := "926f3d92ba4aa29668a2409f38de01594711c7239478b2d1e23717778938062d", func := "loop.example/mailcoaches/laws.FnExactLateBlame", spec := "fnExactLateBlame", unfollowed := true, recurses := true, apart := false, narrowed := true }
def FnExactLateBlameUptoSaid : Prop := fnExactLateBlameUptoRow.holds Try.pinned (OpenSpec.upto fnExactLateBlameSpec)

/-- 'laws.FnExactLateStops', WHERE WHAT IT READS IS OF BULK AT MOST 1048576: true; the input reads as it did. -/
def fnExactLateStopsUptoRow : OpenClaim := { program := "ytbpmhcinagmipaa", sum := "926f3d92ba4aa29668a2409f38de01594711c7239478b2d1e23717778938062d", func := "loop.example/mailcoaches/laws.FnExactLateStops", spec := "fnExactLateStops", unfollowed := true, recurses := true, apart := false, narrowed := true }
def FnExactLateStopsUptoSaid : Prop := fnExactLateStopsUptoRow.holds Try.pinned (OpenSpec.upto fnExactLateStopsSpec)

end Rows
end Go.Proofs.Ytbpmhcinagmipaa

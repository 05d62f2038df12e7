/-
  No cell of these rows narrows 'for every input' (looked for: loops, veiled, ifaces, maps, wideKeys, modest, calm, conditions, laid).
  DERIVED. THE GIVEN ROWS OF THIS SEAT. 12 by the template 'for every input the law returns true; each argument reads behind the call as it read before'; 0 by the template 'total and deterministic' (their statements: YteceohdchknbbaaTotals.lean).
  GIVEN WITH THE SEED: the statements are not yours to turn. If you find one false, say at which input.
  Laid BY PROGRAM, IN A SANDBOX (cutbox-rows.mjs): the forced cells as the released guide's own fill.sh prints them over the translation 791dedae98f073b4… (all of the seat's roots in one cut). By AI agents, Wed Nov 11 2026. No macro, syntax, notation, axiom, sorry.
-/
import Derived.Test.YteceohdchknbbaaChecked
import GoSem.Claim
import GoSem.ClaimJoined
import GoSem.ClaimMapViews
import Derived.JoinedTies
import Derived.KernelRfl
namespace Go.Proofs.Yteceohdchknbbaa
/- THE CELL 'sum', in the pinned program and in every row, IS THE sha256 OF THE DUMP (.gsa) THAT YteceohdchknbbaaProg.lean LOADS. Nothing in Lean hashes anything: it is a label: what it is worth is what the hold of that sum in a sandbox is worth. -/
noncomputable def Try.pinned : Pinned := { name := "yteceohdchknbbaa", sum := "791dedae98f073b46455bda130f4dcd78f636e777fe806563c2ff05fd6b2aba9", checked := Try.checked }
namespace Rows
def none {H : Type} : Left H := { results := [], args := [] }

/-- 'laws.FnLateSlack': WHATEVER THE INPUT: true; the input reads as it did. -/
def fnLateSlackSpec : ChangeSpec := { name := "fnLateSlack", fn := fun _ => fun
  | [d] => { results := [.lit (.bool true)], args := [d] }
  | _ => none }
def fnLateSlackRow : OpenClaim := { program := "yteceohdchknbbaa", sum := "791dedae98f073b46455bda130f4dcd78f636e777fe806563c2ff05fd6b2aba9", func := "loop.example/mailcoaches/laws.FnLateSlack", spec := "fnLateSlack", apart := false }
def FnLateSlackSaid : Prop := fnLateSlackRow.holds Try.pinned (OpenSpec.ofChange fnLateSlackSpec)

/-- ITS FALSE NEIGHBOUR: 'it returns false'. Refute it at one input. -/
def fnLateSlackWrong : ChangeSpec := { name := "fnLateSlack", fn := fun _ => fun
  | [d] => { results := [.lit (.bool false)], args := [d] }
  | _ => none }
def FnLateSlackWrongFalsely : Prop := fnLateSlackRow.holds Try.pinned (OpenSpec.ofChange fnLateSlackWrong)

/-- 'laws.FnConnectMade': WHATEVER THE INPUT: true; the input reads as it did. -/
def fnConnectMadeSpec : ChangeSpec := { name := "fnConnectMade", fn := fun _ => fun
  | [d1, d2] => { results := [.lit (.bool true)], args := [d1, d2] }
  | _ => none }
def fnConnectMadeRow : OpenClaim := { program := "yteceohdchknbbaa", sum := "791dedae98f073b46455bda130f4dcd78f636e777fe806563c2ff05fd6b2aba9", func := "loop.example/mailcoaches/laws.FnConnectMade", spec := "fnConnectMade", apart := false }
def FnConnectMadeSaid : Prop := fnConnectMadeRow.holds Try.pinned (OpenSpec.ofChange fnConnectMadeSpec)

/-- ITS FALSE NEIGHBOUR: 'it returns false'. Refute it at one input. -/
def fnConnectMadeWrong : ChangeSpec := { name := "fnConnectMade", fn := fun _ => fun
  | [d1, d2] => { results := [.lit (.bool false)], args := [d1, d2] }
  | _ => none }
def FnConnectMadeWrongFalsely : Prop := fnConnectMadeRow.holds Try.pinned (OpenSpec.ofChange fnConnectMadeWrong)

/-- 'laws.FnConnectMost': WHATEVER THE INPUT: true; the input reads as it did. -/
def fnConnectMostSpec : ChangeSpec := { name := "fnConnectMost", fn := fun _ => fun
  | [d] => { results := [.lit (.bool true)], args := [d] }
  | _ => none }
def fnConnectMostRow : OpenClaim := { program := "yteceohdchknbbaa", sum := "791dedae98f073b46455bda130f4dcd78f636e777fe806563c2ff05fd6b2aba9", func := "loop.example/mailcoaches/laws.FnConnectMost", spec := "fnConnectMost", apart := false }
def FnConnectMostSaid : Prop := fnConnectMostRow.holds Try.pinned (OpenSpec.ofChange fnConnectMostSpec)

/-- ITS FALSE NEIGHBOUR: 'it returns false'. Refute it at one input. -/
def fnConnectMostWrong : ChangeSpec := { name := "fnConnectMost", fn := fun _ => fun
  | [d] => { results := [.lit (.bool false)], args := [d] }
  | _ => none }
def FnConnectMostWrongFalsely : Prop := fnConnectMostRow.holds Try.pinned (OpenSpec.ofChange fnConnectMostWrong)

/-- 'laws.FnConnectLate': WHATEVER THE INPUT: true; the input reads as it did. -/
def fnConnectLateSpec : ChangeSpec := { name := "fnConnectLate", fn := fun _ => fun
  | [d] => { results := [.lit (.bool true)], args := [d] }
  | _ => none }
def fnConnectLateRow : OpenClaim := { program := "yteceohdchknbbaa", sum := "791dedae98f073b46455bda130f4dcd78f636e777fe806563c2ff05fd6b2aba9", func := "loop.example/mailcoaches/laws.FnConnectLate", spec := "fnConnectLate", apart := false }
def FnConnectLateSaid : Prop := fnConnectLateRow.holds Try.pinned (OpenSpec.ofChange fnConnectLateSpec)

/-- ITS FALSE NEIGHBOUR: 'it returns false'. Refute it at one input. -/
def fnConnectLateWrong : ChangeSpec := { name := "fnConnectLate", fn := fun _ => fun
  | [d] => { results := [.lit (.bool false)], args := [d] }
  | _ => none }
def FnConnectLateWrongFalsely : Prop := fnConnectLateRow.holds Try.pinned (OpenSpec.ofChange fnConnectLateWrong)

/-- 'laws.FnLateFree': WHATEVER THE INPUT: true; the input reads as it did. -/
def fnLateFreeSpec : ChangeSpec := { name := "fnLateFree", fn := fun _ => fun
  | [d] => { results := [.lit (.bool true)], args := [d] }
  | _ => none }
def fnLateFreeRow : OpenClaim := { program := "yteceohdchknbbaa", sum := "791dedae98f073b46455bda130f4dcd78f636e777fe806563c2ff05fd6b2aba9", func := "loop.example/mailcoaches/laws.FnLateFree", spec := "fnLateFree", unfollowed := true, recurses := true, apart := false }
def FnLateFreeSaid : Prop := fnLateFreeRow.holds Try.pinned (OpenSpec.ofChange fnLateFreeSpec)

/-- ITS FALSE NEIGHBOUR: 'it returns false'. Refute it at one input. -/
def fnLateFreeWrong : ChangeSpec := { name := "fnLateFree", fn := fun _ => fun
  | [d] => { results := [.lit (.bool false)], args := [d] }
  | _ => none }
def FnLateFreeWrongFalsely : Prop := fnLateFreeRow.holds Try.pinned (OpenSpec.ofChange fnLateFreeWrong)

/-- 'laws.FnLateMore': WHATEVER THE INPUT: true; the input reads as it did. -/
def fnLateMoreSpec : ChangeSpec := { name := "fnLateMore", fn := fun _ => fun
  | [d1, d2] => { results := [.lit (.bool true)], args := [d1, d2] }
  | _ => none }
def fnLateMoreRow : OpenClaim := { program := "yteceohdchknbbaa", sum := "791dedae98f073b46455bda130f4dcd78f636e777fe806563c2ff05fd6b2aba9", func := "loop.example/mailcoaches/laws.FnLateMore", spec := "fnLateMore", unfollowed := true, recurses := true, apart := false }
def FnLateMoreSaid : Prop := fnLateMoreRow.holds Try.pinned (OpenSpec.ofChange fnLateMoreSpec)

/-- ITS FALSE NEIGHBOUR: 'it returns false'. Refute it at one input. -/
def fnLateMoreWrong : ChangeSpec := { name := "fnLateMore", fn := fun _ => fun
  | [d1, d2] => { results := [.lit (.bool false)], args := [d1, d2] }
  | _ => none }
def FnLateMoreWrongFalsely : Prop := fnLateMoreRow.holds Try.pinned (OpenSpec.ofChange fnLateMoreWrong)

/-- 'laws.FnLateArrive': WHATEVER THE INPUT: true; the input reads as it did. -/
def fnLateArriveSpec : ChangeSpec := { name := "fnLateArrive", fn := fun _ => fun
  | [d] => { results := [.lit (.bool true)], args := [d] }
  | _ => none }
def fnLateArriveRow : OpenClaim := { program := "yteceohdchknbbaa", sum := "791dedae98f073b46455bda130f4dcd78f636e777fe806563c2ff05fd6b2aba9", func := "loop.example/mailcoaches/laws.FnLateArrive", spec := "fnLateArrive", unfollowed := true, recurses := true, apart := false }
def FnLateArriveSaid : Prop := fnLateArriveRow.holds Try.pinned (OpenSpec.ofChange fnLateArriveSpec)

/-- ITS FALSE NEIGHBOUR: 'it returns false'. Refute it at one input. -/
def fnLateArriveWrong : ChangeSpec := { name := "fnLateArrive", fn := fun _ => fun
  | [d] => { results := [.lit (.bool false)], args := [d] }
  | _ => none }
def FnLateArriveWrongFalsely : Prop := fnLateArriveRow.holds Try.pinned (OpenSpec.ofChange fnLateArriveWrong)

/-- 'laws.FnLateLeave': WHATEVER THE INPUT: true; the input reads as it did. -/
def fnLateLeaveSpec : ChangeSpec := { name := "fnLateLeave", fn := fun _ => fun
  | [d] => { results := [.lit (.bool true)], args := [d] }
  | _ => none }
def fnLateLeaveRow : OpenClaim := { program := "yteceohdchknbbaa", sum := "791dedae98f073b46455bda130f4dcd78f636e777fe806563c2ff05fd6b2aba9", func := "loop.example/mailcoaches/laws.FnLateLeave", spec := "fnLateLeave", unfollowed := true, recurses := true, apart := false }
def FnLateLeaveSaid : Prop := fnLateLeaveRow.holds Try.pinned (OpenSpec.ofChange fnLateLeaveSpec)

/-- ITS FALSE NEIGHBOUR: 'it returns false'. Refute it at one input. -/
def fnLateLeaveWrong : ChangeSpec := { name := "fnLateLeave", fn := fun _ => fun
  | [d] => { results := [.lit (.bool false)], args := [d] }
  | _ => none }
def FnLateLeaveWrongFalsely : Prop := fnLateLeaveRow.holds Try.pinned (OpenSpec.ofChange fnLateLeaveWrong)

/-- 'laws.FnLateEnd': WHATEVER THE INPUT: true; the input reads as it did. -/
def fnLateEndSpec : ChangeSpec := { name := "fnLateEnd", fn := fun _ => fun
  | [d] => { results := [.lit (.bool true)], args := [d] }
  | _ => none }
def fnLateEndRow : OpenClaim := { program := "yteceohdchknbbaa", sum := "791dedae98f073b46455bda130f4dcd78f636e777fe806563c2ff05fd6b2aba9", func := "loop.example/mailcoaches/laws.FnLateEnd", spec := "fnLateEnd", unfollowed := true, recurses := true, apart := false }
def FnLateEndSaid : Prop := fnLateEndRow.holds Try.pinned (OpenSpec.ofChange fnLateEndSpec)

/-- ITS FALSE NEIGHBOUR: 'it returns false'. Refute it at one input. -/
def fnLateEndWrong : ChangeSpec := { name := "fnLateEnd", fn := fun _ => fun
  | [d] => { results := [.lit (.bool false)], args := [d] }
  | _ => none }
def FnLateEndWrongFalsely : Prop := fnLateEndRow.holds Try.pinned (OpenSpec.ofChange fnLateEndWrong)

/-- 'laws.FnLateSum': WHATEVER THE INPUT: true; the input reads as it did. -/
def fnLateSumSpec : ChangeSpec := { name := "fnLateSum", fn := fun _ => fun
  | [d1, d2] => { results := [.lit (.bool true)], args := [d1, d2] }
  | _ => none }
def fnLateSumRow : OpenClaim := { program := "yteceohdchknbbaa", sum := "791dedae98f073b46455bda130f4dcd78f636e777fe806563c2ff05fd6b2aba9", func := "loop.example/mailcoaches/laws.FnLateSum", spec := "fnLateSum", unfollowed := true, recurses := true, apart := false }
def FnLateSumSaid : Prop := fnLateSumRow.holds Try.pinned (OpenSpec.ofChange fnLateSumSpec)

/-- ITS FALSE NEIGHBOUR: 'it returns false'. Refute it at one input. -/
def fnLateSumWrong : ChangeSpec := { name := "fnLateSum", fn := fun _ => fun
  | [d1, d2] => { results := [.lit (.bool false)], args := [d1, d2] }
  | _ => none }
def FnLateSumWrongFalsely : Prop := fnLateSumRow.holds Try.pinned (OpenSpec.ofChange fnLateSumWrong)

/-- 'laws.FnLateBlame': WHATEVER THE INPUT: true; the input reads as it did. -/
def fnLateBlameSpec : ChangeSpec := { name := "fnLateBlame", fn := fun _ => fun
  | [d] => { results := [.lit (.bool true)], args := [d] }
  | _ => none }
def fnLateBlameRow : OpenClaim := { program := "yteceohdchknbbaa", sum := "791dedae98f073b46455bda130f4dcd78f636e777fe806563c2ff05fd6b2aba9", func := "loop.example/mailcoaches/laws.FnLateBlame", spec := "fnLateBlame", unfollowed := true, recurses := true, apart := false }
def FnLateBlameSaid : Prop := fnLateBlameRow.holds Try.pinned (OpenSpec.ofChange fnLateBlameSpec)

/-- ITS FALSE NEIGHBOUR: 'it returns false'. Refute it at one input. -/
def fnLateBlameWrong : ChangeSpec := { name := "fnLateBlame", fn := fun _ => fun
  | [d] => { results := [.lit (.bool false)], args := [d] }
  | _ => none }
def FnLateBlameWrongFalsely : Prop := fnLateBlameRow.holds Try.pinned (OpenSpec.ofChange fnLateBlameWrong)

/-- 'laws.FnLateStops': WHATEVER THE INPUT: true; the input reads as it did. -/
def fnLateStopsSpec : ChangeSpec := { name := "fnLateStops", fn := fun _ => fun
  | [d] => { results := [.lit (.bool true)], args := [d] }
  | _ => none }
def fnLateStopsRow : OpenClaim := { program := "yteceohdchknbbaa", sum := "791dedae98f073b46455bda130f4dcd78f636e777fe806563c2ff05fd6b2aba9", func := "loop.example/mailcoaches/laws.FnLateStops", spec := "fnLateStops", unfollowed := true, recurses := true, apart := false }
def FnLateStopsSaid : Prop := fnLateStopsRow.holds Try.pinned (OpenSpec.ofChange fnLateStopsSpec)

/-- ITS FALSE NEIGHBOUR: 'it returns false'. Refute it at one input. -/
def fnLateStopsWrong : ChangeSpec := { name := "fnLateStops", fn := fun _ => fun
  | [d] => { results := [.lit (.bool false)], args := [d] }
  | _ => none }
def FnLateStopsWrongFalsely : Prop := fnLateStopsRow.holds Try.pinned (OpenSpec.ofChange fnLateStopsWrong)

/- THE SECOND FORM. 'bulk': how many values and letters a reading holds, each counted each time it is reached (what is shared counts as often as it is met; a slice's spare places count too). A statement '..UptoSaid' is the law's where the arguments, and the package variables that the reading takes, are together of bulk at most 1048576: NARROWER than '..Said'. Prove '..Said' where nothing that the law and all that it calls make is longer than what came in: it says more and counts as full. Else prove '..UptoSaid'. A law counts once. -/
mutual
def uptoBulk {H : Type} : DataW H → Nat
  | .lit (.string bytes) => bytes.length + 1
  | .lit _ => 1
  | .nil => 1
  | .ptr d => uptoBulk d + 1
  | .slice elems spare => uptoBulkAll elems + uptoBulkAll spare + 1
  | .agg parts => uptoBulkAll parts + 1
  | .iface _ d => uptoBulk d + 1
  | .map entries => uptoBulkEntries entries + 1
  | .held _ => 1
def uptoBulkAll {H : Type} : List (DataW H) → Nat
  | [] => 0
  | d :: r => uptoBulk d + uptoBulkAll r
def uptoBulkEntries {H : Type} : List (Lit × DataW H) → Nat
  | [] => 0
  | x :: r => uptoBulkEntry x + uptoBulkEntries r
def uptoBulkEntry {H : Type} : Lit × DataW H → Nat
  | (.string bytes, d) => bytes.length + uptoBulk d + 1
  | (_, d) => uptoBulk d + 1
 end
def uptoSmall : (H : Type) → List (DataW H) → Bool := fun _ ds => decide (uptoBulkAll ds ≤ 1048576)
def OpenSpec.upto (s : _root_.Go.ChangeSpec) : _root_.Go.OpenSpec := { _root_.Go.OpenSpec.ofChange s with cond := some uptoSmall }

/-- 'laws.FnLateSlack', WHERE WHAT IT READS IS OF BULK AT MOST 1048576: true; the input reads as it did. -/
def fnLateSlackUptoRow : OpenClaim := { program := "yteceohdchknbbaa", sum := "791dedae98f073b46455bda130f4dcd78f636e777fe806563c2ff05fd6b2aba9", func := "loop.example/mailcoaches/laws.FnLateSlack", spec := "fnLateSlack", apart := false, narrowed := true }
def FnLateSlackUptoSaid : Prop := fnLateSlackUptoRow.holds Try.pinned (OpenSpec.upto fnLateSlackSpec)

/-- 'laws.FnConnectMade', WHERE WHAT IT READS IS OF BULK AT MOST 1048576: true; the input reads as it did. -/
def fnConnectMadeUptoRow : OpenClaim := { program := "yteceohdchknbbaa", sum := "791dedae98f073b46455bda130f4dcd78f636e777fe806563c2ff05fd6b2aba9", func := "loop.example/mailcoaches/laws.FnConnectMade", spec := "fnConnectMade", apart := false, narrowed := true }
def FnConnectMadeUptoSaid : Prop := fnConnectMadeUptoRow.holds Try.pinned (OpenSpec.upto fnConnectMadeSpec)

/-- 'laws.FnConnectMost', WHERE WHAT IT READS IS OF BULK AT MOST 1048576: true; the input reads as it did. -/
def fnConnectMostUptoRow : OpenClaim := { program := "yteceohdchknbbaa", sum := "791dedae98f073b46455bda130f4dcd78f636e777fe806563c2ff05fd6b2aba9", func := "loop.example/mailcoaches/laws.FnConnectMost", spec := "fnConnectMost", apart := false, narrowed := true }
def FnConnectMostUptoSaid : Prop := fnConnectMostUptoRow.holds Try.pinned (OpenSpec.upto fnConnectMostSpec)

/-- 'laws.FnConnectLate', WHERE WHAT IT READS IS OF BULK AT MOST 1048576: true; the input reads as it did. -/
def fnConnectLateUptoRow : OpenClaim := { program := "yteceohdchknbbaa", sum := "791dedae98f073b46455bda130f4dcd78f636e777fe806563c2ff05fd6b2aba9", func := "loop.example/mailcoaches/laws.FnConnectLate", spec := "fnConnectLate", apart := false, narrowed := true }
def FnConnectLateUptoSaid : Prop := fnConnectLateUptoRow.holds Try.pinned (OpenSpec.upto fnConnectLateSpec)

/-- 'laws.FnLateFree', WHERE WHAT IT READS IS OF BULK AT MOST 1048576: true; the input reads as it did. -/
def fnLateFreeUptoRow : OpenClaim := { program := "yteceohdchknbbaa", sum := "791dedae98f073b46455bda130f4dcd78f636e777fe806563c2ff05fd6b2aba9", func := "loop.example/mailcoaches/laws.FnLateFree", spec := "fnLateFree", unfollowed := true, recurses := true, apart := false, narrowed := true }
def FnLateFreeUptoSaid : Prop := fnLateFreeUptoRow.holds Try.pinned (OpenSpec.upto fnLateFreeSpec)

/-- 'laws.FnLateMore', WHERE WHAT IT READS IS OF BULK AT MOST 1048576: true; the input reads as it did. -/
def fnLateMoreUptoRow : OpenClaim := { program := "yteceohdchknbbaa", sum := "791dedae98f073b46455bda130f4dcd78f636e777fe806563c2ff05fd6b2aba9", func := "loop.example/mailcoaches/laws.FnLateMore", spec := "fnLateMore", unfollowed := true, recurses := true, apart := false, narrowed := true }
def FnLateMoreUptoSaid : Prop := fnLateMoreUptoRow.holds Try.pinned (OpenSpec.upto fnLateMoreSpec)

/-- 'laws.FnLateArrive', WHERE WHAT IT READS IS OF BULK AT MOST 1048576: true; the input reads as it did. -/
def fnLateArriveUptoRow : OpenClaim := { program := "yteceohdchknbbaa", sum := "791dedae98f073b46455bda130f4dcd78f636e777fe806563c2ff05fd6b2aba9", func := "loop.example/mailcoaches/laws.FnLateArrive", spec := "fnLateArrive", unfollowed := true, recurses := true, apart := false, narrowed := true }
def FnLateArriveUptoSaid : Prop := fnLateArriveUptoRow.holds Try.pinned (OpenSpec.upto fnLateArriveSpec)

/-- 'laws.FnLateLeave', WHERE WHAT IT READS IS OF BULK AT MOST 1048576: true; the input reads as it did. -/
def fnLateLeaveUptoRow : OpenClaim := { program := "yteceohdchknbbaa", sum := "791dedae98f073b46455bda130f4dcd78f636e777fe806563c2ff05fd6b2aba9", func := "loop.example/mailcoaches/laws.FnLateLeave", spec := "fnLateLeave", unfollowed := true, recurses := true, apart := false, narrowed := true }
def FnLateLeaveUptoSaid : Prop := fnLateLeaveUptoRow.holds Try.pinned (OpenSpec.upto fnLateLeaveSpec)

/-- 'laws.FnLateEnd', WHERE WHAT IT READS IS OF BULK AT MOST 1048576: true; the input reads as it did. -/
def fnLateEndUptoRow : OpenClaim := { program := "yteceohdchknbbaa", sum := "791dedae98f073b46455bda130f4dcd78f636e777fe806563c2ff05fd6b2aba9", func := "loop.example/mailcoaches/laws.FnLateEnd", spec := "fnLateEnd", unfollowed := true, recurses := true, apart := false, narrowed := true }
def FnLateEndUptoSaid : Prop := fnLateEndUptoRow.holds Try.pinned (OpenSpec.upto fnLateEndSpec)

/-- 'laws.FnLateSum', WHERE WHAT IT READS IS OF BULK AT MOST 1048576: true; the input reads as it did. -/
def fnLateSumUptoRow : OpenClaim := { program := "yteceohdchknbbaa", sum := "791dedae98f073b46455bda130f4dcd78f636e777fe806563c2ff05fd6b2aba9", func := "loop.example/mailcoaches/laws.FnLateSum", spec := "fnLateSum", unfollowed := true, recurses := true, apart := false, narrowed := true }
def FnLateSumUptoSaid : Prop := fnLateSumUptoRow.holds Try.pinned (OpenSpec.upto fnLateSumSpec)

/-- 'laws.FnLateBlame', WHERE WHAT IT READS IS OF BULK AT MOST 1048576: true; the input reads as it did. -/
def fnLateBlameUptoRow : OpenClaim := { program := "yteceohdchknbbaa", sum := "791dedae98f073b46455bda130f4dcd78f636e777fe806563c2ff05fd6b2aba9", func := "loop.example/mailcoaches/laws.FnLateBlame", spec := "fnLateBlame", unfollowed := true, recurses := true, apart := false, narrowed := true }
def FnLateBlameUptoSaid : Prop := fnLateBlameUptoRow.holds Try.pinned (OpenSpec.upto fnLateBlameSpec)

/-- 'laws.FnLateStops', WHERE WHAT IT READS IS OF BULK AT MOST 1048576: true; the input reads as it did. -/
def fnLateStopsUptoRow : OpenClaim := { program := "yteceohdchknbbaa", sum := "791dedae98f073b46455bda130f4dcd78f636e777fe806563c2ff05fd6b2aba9", func := "loop.example/mailcoaches/laws.FnLateStops", spec := "fnLateStops", unfollowed := true, recurses := true, apart := false, narrowed := true }
def FnLateStopsUptoSaid : Prop := fnLateStopsUptoRow.holds Try.pinned (OpenSpec.upto fnLateStopsSpec)

end Rows
end Go.Proofs.Yteceohdchknbbaa

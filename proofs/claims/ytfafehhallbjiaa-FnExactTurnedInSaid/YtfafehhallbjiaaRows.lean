/-
  No cell of these rows narrows 'for every input' (looked for: loops, veiled, ifaces, maps, wideKeys, modest, calm, conditions, laid).
  DERIVED. THE GIVEN ROWS OF THIS SEAT. 5 by the template 'for every input the law returns true; each argument reads behind the call as it read before'; 0 by the template 'total and deterministic' (their statements: YtfafehhallbjiaaTotals.lean).
  GIVEN WITH THE SEED: the statements are not yours to turn. If you find one false, say at which input.
  Laid BY PROGRAM, IN A SANDBOX (cutbox-rows.mjs): the forced cells as the released guide's own fill.sh prints them over the translation a16e1d4130efddf0… (all of the seat's roots in one cut). By AI agents, Wed Nov 11 2026. No macro, syntax, notation, axiom, sorry.
-/
import Derived.Test.YtfafehhallbjiaaChecked
import GoSem.Claim
import GoSem.ClaimJoined
import GoSem.ClaimMapViews
import Derived.JoinedTies
import Derived.KernelRfl
namespace Go.Proofs.Ytfafehhallbjiaa
/- THE CELL 'sum', in the pinned program and in every row, IS THE sha256 OF THE DUMP (.gsa) THAT YtfafehhallbjiaaProg.lean LOADS. Nothing in Lean hashes anything: it is a label: what it is worth is what the hold of that sum in a sandbox is worth. -/
noncomputable def Try.pinned : Pinned := { name := "ytfafehhallbjiaa", sum := "a16e1d4130efddf0e4b5715e2ed07ae8841623b7dafd1bcb09231de6eff9d777", checked := Try.checked }
namespace Rows
def none {H : Type} : Left H := { results := [], args := [] }

/-- 'laws.FnExactReadDoc': WHATEVER THE INPUT: true; the input reads as it did. -/
def fnExactReadDocSpec : ChangeSpec := { name := "fnExactReadDoc", fn := fun _ => fun
  | [d] => { results := [.lit (.bool true)], args := [d] }
  | _ => none }
def fnExactReadDocRow : OpenClaim := { program := "ytfafehhallbjiaa", sum := "a16e1d4130efddf0e4b5715e2ed07ae8841623b7dafd1bcb09231de6eff9d777", func := "loop.example/g00701/laws.FnExactReadDoc", spec := "fnExactReadDoc", inPlace := ["internal/abi.NoEscape"], unfollowed := true, recurses := true, apart := false }
def FnExactReadDocSaid : Prop := fnExactReadDocRow.holds Try.pinned (OpenSpec.ofChange fnExactReadDocSpec)

/-- ITS FALSE NEIGHBOUR: 'it returns false'. Refute it at one input. -/
def fnExactReadDocWrong : ChangeSpec := { name := "fnExactReadDoc", fn := fun _ => fun
  | [d] => { results := [.lit (.bool false)], args := [d] }
  | _ => none }
def FnExactReadDocWrongFalsely : Prop := fnExactReadDocRow.holds Try.pinned (OpenSpec.ofChange fnExactReadDocWrong)

/-- 'laws.FnExactReadReply': WHATEVER THE INPUT: true; the input reads as it did. -/
def fnExactReadReplySpec : ChangeSpec := { name := "fnExactReadReply", fn := fun _ => fun
  | [d] => { results := [.lit (.bool true)], args := [d] }
  | _ => none }
def fnExactReadReplyRow : OpenClaim := { program := "ytfafehhallbjiaa", sum := "a16e1d4130efddf0e4b5715e2ed07ae8841623b7dafd1bcb09231de6eff9d777", func := "loop.example/g00701/laws.FnExactReadReply", spec := "fnExactReadReply", inPlace := ["internal/abi.NoEscape"], unfollowed := true, recurses := true, apart := false }
def FnExactReadReplySaid : Prop := fnExactReadReplyRow.holds Try.pinned (OpenSpec.ofChange fnExactReadReplySpec)

/-- ITS FALSE NEIGHBOUR: 'it returns false'. Refute it at one input. -/
def fnExactReadReplyWrong : ChangeSpec := { name := "fnExactReadReply", fn := fun _ => fun
  | [d] => { results := [.lit (.bool false)], args := [d] }
  | _ => none }
def FnExactReadReplyWrongFalsely : Prop := fnExactReadReplyRow.holds Try.pinned (OpenSpec.ofChange fnExactReadReplyWrong)

/-- 'laws.FnExactTurnedIn': WHATEVER THE INPUT: true; the input reads as it did. -/
def fnExactTurnedInSpec : ChangeSpec := { name := "fnExactTurnedIn", fn := fun _ => fun
  | [d1, d2] => { results := [.lit (.bool true)], args := [d1, d2] }
  | _ => none }
def fnExactTurnedInRow : OpenClaim := { program := "ytfafehhallbjiaa", sum := "a16e1d4130efddf0e4b5715e2ed07ae8841623b7dafd1bcb09231de6eff9d777", func := "loop.example/g00701/laws.FnExactTurnedIn", spec := "fnExactTurnedIn", unfollowed := true, recurses := true, apart := false }
def FnExactTurnedInSaid : Prop := fnExactTurnedInRow.holds Try.pinned (OpenSpec.ofChange fnExactTurnedInSpec)

/-- ITS FALSE NEIGHBOUR: 'it returns false'. Refute it at one input. -/
def fnExactTurnedInWrong : ChangeSpec := { name := "fnExactTurnedIn", fn := fun _ => fun
  | [d1, d2] => { results := [.lit (.bool false)], args := [d1, d2] }
  | _ => none }
def FnExactTurnedInWrongFalsely : Prop := fnExactTurnedInRow.holds Try.pinned (OpenSpec.ofChange fnExactTurnedInWrong)

/-- 'laws.FnExactSameOutside': WHATEVER THE INPUT: true; the input reads as it did. -/
def fnExactSameOutsideSpec : ChangeSpec := { name := "fnExactSameOutside", fn := fun _ => fun
  | [d1, d2, d3] => { results := [.lit (.bool true)], args := [d1, d2, d3] }
  | _ => none }
def fnExactSameOutsideRow : OpenClaim := { program := "ytfafehhallbjiaa", sum := "a16e1d4130efddf0e4b5715e2ed07ae8841623b7dafd1bcb09231de6eff9d777", func := "loop.example/g00701/laws.FnExactSameOutside", spec := "fnExactSameOutside", unfollowed := true, recurses := true, apart := false }
def FnExactSameOutsideSaid : Prop := fnExactSameOutsideRow.holds Try.pinned (OpenSpec.ofChange fnExactSameOutsideSpec)

/-- ITS FALSE NEIGHBOUR: 'it returns false'. Refute it at one input. -/
def fnExactSameOutsideWrong : ChangeSpec := { name := "fnExactSameOutside", fn := fun _ => fun
  | [d1, d2, d3] => { results := [.lit (.bool false)], args := [d1, d2, d3] }
  | _ => none }
def FnExactSameOutsideWrongFalsely : Prop := fnExactSameOutsideRow.holds Try.pinned (OpenSpec.ofChange fnExactSameOutsideWrong)

/-- 'laws.FnExactApplyEdit': WHATEVER THE INPUT: true; the input reads as it did. -/
def fnExactApplyEditSpec : ChangeSpec := { name := "fnExactApplyEdit", fn := fun _ => fun
  | [d1, d2] => { results := [.lit (.bool true)], args := [d1, d2] }
  | _ => none }
def fnExactApplyEditRow : OpenClaim := { program := "ytfafehhallbjiaa", sum := "a16e1d4130efddf0e4b5715e2ed07ae8841623b7dafd1bcb09231de6eff9d777", func := "loop.example/g00701/laws.FnExactApplyEdit", spec := "fnExactApplyEdit", inPlace := ["slices.overlaps[int]"], unfollowed := true, recurses := true, apart := false }
def FnExactApplyEditSaid : Prop := fnExactApplyEditRow.holds Try.pinned (OpenSpec.ofChange fnExactApplyEditSpec)

/-- ITS FALSE NEIGHBOUR: 'it returns false'. Refute it at one input. -/
def fnExactApplyEditWrong : ChangeSpec := { name := "fnExactApplyEdit", fn := fun _ => fun
  | [d1, d2] => { results := [.lit (.bool false)], args := [d1, d2] }
  | _ => none }
def FnExactApplyEditWrongFalsely : Prop := fnExactApplyEditRow.holds Try.pinned (OpenSpec.ofChange fnExactApplyEditWrong)

/- THE SECOND FORM. 'bulk': how many values and letters a reading holds, each counted each time it is reached (what is shared counts as often as it is met; a slice's spare places count too). A statement '..UptoSaid' is the law's where the arguments, and the package variables that the reading takes, are together of bulk at most 1048576: NARROWER than '..Said'. Prove '..Said' where nothing that the law and all that it calls make is longer than what came in: it says more and counts as full. Else prove '..UptoSaid'. A law counts once. -/
mutual
def uptoBulk {H : Type} : DataW H → Nat
  | .lit (.string bytes) => bytes.length + 1
  | .lit _ => 1
  | .nil => 1
  | .ptr d => uptoBulk d + 1
  | .slice elems spare => uptoBulkAll elems + uptoBulkAll spare + 1
  | .agg parts => uptoBulkAll parts + 1
  | .iface _ d => uptoBulk d + 1
  | .map entries => uptoBulkEntries entries + 1
  | .held _ => 1
def uptoBulkAll {H : Type} : List (DataW H) → Nat
  | [] => 0
  | d :: r => uptoBulk d + uptoBulkAll r
def uptoBulkEntries {H : Type} : List (Lit × DataW H) → Nat
  | [] => 0
  | x :: r => uptoBulkEntry x + uptoBulkEntries r
def uptoBulkEntry {H : Type} : Lit × DataW H → Nat
  | (.string bytes, d) => bytes.length + uptoBulk d + 1
  | (_, d) => uptoBulk d + 1
 end
def uptoSmall : (H : Type) → List (DataW H) → Bool := fun _ ds => decide (uptoBulkAll ds ≤ 1048576)
def OpenSpec.upto (s : _root_.Go.ChangeSpec) : _root_.Go.OpenSpec := { _root_.Go.OpenSpec.ofChange s with cond := some uptoSmall }

/-- 'laws.FnExactReadDoc', WHERE WHAT IT READS IS OF BULK AT MOST 1048576: true; the input reads as it did. -/
def fnExactReadDocUptoRow : OpenClaim := { program := "ytfafehhallbjiaa", sum := "a16e1d4130efddf0e4b5715e2ed07ae8841623b7dafd1bcb09231de6eff9d777", func := "loop.example/g00701/laws.FnExactReadDoc", spec := "fnExactReadDoc", inPlace := ["internal/abi.NoEscape"], unfollowed := true, recurses := true, apart := false, narrowed := true }
def FnExactReadDocUptoSaid : Prop := fnExactReadDocUptoRow.holds Try.pinned (OpenSpec.upto fnExactReadDocSpec)

/-- 'laws.FnExactReadReply', WHERE WHAT IT READS IS OF BULK AT MOST 1048576: true; the input reads as it did. -/
def fnExactReadReplyUptoRow : OpenClaim := { program := "ytfafehhallbjiaa", sum := "a16e1d4130efddf0e4b5715e2ed07ae8841623b7dafd1bcb09231de6eff9d777", func := "loop.example/g00701/laws.FnExactReadReply", spec := "fnExactReadReply", inPlace := ["internal/abi.NoEscape"], unfollowed := true, recurses := true, apart := false, narrowed := true }
def FnExactReadReplyUptoSaid : Prop := fnExactReadReplyUptoRow.holds Try.pinned (OpenSpec.upto fnExactReadReplySpec)

/-- 'laws.FnExactTurnedIn', WHERE WHAT IT READS IS OF BULK AT MOST 1048576: true; the input reads as it did. -/
def fnExactTurnedInUptoRow : OpenClaim := { program := "ytfafehhallbjiaa", sum := "a16e1d4130efddf0e4b5715e2ed07ae8841623b7dafd1bcb09231de6eff9d777", func := "loop.example/g00701/laws.FnExactTurnedIn", spec := "fnExactTurnedIn", unfollowed := true, recurses := true, apart := false, narrowed := true }
def FnExactTurnedInUptoSaid : Prop := fnExactTurnedInUptoRow.holds Try.pinned (OpenSpec.upto fnExactTurnedInSpec)

/-- 'laws.FnExactSameOutside', WHERE WHAT IT READS IS OF BULK AT MOST 1048576: true; the input reads as it did. -/
def fnExactSameOutsideUptoRow : OpenClaim := { program := "ytfafehhallbjiaa", sum := "a16e1d4130efddf0e4b5715e2ed07ae8841623b7dafd1bcb09231de6eff9d777", func := "loop.example/g00701/laws.FnExactSameOutside", spec := "fnExactSameOutside", unfollowed := true, recurses := true, apart := false, narrowed := true }
def FnExactSameOutsideUptoSaid : Prop := fnExactSameOutsideUptoRow.holds Try.pinned (OpenSpec.upto fnExactSameOutsideSpec)

/-- 'laws.FnExactApplyEdit', WHERE WHAT IT READS IS OF BULK AT MOST 1048576: true; the input reads as it did. -/
def fnExactApplyEditUptoRow : OpenClaim := { program := "ytfafehhallbjiaa", sum := "a16e1d4130efddf0e4b5715e2ed07ae8841623b7dafd1bcb09231de6eff9d777", func := "loop.example/g00701/laws.FnExactApplyEdit", spec := "fnExactApplyEdit", inPlace := ["slices.overlaps[int]"], unfollowed := true, recurses := true, apart := false, narrowed := true }
def FnExactApplyEditUptoSaid : Prop := fnExactApplyEditUptoRow.holds Try.pinned (OpenSpec.upto fnExactApplyEditSpec)

end Rows
end Go.Proofs.Ytfafehhallbjiaa

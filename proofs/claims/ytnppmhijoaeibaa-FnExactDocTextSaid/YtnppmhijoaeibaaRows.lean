/-
  No cell of these rows narrows 'for every input' (looked for: loops, veiled, ifaces, maps, wideKeys, modest, calm, conditions, laid).
  DERIVED. THE GIVEN ROWS OF THIS SEAT. 10 by the template 'for every input the law returns true; each argument reads behind the call as it read before'; 0 by the template 'total and deterministic' (their statements: YtnppmhijoaeibaaTotals.lean).
  GIVEN WITH THE SEED: the statements are not yours to turn. If you find one false, say at which input.
  Laid BY PROGRAM, IN A SANDBOX (cutbox-rows.mjs): the forced cells as the released guide's own fill.sh prints them over the translation d94c71301448ef60… (all of the seat's roots in one cut). By AI agents, Wed Nov 11 2026. No macro, syntax, notation, axiom, sorry.
-/
import Derived.Test.YtnppmhijoaeibaaChecked
import GoSem.Claim
import GoSem.ClaimJoined
import GoSem.ClaimMapViews
import Derived.JoinedTies
import Derived.KernelRfl
namespace Go.Proofs.Ytnppmhijoaeibaa
/- THE CELL 'sum', in the pinned program and in every row, IS THE sha256 OF THE DUMP (.gsa) THAT YtnppmhijoaeibaaProg.lean LOADS. Nothing in Lean hashes anything: it is a label: what it is worth is what the hold of that sum in a sandbox is worth. -/
noncomputable def Try.pinned : Pinned := { name := "ytnppmhijoaeibaa", sum := "d94c71301448ef6093d83b3733aaa0d9dd3335e1430db8e399fad3b40f208cf2", checked := Try.checked }
namespace Rows
def none {H : Type} : Left H := { results := [], args := [] }

/-- 'laws.FnExactPutNumber': WHATEVER THE INPUT: true; the input reads as it did. -/
def fnExactPutNumberSpec : ChangeSpec := { name := "fnExactPutNumber", fn := fun _ => fun
  | [d] => { results := [.lit (.bool true)], args := [d] }
  | _ => none }
def fnExactPutNumberRow : OpenClaim := { program := "ytnppmhijoaeibaa", sum := "d94c71301448ef6093d83b3733aaa0d9dd3335e1430db8e399fad3b40f208cf2", func := "loop.example/g00701/laws.FnExactPutNumber", spec := "fnExactPutNumber", inPlace := ["internal/abi.NoEscape"], apart := false }
def FnExactPutNumberSaid : Prop := fnExactPutNumberRow.holds Try.pinned (OpenSpec.ofChange fnExactPutNumberSpec)

/-- ITS FALSE NEIGHBOUR: 'it returns false'. Refute it at one input. -/
def fnExactPutNumberWrong : ChangeSpec := { name := "fnExactPutNumber", fn := fun _ => fun
  | [d] => { results := [.lit (.bool false)], args := [d] }
  | _ => none }
def FnExactPutNumberWrongFalsely : Prop := fnExactPutNumberRow.holds Try.pinned (OpenSpec.ofChange fnExactPutNumberWrong)

/-- 'laws.FnExactPutText': WHATEVER THE INPUT: true; the input reads as it did. -/
def fnExactPutTextSpec : ChangeSpec := { name := "fnExactPutText", fn := fun _ => fun
  | [d] => { results := [.lit (.bool true)], args := [d] }
  | _ => none }
def fnExactPutTextRow : OpenClaim := { program := "ytnppmhijoaeibaa", sum := "d94c71301448ef6093d83b3733aaa0d9dd3335e1430db8e399fad3b40f208cf2", func := "loop.example/g00701/laws.FnExactPutText", spec := "fnExactPutText", inPlace := ["internal/abi.NoEscape"], apart := false }
def FnExactPutTextSaid : Prop := fnExactPutTextRow.holds Try.pinned (OpenSpec.ofChange fnExactPutTextSpec)

/-- ITS FALSE NEIGHBOUR: 'it returns false'. Refute it at one input. -/
def fnExactPutTextWrong : ChangeSpec := { name := "fnExactPutText", fn := fun _ => fun
  | [d] => { results := [.lit (.bool false)], args := [d] }
  | _ => none }
def FnExactPutTextWrongFalsely : Prop := fnExactPutTextRow.holds Try.pinned (OpenSpec.ofChange fnExactPutTextWrong)

/-- 'laws.FnExactFrameText': WHATEVER THE INPUT: true; the input reads as it did. -/
def fnExactFrameTextSpec : ChangeSpec := { name := "fnExactFrameText", fn := fun _ => fun
  | [d] => { results := [.lit (.bool true)], args := [d] }
  | _ => none }
def fnExactFrameTextRow : OpenClaim := { program := "ytnppmhijoaeibaa", sum := "d94c71301448ef6093d83b3733aaa0d9dd3335e1430db8e399fad3b40f208cf2", func := "loop.example/g00701/laws.FnExactFrameText", spec := "fnExactFrameText", inPlace := ["internal/abi.NoEscape"], apart := false }
def FnExactFrameTextSaid : Prop := fnExactFrameTextRow.holds Try.pinned (OpenSpec.ofChange fnExactFrameTextSpec)

/-- ITS FALSE NEIGHBOUR: 'it returns false'. Refute it at one input. -/
def fnExactFrameTextWrong : ChangeSpec := { name := "fnExactFrameText", fn := fun _ => fun
  | [d] => { results := [.lit (.bool false)], args := [d] }
  | _ => none }
def FnExactFrameTextWrongFalsely : Prop := fnExactFrameTextRow.holds Try.pinned (OpenSpec.ofChange fnExactFrameTextWrong)

/-- 'laws.FnExactTakeText': WHATEVER THE INPUT: true; the input reads as it did. -/
def fnExactTakeTextSpec : ChangeSpec := { name := "fnExactTakeText", fn := fun _ => fun
  | [d1, d2] => { results := [.lit (.bool true)], args := [d1, d2] }
  | _ => none }
def fnExactTakeTextRow : OpenClaim := { program := "ytnppmhijoaeibaa", sum := "d94c71301448ef6093d83b3733aaa0d9dd3335e1430db8e399fad3b40f208cf2", func := "loop.example/g00701/laws.FnExactTakeText", spec := "fnExactTakeText", inPlace := ["internal/abi.NoEscape"], apart := false }
def FnExactTakeTextSaid : Prop := fnExactTakeTextRow.holds Try.pinned (OpenSpec.ofChange fnExactTakeTextSpec)

/-- ITS FALSE NEIGHBOUR: 'it returns false'. Refute it at one input. -/
def fnExactTakeTextWrong : ChangeSpec := { name := "fnExactTakeText", fn := fun _ => fun
  | [d1, d2] => { results := [.lit (.bool false)], args := [d1, d2] }
  | _ => none }
def FnExactTakeTextWrongFalsely : Prop := fnExactTakeTextRow.holds Try.pinned (OpenSpec.ofChange fnExactTakeTextWrong)

/-- 'laws.FnNumbers': WHATEVER THE INPUT: true; the input reads as it did. -/
def fnNumbersSpec : ChangeSpec := { name := "fnNumbers", fn := fun _ => fun
  | [d1, d2] => { results := [.lit (.bool true)], args := [d1, d2] }
  | _ => none }
def fnNumbersRow : OpenClaim := { program := "ytnppmhijoaeibaa", sum := "d94c71301448ef6093d83b3733aaa0d9dd3335e1430db8e399fad3b40f208cf2", func := "loop.example/g00701/laws.FnNumbers", spec := "fnNumbers", inPlace := ["internal/abi.NoEscape"], apart := false }
def FnNumbersSaid : Prop := fnNumbersRow.holds Try.pinned (OpenSpec.ofChange fnNumbersSpec)

/-- ITS FALSE NEIGHBOUR: 'it returns false'. Refute it at one input. -/
def fnNumbersWrong : ChangeSpec := { name := "fnNumbers", fn := fun _ => fun
  | [d1, d2] => { results := [.lit (.bool false)], args := [d1, d2] }
  | _ => none }
def FnNumbersWrongFalsely : Prop := fnNumbersRow.holds Try.pinned (OpenSpec.ofChange fnNumbersWrong)

/-- 'laws.FnExactReadFrame': WHATEVER THE INPUT: true; the input reads as it did. -/
def fnExactReadFrameSpec : ChangeSpec := { name := "fnExactReadFrame", fn := fun _ => fun
  | [d] => { results := [.lit (.bool true)], args := [d] }
  | _ => none }
def fnExactReadFrameRow : OpenClaim := { program := "ytnppmhijoaeibaa", sum := "d94c71301448ef6093d83b3733aaa0d9dd3335e1430db8e399fad3b40f208cf2", func := "loop.example/g00701/laws.FnExactReadFrame", spec := "fnExactReadFrame", inPlace := ["internal/abi.NoEscape"], apart := false }
def FnExactReadFrameSaid : Prop := fnExactReadFrameRow.holds Try.pinned (OpenSpec.ofChange fnExactReadFrameSpec)

/-- ITS FALSE NEIGHBOUR: 'it returns false'. Refute it at one input. -/
def fnExactReadFrameWrong : ChangeSpec := { name := "fnExactReadFrame", fn := fun _ => fun
  | [d] => { results := [.lit (.bool false)], args := [d] }
  | _ => none }
def FnExactReadFrameWrongFalsely : Prop := fnExactReadFrameRow.holds Try.pinned (OpenSpec.ofChange fnExactReadFrameWrong)

/-- 'laws.FnExactRequestText': WHATEVER THE INPUT: true; the input reads as it did. -/
def fnExactRequestTextSpec : ChangeSpec := { name := "fnExactRequestText", fn := fun _ => fun
  | [d] => { results := [.lit (.bool true)], args := [d] }
  | _ => none }
def fnExactRequestTextRow : OpenClaim := { program := "ytnppmhijoaeibaa", sum := "d94c71301448ef6093d83b3733aaa0d9dd3335e1430db8e399fad3b40f208cf2", func := "loop.example/g00701/laws.FnExactRequestText", spec := "fnExactRequestText", inPlace := ["internal/abi.NoEscape"], apart := false }
def FnExactRequestTextSaid : Prop := fnExactRequestTextRow.holds Try.pinned (OpenSpec.ofChange fnExactRequestTextSpec)

/-- ITS FALSE NEIGHBOUR: 'it returns false'. Refute it at one input. -/
def fnExactRequestTextWrong : ChangeSpec := { name := "fnExactRequestText", fn := fun _ => fun
  | [d] => { results := [.lit (.bool false)], args := [d] }
  | _ => none }
def FnExactRequestTextWrongFalsely : Prop := fnExactRequestTextRow.holds Try.pinned (OpenSpec.ofChange fnExactRequestTextWrong)

/-- 'laws.FnFrames': WHATEVER THE INPUT: true; the input reads as it did. -/
def fnFramesSpec : ChangeSpec := { name := "fnFrames", fn := fun _ => fun
  | [d1, d2] => { results := [.lit (.bool true)], args := [d1, d2] }
  | _ => none }
def fnFramesRow : OpenClaim := { program := "ytnppmhijoaeibaa", sum := "d94c71301448ef6093d83b3733aaa0d9dd3335e1430db8e399fad3b40f208cf2", func := "loop.example/g00701/laws.FnFrames", spec := "fnFrames", inPlace := ["internal/abi.NoEscape", "internal/bytealg.IndexByteString"], apart := false }
def FnFramesSaid : Prop := fnFramesRow.holds Try.pinned (OpenSpec.ofChange fnFramesSpec)

/-- ITS FALSE NEIGHBOUR: 'it returns false'. Refute it at one input. -/
def fnFramesWrong : ChangeSpec := { name := "fnFrames", fn := fun _ => fun
  | [d1, d2] => { results := [.lit (.bool false)], args := [d1, d2] }
  | _ => none }
def FnFramesWrongFalsely : Prop := fnFramesRow.holds Try.pinned (OpenSpec.ofChange fnFramesWrong)

/-- 'laws.FnExactDocText': WHATEVER THE INPUT: true; the input reads as it did. -/
def fnExactDocTextSpec : ChangeSpec := { name := "fnExactDocText", fn := fun _ => fun
  | [d] => { results := [.lit (.bool true)], args := [d] }
  | _ => none }
def fnExactDocTextRow : OpenClaim := { program := "ytnppmhijoaeibaa", sum := "d94c71301448ef6093d83b3733aaa0d9dd3335e1430db8e399fad3b40f208cf2", func := "loop.example/g00701/laws.FnExactDocText", spec := "fnExactDocText", inPlace := ["internal/abi.NoEscape"], unfollowed := true, recurses := true, apart := false }
def FnExactDocTextSaid : Prop := fnExactDocTextRow.holds Try.pinned (OpenSpec.ofChange fnExactDocTextSpec)

/-- ITS FALSE NEIGHBOUR: 'it returns false'. Refute it at one input. -/
def fnExactDocTextWrong : ChangeSpec := { name := "fnExactDocText", fn := fun _ => fun
  | [d] => { results := [.lit (.bool false)], args := [d] }
  | _ => none }
def FnExactDocTextWrongFalsely : Prop := fnExactDocTextRow.holds Try.pinned (OpenSpec.ofChange fnExactDocTextWrong)

/-- 'laws.FnExactReadRequest': WHATEVER THE INPUT: true; the input reads as it did. -/
def fnExactReadRequestSpec : ChangeSpec := { name := "fnExactReadRequest", fn := fun _ => fun
  | [d] => { results := [.lit (.bool true)], args := [d] }
  | _ => none }
def fnExactReadRequestRow : OpenClaim := { program := "ytnppmhijoaeibaa", sum := "d94c71301448ef6093d83b3733aaa0d9dd3335e1430db8e399fad3b40f208cf2", func := "loop.example/g00701/laws.FnExactReadRequest", spec := "fnExactReadRequest", inPlace := ["internal/abi.NoEscape"], apart := false }
def FnExactReadRequestSaid : Prop := fnExactReadRequestRow.holds Try.pinned (OpenSpec.ofChange fnExactReadRequestSpec)

/-- ITS FALSE NEIGHBOUR: 'it returns false'. Refute it at one input. -/
def fnExactReadRequestWrong : ChangeSpec := { name := "fnExactReadRequest", fn := fun _ => fun
  | [d] => { results := [.lit (.bool false)], args := [d] }
  | _ => none }
def FnExactReadRequestWrongFalsely : Prop := fnExactReadRequestRow.holds Try.pinned (OpenSpec.ofChange fnExactReadRequestWrong)

/- THE SECOND FORM. 'bulk': how many values and letters a reading holds, each counted each time it is reached (what is shared counts as often as it is met; a slice's spare places count too). A statement '..UptoSaid' is the law's where the arguments, and the package variables that the reading takes, are together of bulk at most 1048576: NARROWER than '..Said'. Prove '..Said' where nothing that the law and all that it calls make is longer than what came in: it says more and counts as full. Else prove '..UptoSaid'. A law counts once. -/
mutual
def uptoBulk {H : Type} : DataW H → Nat
  | .lit (.string bytes) => bytes.length + 1
  | .lit _ => 1
  | .nil => 1
  | .ptr d => uptoBulk d + 1
  | .slice elems spare => uptoBulkAll elems + uptoBulkAll spare + 1
  | .agg parts => uptoBulkAll parts + 1
  | .iface _ d => uptoBulk d + 1
  | .map entries => uptoBulkEntries entries + 1
  | .held _ => 1
def uptoBulkAll {H : Type} : List (DataW H) → Nat
  | [] => 0
  | d :: r => uptoBulk d + uptoBulkAll r
def uptoBulkEntries {H : Type} : List (Lit × DataW H) → Nat
  | [] => 0
  | x :: r => uptoBulkEntry x + uptoBulkEntries r
def uptoBulkEntry {H : Type} : Lit × DataW H → Nat
  | (.string bytes, d) => bytes.length + uptoBulk d + 1
  | (_, d) => uptoBulk d + 1
 end
def uptoSmall : (H : Type) → List (DataW H) → Bool := fun _ ds => decide (uptoBulkAll ds ≤ 1048576)
def OpenSpec.upto (s : _root_.Go.ChangeSpec) : _root_.Go.OpenSpec := { _root_.Go.OpenSpec.ofChange s with cond := some uptoSmall }

/-- 'laws.FnExactPutNumber', WHERE WHAT IT READS IS OF BULK AT MOST 1048576: true; the input reads as it did. -/
def fnExactPutNumberUptoRow : OpenClaim := { program := "ytnppmhijoaeibaa", sum := "d94c71301448ef6093d83b3733aaa0d9dd3335e1430db8e399fad3b40f208cf2", func := "loop.example/g00701/laws.FnExactPutNumber", spec := "fnExactPutNumber", inPlace := ["internal/abi.NoEscape"], apart := false, narrowed := true }
def FnExactPutNumberUptoSaid : Prop := fnExactPutNumberUptoRow.holds Try.pinned (OpenSpec.upto fnExactPutNumberSpec)

/-- 'laws.FnExactPutText', WHERE WHAT IT READS IS OF BULK AT MOST 1048576: true; the input reads as it did. -/
def fnExactPutTextUptoRow : OpenClaim := { program := "ytnppmhijoaeibaa", sum := "d94c71301448ef6093d83b3733aaa0d9dd3335e1430db8e399fad3b40f208cf2", func := "loop.example/g00701/laws.FnExactPutText", spec := "fnExactPutText", inPlace := ["internal/abi.NoEscape"], apart := false, narrowed := true }
def FnExactPutTextUptoSaid : Prop := fnExactPutTextUptoRow.holds Try.pinned (OpenSpec.upto fnExactPutTextSpec)

/-- 'laws.FnExactFrameText', WHERE WHAT IT READS IS OF BULK AT MOST 1048576: true; the input reads as it did. -/
def fnExactFrameTextUptoRow : OpenClaim := { program := "ytnppmhijoaeibaa", sum := "d94c71301448ef6093d83b3733aaa0d9dd3335e1430db8e399fad3b40f208cf2", func := "loop.example/g00701/laws.FnExactFrameText", spec := "fnExactFrameText", inPlace := ["internal/abi.NoEscape"], apart := false, narrowed := true }
def FnExactFrameTextUptoSaid : Prop := fnExactFrameTextUptoRow.holds Try.pinned (OpenSpec.upto fnExactFrameTextSpec)

/-- 'laws.FnExactTakeText', WHERE WHAT IT READS IS OF BULK AT MOST 1048576: true; the input reads as it did. -/
def fnExactTakeTextUptoRow : OpenClaim := { program := "ytnppmhijoaeibaa", sum := "d94c71301448ef6093d83b3733aaa0d9dd3335e1430db8e399fad3b40f208cf2", func := "loop.example/g00701/laws.FnExactTakeText", spec := "fnExactTakeText", inPlace := ["internal/abi.NoEscape"], apart := false, narrowed := true }
def FnExactTakeTextUptoSaid : Prop := fnExactTakeTextUptoRow.holds Try.pinned (OpenSpec.upto fnExactTakeTextSpec)

/-- 'laws.FnNumbers', WHERE WHAT IT READS IS OF BULK AT MOST 1048576: true; the input reads as it did. -/
def fnNumbersUptoRow : OpenClaim := { program := "ytnppmhijoaeibaa", sum := "d94c71301448ef6093d83b3733aaa0d9dd3335e1430db8e399fad3b40f208cf2", func := "loop.example/g00701/laws.FnNumbers", spec := "fnNumbers", inPlace := ["internal/abi.NoEscape"], apart := false, narrowed := true }
def FnNumbersUptoSaid : Prop := fnNumbersUptoRow.holds Try.pinned (OpenSpec.upto fnNumbersSpec)

/-- 'laws.FnExactReadFrame', WHERE WHAT IT READS IS OF BULK AT MOST 1048576: true; the input reads as it did. -/
def fnExactReadFrameUptoRow : OpenClaim := { program := "ytnppmhijoaeibaa", sum := "d94c71301448ef6093d83b3733aaa0d9dd3335e1430db8e399fad3b40f208cf2", func := "loop.example/g00701/laws.FnExactReadFrame", spec := "fnExactReadFrame", inPlace := ["internal/abi.NoEscape"], apart := false, narrowed := true }
def FnExactReadFrameUptoSaid : Prop := fnExactReadFrameUptoRow.holds Try.pinned (OpenSpec.upto fnExactReadFrameSpec)

/-- 'laws.FnExactRequestText', WHERE WHAT IT READS IS OF BULK AT MOST 1048576: true; the input reads as it did. -/
def fnExactRequestTextUptoRow : OpenClaim := { program := "ytnppmhijoaeibaa", sum := "d94c71301448ef6093d83b3733aaa0d9dd3335e1430db8e399fad3b40f208cf2", func := "loop.example/g00701/laws.FnExactRequestText", spec := "fnExactRequestText", inPlace := ["internal/abi.NoEscape"], apart := false, narrowed := true }
def FnExactRequestTextUptoSaid : Prop := fnExactRequestTextUptoRow.holds Try.pinned (OpenSpec.upto fnExactRequestTextSpec)

/-- 'laws.FnFrames', WHERE WHAT IT READS IS OF BULK AT MOST 1048576: true; the input reads as it did. -/
def fnFramesUptoRow : OpenClaim := { program := "ytnppmhijoaeibaa", sum := "d94c71301448ef6093d83b3733aaa0d9dd3335e1430db8e399fad3b40f208cf2", func := "loop.example/g00701/laws.FnFrames", spec := "fnFrames", inPlace := ["internal/abi.NoEscape", "internal/bytealg.IndexByteString"], apart := false, narrowed := true }
def FnFramesUptoSaid : Prop := fnFramesUptoRow.holds Try.pinned (OpenSpec.upto fnFramesSpec)

/-- 'laws.FnExactDocText', WHERE WHAT IT READS IS OF BULK AT MOST 1048576: true; the input reads as it did. -/
def fnExactDocTextUptoRow : OpenClaim := { program := "ytnppmhijoaeibaa", sum := "d94c71301448ef6093d83b3733aaa0d9dd3335e1430db8e399fad3b40f208cf2", func := "loop.example/g00701/laws.FnExactDocText", spec := "fnExactDocText", inPlace := ["internal/abi.NoEscape"], unfollowed := true, recurses := true, apart := false, narrowed := true }
def FnExactDocTextUptoSaid : Prop := fnExactDocTextUptoRow.holds Try.pinned (OpenSpec.upto fnExactDocTextSpec)

/-- 'laws.FnExactReadRequest', WHERE WHAT IT READS IS OF BULK AT MOST 1048576: true; the input reads as it did. -/
def fnExactReadRequestUptoRow : OpenClaim := { program := "ytnppmhijoaeibaa", sum := "d94c71301448ef6093d83b3733aaa0d9dd3335e1430db8e399fad3b40f208cf2", func := "loop.example/g00701/laws.FnExactReadRequest", spec := "fnExactReadRequest", inPlace := ["internal/abi.NoEscape"], apart := false, narrowed := true }
def FnExactReadRequestUptoSaid : Prop := fnExactReadRequestUptoRow.holds Try.pinned (OpenSpec.upto fnExactReadRequestSpec)

end Rows
end Go.Proofs.Ytnppmhijoaeibaa

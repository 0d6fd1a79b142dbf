/-
  No cell of these rows narrows 'for every input' (looked for: loops, veiled, ifaces, maps, wideKeys, modest, calm, conditions, laid).
  DERIVED. THE GIVEN ROWS OF THIS SEAT. 2 by the template 'for every input the law returns true; each argument reads behind the call as it read before'; 0 by the template 'total and deterministic' (their statements: YthoeiiecmmagnaaTotals.lean).
  GIVEN WITH THE SEED: the statements are not yours to turn. If you find one false, say at which input.
  Laid BY PROGRAM, IN A SANDBOX (cutbox-rows.mjs): the forced cells as the released guide's own fill.sh prints them over the translation 91848adf001572a2… (all of the seat's roots in one cut). By AI agents, Wed Nov 11 2026. No macro, syntax, notation, axiom, sorry.
-/
import Derived.Test.YthoeiiecmmagnaaChecked
import GoSem.Claim
import GoSem.ClaimJoined
import GoSem.ClaimMapViews
import Derived.JoinedTies
import Derived.KernelRfl
namespace Go.Proofs.Ythoeiiecmmagnaa
/- THE CELL 'sum', in the pinned program and in every row, IS THE sha256 OF THE DUMP (.gsa) THAT YthoeiiecmmagnaaProg.lean LOADS. Nothing in Lean hashes anything: it is a label: what it is worth is what the hold of that sum in a sandbox is worth. -/
noncomputable def Try.pinned : Pinned := { name := "ythoeiiecmmagnaa", sum := "91848adf001572a291685f513c1102414e43125a8bd09ed55f93120bf51bc39f", checked := Try.checked }
namespace Rows
def none {H : Type} : Left H := { results := [], args := [] }

/-- 'laws.FnExactDocText': WHATEVER THE INPUT: true; the input reads as it did. -/
def fnExactDocTextSpec : ChangeSpec := { name := "fnExactDocText", fn := fun _ => fun
  | [d] => { results := [.lit (.bool true)], args := [d] }
  | _ => none }
def fnExactDocTextRow : OpenClaim := { program := "ythoeiiecmmagnaa", sum := "91848adf001572a291685f513c1102414e43125a8bd09ed55f93120bf51bc39f", func := "loop.example/g00701/laws.FnExactDocText", spec := "fnExactDocText", inPlace := ["internal/abi.NoEscape"], unfollowed := true, recurses := true, apart := false }
def FnExactDocTextSaid : Prop := fnExactDocTextRow.holds Try.pinned (OpenSpec.ofChange fnExactDocTextSpec)

/-- ITS FALSE NEIGHBOUR: 'it returns false'. Refute it at one input. -/
def fnExactDocTextWrong : ChangeSpec := { name := "fnExactDocText", fn := fun _ => fun
  | [d] => { results := [.lit (.bool false)], args := [d] }
  | _ => none }
def FnExactDocTextWrongFalsely : Prop := fnExactDocTextRow.holds Try.pinned (OpenSpec.ofChange fnExactDocTextWrong)

/-- 'laws.FnExactReplyText': WHATEVER THE INPUT: true; the input reads as it did. -/
def fnExactReplyTextSpec : ChangeSpec := { name := "fnExactReplyText", fn := fun _ => fun
  | [d] => { results := [.lit (.bool true)], args := [d] }
  | _ => none }
def fnExactReplyTextRow : OpenClaim := { program := "ythoeiiecmmagnaa", sum := "91848adf001572a291685f513c1102414e43125a8bd09ed55f93120bf51bc39f", func := "loop.example/g00701/laws.FnExactReplyText", spec := "fnExactReplyText", inPlace := ["internal/abi.NoEscape"], unfollowed := true, recurses := true, apart := false }
def FnExactReplyTextSaid : Prop := fnExactReplyTextRow.holds Try.pinned (OpenSpec.ofChange fnExactReplyTextSpec)

/-- ITS FALSE NEIGHBOUR: 'it returns false'. Refute it at one input. -/
def fnExactReplyTextWrong : ChangeSpec := { name := "fnExactReplyText", fn := fun _ => fun
  | [d] => { results := [.lit (.bool false)], args := [d] }
  | _ => none }
def FnExactReplyTextWrongFalsely : Prop := fnExactReplyTextRow.holds Try.pinned (OpenSpec.ofChange fnExactReplyTextWrong)

/- THE SECOND FORM. 'bulk': how many values and letters a reading holds, each counted each time it is reached (what is shared counts as often as it is met; a slice's spare places count too). A statement '..UptoSaid' is the law's where the arguments, and the package variables that the reading takes, are together of bulk at most 1048576: NARROWER than '..Said'. Prove '..Said' where nothing that the law and all that it calls make is longer than what came in: it says more and counts as full. Else prove '..UptoSaid'. A law counts once. -/
mutual
def uptoBulk {H : Type} : DataW H → Nat
  | .lit (.string bytes) => bytes.length + 1
  | .lit _ => 1
  | .nil => 1
  | .ptr d => uptoBulk d + 1
  | .slice elems spare => uptoBulkAll elems + uptoBulkAll spare + 1
  | .agg parts => uptoBulkAll parts + 1
  | .iface _ d => uptoBulk d + 1
  | .map entries => uptoBulkEntries entries + 1
  | .held _ => 1
def uptoBulkAll {H : Type} : List (DataW H) → Nat
  | [] => 0
  | d :: r => uptoBulk d + uptoBulkAll r
def uptoBulkEntries {H : Type} : List (Lit × DataW H) → Nat
  | [] => 0
  | x :: r => uptoBulkEntry x + uptoBulkEntries r
def uptoBulkEntry {H : Type} : Lit × DataW H → Nat
  | (.string bytes, d) => bytes.length + uptoBulk d + 1
  | (_, d) => uptoBulk d + 1
 end
def uptoSmall : (H : Type) → List (DataW H) → Bool := fun _ ds => decide (uptoBulkAll ds ≤ 1048576)
def OpenSpec.upto (s : _root_.Go.ChangeSpec) : _root_.Go.OpenSpec := { _root_.Go.OpenSpec.ofChange s with cond := some uptoSmall }

/-- 'laws.FnExactDocText', WHERE WHAT IT READS IS OF BULK AT MOST 1048576: true; the input reads as it did. -/
def fnExactDocTextUptoRow : OpenClaim := { program := "ythoeiiecmmagnaa", sum := "91848adf001572a291685f513c1102414e43125a8bd09ed55f93120bf51bc39f", func := "loop.example/g00701/laws.FnExactDocText", spec := "fnExactDocText", inPlace := ["internal/abi.NoEscape"], unfollowed := true, recurses := true, apart := false, narrowed := true }
def FnExactDocTextUptoSaid : Prop := fnExactDocTextUptoRow.holds Try.pinned (OpenSpec.upto fnExactDocTextSpec)

/-- 'laws.FnExactReplyText', WHERE WHAT IT READS IS OF BULK AT MOST 1048576: true; the input reads as it did. -/
def fnExactReplyTextUptoRow : OpenClaim := { program := "ythoeiiecmmagnaa", sum := "91848adf001572a291685f513c1102414e43125a8bd09ed55f93120bf51bc39f", func := "loop.example/g00701/laws.FnExactReplyText", spec := "fnExactReplyText", inPlace := ["internal/abi.NoEscape"], unfollowed := true, recurses := true, apart := false, narrowed := true }
def FnExactReplyTextUptoSaid : Prop := fnExactReplyTextUptoRow.holds Try.pinned (OpenSpec.upto fnExactReplyTextSpec)

end Rows
end Go.Proofs.Ythoeiiecmmagnaa

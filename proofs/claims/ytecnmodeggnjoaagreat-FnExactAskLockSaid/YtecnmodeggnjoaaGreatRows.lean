/-
  No cell of these rows narrows 'for every input' (looked for: loops, veiled, ifaces, maps, wideKeys, modest, calm, conditions, laid).
  DERIVED. THE GIVEN ROWS OF THIS SEAT. 12 by the template 'for every input the law returns true; each argument reads behind the call as it read before'; 0 by the template 'total and deterministic' (their statements: YtecnmodeggnjoaaGreatTotals.lean).
  GIVEN WITH THE SEED: the statements are not yours to turn. If you find one false, say at which input.
  Laid BY PROGRAM, IN A SANDBOX (cutbox-rows.mjs): the forced cells as the released guide's own fill.sh prints them over the translation 904cdb11233ec19d… (all of the seat's roots in one cut). By AI agents, Wed Nov 11 2026. No macro, syntax, notation, axiom, sorry.
-/
import Derived.Test.YtecnmodeggnjoaaGreatChecked
import GoSem.Claim
import GoSem.ClaimJoined
import GoSem.ClaimMapViews
import Derived.JoinedTies
import Derived.KernelRfl
namespace Go.Proofs.YtecnmodeggnjoaaGreat
/- THE CELL 'sum', in the pinned program and in every row, IS THE sha256 OF THE DUMP (.gsa) THAT YtecnmodeggnjoaaGreatProg.lean LOADS. Nothing in Lean hashes anything: it is a label: what it is worth is what the hold of that sum in a sandbox is worth. -/
noncomputable def Tryz.pinned : Pinned := { name := "ytecnmodeggnjoaagreat", sum := "904cdb11233ec19d46e58ae087aac182490b9407803b182d543ef5064d1e4fc3", checked := Tryz.checked }
namespace Rows
def none {H : Type} : Left H := { results := [], args := [] }

/-- 'laws.FnExactSettleTable': WHATEVER THE INPUT: true; the input reads as it did. -/
def fnExactSettleTableSpec : ChangeSpec := { name := "fnExactSettleTable", fn := fun _ => fun
  | [d1, d2] => { results := [.lit (.bool true)], args := [d1, d2] }
  | _ => none }
def fnExactSettleTableRow : OpenClaim := { program := "ytecnmodeggnjoaagreat", sum := "904cdb11233ec19d46e58ae087aac182490b9407803b182d543ef5064d1e4fc3", func := "loop.example/g00701/laws.FnExactSettleTable", spec := "fnExactSettleTable", inPlace := ["slices.overlaps[loop.example/g00701/impl.Hold]"], unfollowed := true, recurses := true, apart := false }
def FnExactSettleTableSaid : Prop := fnExactSettleTableRow.holds Tryz.pinned (OpenSpec.ofChange fnExactSettleTableSpec)

/-- ITS FALSE NEIGHBOUR: 'it returns false'. Refute it at one input. -/
def fnExactSettleTableWrong : ChangeSpec := { name := "fnExactSettleTable", fn := fun _ => fun
  | [d1, d2] => { results := [.lit (.bool false)], args := [d1, d2] }
  | _ => none }
def FnExactSettleTableWrongFalsely : Prop := fnExactSettleTableRow.holds Tryz.pinned (OpenSpec.ofChange fnExactSettleTableWrong)

/-- 'laws.FnExactLeaveTable': WHATEVER THE INPUT: true; the input reads as it did. -/
def fnExactLeaveTableSpec : ChangeSpec := { name := "fnExactLeaveTable", fn := fun _ => fun
  | [d1, d2, d3] => { results := [.lit (.bool true)], args := [d1, d2, d3] }
  | _ => none }
def fnExactLeaveTableRow : OpenClaim := { program := "ytecnmodeggnjoaagreat", sum := "904cdb11233ec19d46e58ae087aac182490b9407803b182d543ef5064d1e4fc3", func := "loop.example/g00701/laws.FnExactLeaveTable", spec := "fnExactLeaveTable", inPlace := ["slices.overlaps[loop.example/g00701/impl.Hold]"], unfollowed := true, recurses := true, apart := false }
def FnExactLeaveTableSaid : Prop := fnExactLeaveTableRow.holds Tryz.pinned (OpenSpec.ofChange fnExactLeaveTableSpec)

/-- ITS FALSE NEIGHBOUR: 'it returns false'. Refute it at one input. -/
def fnExactLeaveTableWrong : ChangeSpec := { name := "fnExactLeaveTable", fn := fun _ => fun
  | [d1, d2, d3] => { results := [.lit (.bool false)], args := [d1, d2, d3] }
  | _ => none }
def FnExactLeaveTableWrongFalsely : Prop := fnExactLeaveTableRow.holds Tryz.pinned (OpenSpec.ofChange fnExactLeaveTableWrong)

/-- 'laws.FnExactFreeLock': WHATEVER THE INPUT: true; the input reads as it did. -/
def fnExactFreeLockSpec : ChangeSpec := { name := "fnExactFreeLock", fn := fun _ => fun
  | [d1, d2, d3, d4] => { results := [.lit (.bool true)], args := [d1, d2, d3, d4] }
  | _ => none }
def fnExactFreeLockRow : OpenClaim := { program := "ytecnmodeggnjoaagreat", sum := "904cdb11233ec19d46e58ae087aac182490b9407803b182d543ef5064d1e4fc3", func := "loop.example/g00701/laws.FnExactFreeLock", spec := "fnExactFreeLock", inPlace := ["slices.overlaps[loop.example/g00701/impl.Hold]"], unfollowed := true, recurses := true, apart := false }
def FnExactFreeLockSaid : Prop := fnExactFreeLockRow.holds Tryz.pinned (OpenSpec.ofChange fnExactFreeLockSpec)

/-- ITS FALSE NEIGHBOUR: 'it returns false'. Refute it at one input. -/
def fnExactFreeLockWrong : ChangeSpec := { name := "fnExactFreeLock", fn := fun _ => fun
  | [d1, d2, d3, d4] => { results := [.lit (.bool false)], args := [d1, d2, d3, d4] }
  | _ => none }
def FnExactFreeLockWrongFalsely : Prop := fnExactFreeLockRow.holds Tryz.pinned (OpenSpec.ofChange fnExactFreeLockWrong)

/-- 'laws.FnExactAskLock': WHATEVER THE INPUT: true; the input reads as it did. -/
def fnExactAskLockSpec : ChangeSpec := { name := "fnExactAskLock", fn := fun _ => fun
  | [d1, d2, d3] => { results := [.lit (.bool true)], args := [d1, d2, d3] }
  | _ => none }
def fnExactAskLockRow : OpenClaim := { program := "ytecnmodeggnjoaagreat", sum := "904cdb11233ec19d46e58ae087aac182490b9407803b182d543ef5064d1e4fc3", func := "loop.example/g00701/laws.FnExactAskLock", spec := "fnExactAskLock", inPlace := ["slices.overlaps[loop.example/g00701/impl.Hold]"], unfollowed := true, recurses := true, apart := false }
def FnExactAskLockSaid : Prop := fnExactAskLockRow.holds Tryz.pinned (OpenSpec.ofChange fnExactAskLockSpec)

/-- ITS FALSE NEIGHBOUR: 'it returns false'. Refute it at one input. -/
def fnExactAskLockWrong : ChangeSpec := { name := "fnExactAskLock", fn := fun _ => fun
  | [d1, d2, d3] => { results := [.lit (.bool false)], args := [d1, d2, d3] }
  | _ => none }
def FnExactAskLockWrongFalsely : Prop := fnExactAskLockRow.holds Tryz.pinned (OpenSpec.ofChange fnExactAskLockWrong)

/-- 'laws.FnExactApart': WHATEVER THE INPUT: true; the input reads as it did. -/
def fnExactApartSpec : ChangeSpec := { name := "fnExactApart", fn := fun _ => fun
  | [d] => { results := [.lit (.bool true)], args := [d] }
  | _ => none }
def fnExactApartRow : OpenClaim := { program := "ytecnmodeggnjoaagreat", sum := "904cdb11233ec19d46e58ae087aac182490b9407803b182d543ef5064d1e4fc3", func := "loop.example/g00701/laws.FnExactApart", spec := "fnExactApart", unfollowed := true, recurses := true, apart := false }
def FnExactApartSaid : Prop := fnExactApartRow.holds Tryz.pinned (OpenSpec.ofChange fnExactApartSpec)

/-- ITS FALSE NEIGHBOUR: 'it returns false'. Refute it at one input. -/
def fnExactApartWrong : ChangeSpec := { name := "fnExactApart", fn := fun _ => fun
  | [d] => { results := [.lit (.bool false)], args := [d] }
  | _ => none }
def FnExactApartWrongFalsely : Prop := fnExactApartRow.holds Tryz.pinned (OpenSpec.ofChange fnExactApartWrong)

/-- 'laws.FnExactSameHost': WHATEVER THE INPUT: true; the input reads as it did. -/
def fnExactSameHostSpec : ChangeSpec := { name := "fnExactSameHost", fn := fun _ => fun
  | [d1, d2] => { results := [.lit (.bool true)], args := [d1, d2] }
  | _ => none }
def fnExactSameHostRow : OpenClaim := { program := "ytecnmodeggnjoaagreat", sum := "904cdb11233ec19d46e58ae087aac182490b9407803b182d543ef5064d1e4fc3", func := "loop.example/g00701/laws.FnExactSameHost", spec := "fnExactSameHost", unfollowed := true, recurses := true, apart := false }
def FnExactSameHostSaid : Prop := fnExactSameHostRow.holds Tryz.pinned (OpenSpec.ofChange fnExactSameHostSpec)

/-- ITS FALSE NEIGHBOUR: 'it returns false'. Refute it at one input. -/
def fnExactSameHostWrong : ChangeSpec := { name := "fnExactSameHost", fn := fun _ => fun
  | [d1, d2] => { results := [.lit (.bool false)], args := [d1, d2] }
  | _ => none }
def FnExactSameHostWrongFalsely : Prop := fnExactSameHostRow.holds Tryz.pinned (OpenSpec.ofChange fnExactSameHostWrong)

/-- 'laws.FnExactWaitsOf': WHATEVER THE INPUT: true; the input reads as it did. -/
def fnExactWaitsOfSpec : ChangeSpec := { name := "fnExactWaitsOf", fn := fun _ => fun
  | [d] => { results := [.lit (.bool true)], args := [d] }
  | _ => none }
def fnExactWaitsOfRow : OpenClaim := { program := "ytecnmodeggnjoaagreat", sum := "904cdb11233ec19d46e58ae087aac182490b9407803b182d543ef5064d1e4fc3", func := "loop.example/g00701/laws.FnExactWaitsOf", spec := "fnExactWaitsOf", unfollowed := true, recurses := true, apart := false }
def FnExactWaitsOfSaid : Prop := fnExactWaitsOfRow.holds Tryz.pinned (OpenSpec.ofChange fnExactWaitsOfSpec)

/-- ITS FALSE NEIGHBOUR: 'it returns false'. Refute it at one input. -/
def fnExactWaitsOfWrong : ChangeSpec := { name := "fnExactWaitsOf", fn := fun _ => fun
  | [d] => { results := [.lit (.bool false)], args := [d] }
  | _ => none }
def FnExactWaitsOfWrongFalsely : Prop := fnExactWaitsOfRow.holds Tryz.pinned (OpenSpec.ofChange fnExactWaitsOfWrong)

/-- 'laws.FnExactWhoHas': WHATEVER THE INPUT: true; the input reads as it did. -/
def fnExactWhoHasSpec : ChangeSpec := { name := "fnExactWhoHas", fn := fun _ => fun
  | [d1, d2] => { results := [.lit (.bool true)], args := [d1, d2] }
  | _ => none }
def fnExactWhoHasRow : OpenClaim := { program := "ytecnmodeggnjoaagreat", sum := "904cdb11233ec19d46e58ae087aac182490b9407803b182d543ef5064d1e4fc3", func := "loop.example/g00701/laws.FnExactWhoHas", spec := "fnExactWhoHas", unfollowed := true, recurses := true, apart := false }
def FnExactWhoHasSaid : Prop := fnExactWhoHasRow.holds Tryz.pinned (OpenSpec.ofChange fnExactWhoHasSpec)

/-- ITS FALSE NEIGHBOUR: 'it returns false'. Refute it at one input. -/
def fnExactWhoHasWrong : ChangeSpec := { name := "fnExactWhoHas", fn := fun _ => fun
  | [d1, d2] => { results := [.lit (.bool false)], args := [d1, d2] }
  | _ => none }
def FnExactWhoHasWrongFalsely : Prop := fnExactWhoHasRow.holds Tryz.pinned (OpenSpec.ofChange fnExactWhoHasWrong)

/-- 'laws.FnExactSessionOf': WHATEVER THE INPUT: true; the input reads as it did. -/
def fnExactSessionOfSpec : ChangeSpec := { name := "fnExactSessionOf", fn := fun _ => fun
  | [d1, d2] => { results := [.lit (.bool true)], args := [d1, d2] }
  | _ => none }
def fnExactSessionOfRow : OpenClaim := { program := "ytecnmodeggnjoaagreat", sum := "904cdb11233ec19d46e58ae087aac182490b9407803b182d543ef5064d1e4fc3", func := "loop.example/g00701/laws.FnExactSessionOf", spec := "fnExactSessionOf", unfollowed := true, recurses := true, apart := false }
def FnExactSessionOfSaid : Prop := fnExactSessionOfRow.holds Tryz.pinned (OpenSpec.ofChange fnExactSessionOfSpec)

/-- ITS FALSE NEIGHBOUR: 'it returns false'. Refute it at one input. -/
def fnExactSessionOfWrong : ChangeSpec := { name := "fnExactSessionOf", fn := fun _ => fun
  | [d1, d2] => { results := [.lit (.bool false)], args := [d1, d2] }
  | _ => none }
def FnExactSessionOfWrongFalsely : Prop := fnExactSessionOfRow.holds Tryz.pinned (OpenSpec.ofChange fnExactSessionOfWrong)

/-- 'laws.FnExactApplyEdits': WHATEVER THE INPUT: true; the input reads as it did. -/
def fnExactApplyEditsSpec : ChangeSpec := { name := "fnExactApplyEdits", fn := fun _ => fun
  | [d1, d2] => { results := [.lit (.bool true)], args := [d1, d2] }
  | _ => none }
def fnExactApplyEditsRow : OpenClaim := { program := "ytecnmodeggnjoaagreat", sum := "904cdb11233ec19d46e58ae087aac182490b9407803b182d543ef5064d1e4fc3", func := "loop.example/g00701/laws.FnExactApplyEdits", spec := "fnExactApplyEdits", inPlace := ["slices.overlaps[int]"], unfollowed := true, recurses := true, apart := false }
def FnExactApplyEditsSaid : Prop := fnExactApplyEditsRow.holds Tryz.pinned (OpenSpec.ofChange fnExactApplyEditsSpec)

/-- ITS FALSE NEIGHBOUR: 'it returns false'. Refute it at one input. -/
def fnExactApplyEditsWrong : ChangeSpec := { name := "fnExactApplyEdits", fn := fun _ => fun
  | [d1, d2] => { results := [.lit (.bool false)], args := [d1, d2] }
  | _ => none }
def FnExactApplyEditsWrongFalsely : Prop := fnExactApplyEditsRow.holds Tryz.pinned (OpenSpec.ofChange fnExactApplyEditsWrong)

/-- 'laws.FnEdits': WHATEVER THE INPUT: true; the input reads as it did. -/
def fnEditsSpec : ChangeSpec := { name := "fnEdits", fn := fun _ => fun
  | [d1, d2] => { results := [.lit (.bool true)], args := [d1, d2] }
  | _ => none }
def fnEditsRow : OpenClaim := { program := "ytecnmodeggnjoaagreat", sum := "904cdb11233ec19d46e58ae087aac182490b9407803b182d543ef5064d1e4fc3", func := "loop.example/g00701/laws.FnEdits", spec := "fnEdits", inPlace := ["slices.overlaps[int]"], unfollowed := true, recurses := true, apart := false }
def FnEditsSaid : Prop := fnEditsRow.holds Tryz.pinned (OpenSpec.ofChange fnEditsSpec)

/-- ITS FALSE NEIGHBOUR: 'it returns false'. Refute it at one input. -/
def fnEditsWrong : ChangeSpec := { name := "fnEdits", fn := fun _ => fun
  | [d1, d2] => { results := [.lit (.bool false)], args := [d1, d2] }
  | _ => none }
def FnEditsWrongFalsely : Prop := fnEditsRow.holds Tryz.pinned (OpenSpec.ofChange fnEditsWrong)

/-- 'laws.FnBack': WHATEVER THE INPUT: true; the input reads as it did. -/
def fnBackSpec : ChangeSpec := { name := "fnBack", fn := fun _ => fun
  | [d1, d2] => { results := [.lit (.bool true)], args := [d1, d2] }
  | _ => none }
def fnBackRow : OpenClaim := { program := "ytecnmodeggnjoaagreat", sum := "904cdb11233ec19d46e58ae087aac182490b9407803b182d543ef5064d1e4fc3", func := "loop.example/g00701/laws.FnBack", spec := "fnBack", inPlace := ["slices.overlaps[int]"], unfollowed := true, recurses := true, apart := false }
def FnBackSaid : Prop := fnBackRow.holds Tryz.pinned (OpenSpec.ofChange fnBackSpec)

/-- ITS FALSE NEIGHBOUR: 'it returns false'. Refute it at one input. -/
def fnBackWrong : ChangeSpec := { name := "fnBack", fn := fun _ => fun
  | [d1, d2] => { results := [.lit (.bool false)], args := [d1, d2] }
  | _ => none }
def FnBackWrongFalsely : Prop := fnBackRow.holds Tryz.pinned (OpenSpec.ofChange fnBackWrong)

/- THE SECOND FORM. 'bulk': how many values and letters a reading holds, each counted each time it is reached (what is shared counts as often as it is met; a slice's spare places count too). A statement '..UptoSaid' is the law's where the arguments, and the package variables that the reading takes, are together of bulk at most 1048576: NARROWER than '..Said'. Prove '..Said' where nothing that the law and all that it calls make is longer than what came in: it says more and counts as full. Else prove '..UptoSaid'. A law counts once. -/
mutual
def uptoBulk {H : Type} : DataW H → Nat
  | .lit (.string bytes) => bytes.length + 1
  | .lit _ => 1
  | .nil => 1
  | .ptr d => uptoBulk d + 1
  | .slice elems spare => uptoBulkAll elems + uptoBulkAll spare + 1
  | .agg parts => uptoBulkAll parts + 1
  | .iface _ d => uptoBulk d + 1
  | .map entries => uptoBulkEntries entries + 1
  | .held _ => 1
def uptoBulkAll {H : Type} : List (DataW H) → Nat
  | [] => 0
  | d :: r => uptoBulk d + uptoBulkAll r
def uptoBulkEntries {H : Type} : List (Lit × DataW H) → Nat
  | [] => 0
  | x :: r => uptoBulkEntry x + uptoBulkEntries r
def uptoBulkEntry {H : Type} : Lit × DataW H → Nat
  | (.string bytes, d) => bytes.length + uptoBulk d + 1
  | (_, d) => uptoBulk d + 1
 end
def uptoSmall : (H : Type) → List (DataW H) → Bool := fun _ ds => decide (uptoBulkAll ds ≤ 1048576)
def OpenSpec.upto (s : _root_.Go.ChangeSpec) : _root_.Go.OpenSpec := { _root_.Go.OpenSpec.ofChange s with cond := some uptoSmall }

/-- 'laws.FnExactSettleTable', WHERE WHAT IT READS IS OF BULK AT MOST 1048576: true; the input reads as it did. -/
def fnExactSettleTableUptoRow : OpenClaim := { program := "ytecnmodeggnjoaagreat", sum := "904cdb11233ec19d46e58ae087aac182490b9407803b182d543ef5064d1e4fc3", func := "loop.example/g00701/laws.FnExactSettleTable", spec := "fnExactSettleTable", inPlace := ["slices.overlaps[loop.example/g00701/impl.Hold]"], unfollowed := true, recurses := true, apart := false, narrowed := true }
def FnExactSettleTableUptoSaid : Prop := fnExactSettleTableUptoRow.holds Tryz.pinned (OpenSpec.upto fnExactSettleTableSpec)

/-- 'laws.FnExactLeaveTable', WHERE WHAT IT READS IS OF BULK AT MOST 1048576: true; the input reads as it did. -/
def fnExactLeaveTableUptoRow : OpenClaim := { program := "ytecnmodeggnjoaagreat", sum := "904cdb11233ec19d46e58ae087aac182490b9407803b182d543ef5064d1e4fc3", func := "loop.example/g00701/laws.FnExactLeaveTable", spec := "fnExactLeaveTable", inPlace := ["slices.overlaps[loop.example/g00701/impl.Hold]"], unfollowed := true, recurses := true, apart := false, narrowed := true }
def FnExactLeaveTableUptoSaid : Prop := fnExactLeaveTableUptoRow.holds Tryz.pinned (OpenSpec.upto fnExactLeaveTableSpec)

/-- 'laws.FnExactFreeLock', WHERE WHAT IT READS IS OF BULK AT MOST 1048576: true; the input reads as it did. -/
def fnExactFreeLockUptoRow : OpenClaim := { program := "ytecnmodeggnjoaagreat", sum := "904cdb11233ec19d46e58ae087aac182490b9407803b182d543ef5064d1e4fc3", func := "loop.example/g00701/laws.FnExactFreeLock", spec := "fnExactFreeLock", inPlace := ["slices.overlaps[loop.example/g00701/impl.Hold]"], unfollowed := true, recurses := true, apart := false, narrowed := true }
def FnExactFreeLockUptoSaid : Prop := fnExactFreeLockUptoRow.holds Tryz.pinned (OpenSpec.upto fnExactFreeLockSpec)

/-- 'laws.FnExactAskLock', WHERE WHAT IT READS IS OF BULK AT MOST 1048576: true; the input reads as it did. -/
def fnExactAskLockUptoRow : OpenClaim := { program := "ytecnmodeggnjoaagreat", sum := "904cdb11233ec19d46e58ae087aac182490b9407803b182d543ef5064d1e4fc3", func := "loop.example/g00701/laws.FnExactAskLock", spec := "fnExactAskLock", inPlace := ["slices.overlaps[loop.example/g00701/impl.Hold]"], unfollowed := true, recurses := true, apart := false, narrowed := true }
def FnExactAskLockUptoSaid : Prop := fnExactAskLockUptoRow.holds Tryz.pinned (OpenSpec.upto fnExactAskLockSpec)

/-- 'laws.FnExactApart', WHERE WHAT IT READS IS OF BULK AT MOST 1048576: true; the input reads as it did. -/
def fnExactApartUptoRow : OpenClaim := { program := "ytecnmodeggnjoaagreat", sum := "904cdb11233ec19d46e58ae087aac182490b9407803b182d543ef5064d1e4fc3", func := "loop.example/g00701/laws.FnExactApart", spec := "fnExactApart", unfollowed := true, recurses := true, apart := false, narrowed := true }
def FnExactApartUptoSaid : Prop := fnExactApartUptoRow.holds Tryz.pinned (OpenSpec.upto fnExactApartSpec)

/-- 'laws.FnExactSameHost', WHERE WHAT IT READS IS OF BULK AT MOST 1048576: true; the input reads as it did. -/
def fnExactSameHostUptoRow : OpenClaim := { program := "ytecnmodeggnjoaagreat", sum := "904cdb11233ec19d46e58ae087aac182490b9407803b182d543ef5064d1e4fc3", func := "loop.example/g00701/laws.FnExactSameHost", spec := "fnExactSameHost", unfollowed := true, recurses := true, apart := false, narrowed := true }
def FnExactSameHostUptoSaid : Prop := fnExactSameHostUptoRow.holds Tryz.pinned (OpenSpec.upto fnExactSameHostSpec)

/-- 'laws.FnExactWaitsOf', WHERE WHAT IT READS IS OF BULK AT MOST 1048576: true; the input reads as it did. -/
def fnExactWaitsOfUptoRow : OpenClaim := { program := "ytecnmodeggnjoaagreat", sum := "904cdb11233ec19d46e58ae087aac182490b9407803b182d543ef5064d1e4fc3", func := "loop.example/g00701/laws.FnExactWaitsOf", spec := "fnExactWaitsOf", unfollowed := true, recurses := true, apart := false, narrowed := true }
def FnExactWaitsOfUptoSaid : Prop := fnExactWaitsOfUptoRow.holds Tryz.pinned (OpenSpec.upto fnExactWaitsOfSpec)

/-- 'laws.FnExactWhoHas', WHERE WHAT IT READS IS OF BULK AT MOST 1048576: true; the input reads as it did. -/
def fnExactWhoHasUptoRow : OpenClaim := { program := "ytecnmodeggnjoaagreat", sum := "904cdb11233ec19d46e58ae087aac182490b9407803b182d543ef5064d1e4fc3", func := "loop.example/g00701/laws.FnExactWhoHas", spec := "fnExactWhoHas", unfollowed := true, recurses := true, apart := false, narrowed := true }
def FnExactWhoHasUptoSaid : Prop := fnExactWhoHasUptoRow.holds Tryz.pinned (OpenSpec.upto fnExactWhoHasSpec)

/-- 'laws.FnExactSessionOf', WHERE WHAT IT READS IS OF BULK AT MOST 1048576: true; the input reads as it did. -/
def fnExactSessionOfUptoRow : OpenClaim := { program := "ytecnmodeggnjoaagreat", sum := "904cdb11233ec19d46e58ae087aac182490b9407803b182d543ef5064d1e4fc3", func := "loop.example/g00701/laws.FnExactSessionOf", spec := "fnExactSessionOf", unfollowed := true, recurses := true, apart := false, narrowed := true }
def FnExactSessionOfUptoSaid : Prop := fnExactSessionOfUptoRow.holds Tryz.pinned (OpenSpec.upto fnExactSessionOfSpec)

/-- 'laws.FnExactApplyEdits', WHERE WHAT IT READS IS OF BULK AT MOST 1048576: true; the input reads as it did. -/
def fnExactApplyEditsUptoRow : OpenClaim := { program := "ytecnmodeggnjoaagreat", sum := "904cdb11233ec19d46e58ae087aac182490b9407803b182d543ef5064d1e4fc3", func := "loop.example/g00701/laws.FnExactApplyEdits", spec := "fnExactApplyEdits", inPlace := ["slices.overlaps[int]"], unfollowed := true, recurses := true, apart := false, narrowed := true }
def FnExactApplyEditsUptoSaid : Prop := fnExactApplyEditsUptoRow.holds Tryz.pinned (OpenSpec.upto fnExactApplyEditsSpec)

/-- 'laws.FnEdits', WHERE WHAT IT READS IS OF BULK AT MOST 1048576: true; the input reads as it did. -/
def fnEditsUptoRow : OpenClaim := { program := "ytecnmodeggnjoaagreat", sum := "904cdb11233ec19d46e58ae087aac182490b9407803b182d543ef5064d1e4fc3", func := "loop.example/g00701/laws.FnEdits", spec := "fnEdits", inPlace := ["slices.overlaps[int]"], unfollowed := true, recurses := true, apart := false, narrowed := true }
def FnEditsUptoSaid : Prop := fnEditsUptoRow.holds Tryz.pinned (OpenSpec.upto fnEditsSpec)

/-- 'laws.FnBack', WHERE WHAT IT READS IS OF BULK AT MOST 1048576: true; the input reads as it did. -/
def fnBackUptoRow : OpenClaim := { program := "ytecnmodeggnjoaagreat", sum := "904cdb11233ec19d46e58ae087aac182490b9407803b182d543ef5064d1e4fc3", func := "loop.example/g00701/laws.FnBack", spec := "fnBack", inPlace := ["slices.overlaps[int]"], unfollowed := true, recurses := true, apart := false, narrowed := true }
def FnBackUptoSaid : Prop := fnBackUptoRow.holds Tryz.pinned (OpenSpec.upto fnBackSpec)

end Rows
end Go.Proofs.YtecnmodeggnjoaaGreat

/-
  DERIVED. GIVEN WITH THE SEED: THE CARDS: each row of YtfafehhallbjiaaDoorRows.lean that lists a variable, with what it lists TIED to the program's text (the seventh form; the later family's looks); each row that meets fmt, with fmt's text TOLD by the authors' own Lean function (tested against real Go, not proved from fmt's source: count such statements apart). THE CARD IS WHAT COUNTS. Prove the row's statement (the work); the ties are given (YtfafehhallbjiaaDoorTie.lean); close each card by the builder's one call (the guide's Derived/Test/ToyasCard.lean, 'card_holds'). Laid BY PROGRAM, IN A SANDBOX (cutbox-door.mjs). By AI agents, Wed Nov 11 2026. No macro, syntax, notation, axiom, sorry.
-/
import Derived.Test.YtfafehhallbjiaaDoorRows
import GoSem.ClaimSeven
namespace Go.Proofs.YtfafehhallbjiaaDoor
namespace Rows

/-- THE TIED CARD OF 'laws.FnExactRequestLine'. -/
def fnExactRequestLineCard : Claim7 := { stood := { row := fnExactRequestLineRow, standIns := [], harness := (true, "d02ad60adcc3b406475785ba8d69512bb28d9119397e7309a123c8be8eff467a"), looks := false }, kinds := [], alts := [], laidByText := true, laidKinds := [.data, .data, .data], laidTests := true, laidLooks := .later }
def FnExactRequestLineCardSaid : Prop := Claim7.holds Tryd.pinned (.plain (OpenSpec.ofChange fnExactRequestLineSpec)) fnExactRequestLineCard

/-- THE SECOND FORM's CARD OF 'laws.FnExactRequestLine'. -/
def fnExactRequestLineUptoCard : Claim7 := { stood := { row := fnExactRequestLineUptoRow, standIns := [], harness := (true, "d02ad60adcc3b406475785ba8d69512bb28d9119397e7309a123c8be8eff467a"), looks := false }, kinds := [], alts := [], laidByText := true, laidKinds := [.data, .data, .data], laidTests := true, laidLooks := .later }
def FnExactRequestLineUptoCardSaid : Prop := Claim7.holds Tryd.pinned (.plain (OpenSpec.upto fnExactRequestLineSpec)) fnExactRequestLineUptoCard
end Rows
end Go.Proofs.YtfafehhallbjiaaDoor

/-
  DERIVED. GIVEN WITH THE SEED: THE CARDS: each row of YtobjbgmimjehlaaGreatDoorRows.lean that lists a variable, with what it lists TIED to the program's text (the seventh form; the later family's looks); each row that meets fmt, with fmt's text TOLD by the authors' own Lean function (tested against real Go, not proved from fmt's source: count such statements apart). THE CARD IS WHAT COUNTS. Prove the row's statement (the work); the ties are given (YtobjbgmimjehlaaGreatDoorTie.lean); close each card by the builder's one call (the guide's Derived/Test/ToyasCard.lean, 'card_holds'). Laid BY PROGRAM, IN A SANDBOX (cutbox-door.mjs). By AI agents, Wed Nov 11 2026. No macro, syntax, notation, axiom, sorry.
-/
import Derived.Test.YtobjbgmimjehlaaGreatDoorRows
import GoSem.ClaimSeven
namespace Go.Proofs.YtobjbgmimjehlaaGreatDoor
namespace Rows

/-- THE TIED CARD OF 'purlinlaw20.DurableNone'. -/
def durableNoneCard : Claim7 := { stood := { row := durableNoneRow, standIns := [], harness := (true, "9d169fb854f17bba8236c8e62c85aa354e288df12119c43b5e3cd5f20978db3a"), looks := true }, kinds := [], alts := [], laidByText := true, laidKinds := [.data, .data, .data, .widerDeep, .sentinel, .sentinel], laidTests := true, laidLooks := .later }
def DurableNoneCardSaid : Prop := Claim7.holds Tryz.pinned (.plain (OpenSpec.ofChange durableNoneSpec)) durableNoneCard

/-- THE SECOND FORM's CARD OF 'purlinlaw20.DurableNone'. -/
def durableNoneUptoCard : Claim7 := { stood := { row := durableNoneUptoRow, standIns := [], harness := (true, "9d169fb854f17bba8236c8e62c85aa354e288df12119c43b5e3cd5f20978db3a"), looks := true }, kinds := [], alts := [], laidByText := true, laidKinds := [.data, .data, .data, .widerDeep, .sentinel, .sentinel], laidTests := true, laidLooks := .later }
def DurableNoneUptoCardSaid : Prop := Claim7.holds Tryz.pinned (.plain (OpenSpec.upto durableNoneSpec)) durableNoneUptoCard
end Rows
end Go.Proofs.YtobjbgmimjehlaaGreatDoor

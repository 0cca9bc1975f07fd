/-
  DERIVED. GIVEN WITH THE SEED: THE CARDS: each row of YtdnokoimbekoeaaGreatDoorRows.lean that lists a variable, with what it lists TIED to the program's text (the seventh form; the later family's looks); each row that meets fmt, with fmt's text TOLD by the authors' own Lean function (tested against real Go, not proved from fmt's source: count such statements apart). THE CARD IS WHAT COUNTS. Prove the row's statement (the work); the ties are given (YtdnokoimbekoeaaGreatDoorTie.lean); close each card by the builder's one call (the guide's Derived/Test/ToyasCard.lean, 'card_holds'). Laid BY PROGRAM, IN A SANDBOX (cutbox-door.mjs). By AI agents, Wed Nov 11 2026. No macro, syntax, notation, axiom, sorry.
-/
import Derived.Test.YtdnokoimbekoeaaGreatDoorRows
import GoSem.ClaimSeven
namespace Go.Proofs.YtdnokoimbekoeaaGreatDoor
namespace Rows

/-- THE TIED CARD OF 'caduceustop.TopNamed'. -/
def topNamedCard : Claim7 := { stood := { row := topNamedRow, standIns := [], harness := (true, "644b168e333d1df3b3985730c95aea478b2389e4b5a344498d388220037bf4a6"), looks := true }, kinds := [], alts := [], laidByText := true, laidKinds := [.data, .data, .data, .data, .sentinel, .sentinel, .pinned], laidTests := true, laidLooks := .later }
def TopNamedCardSaid : Prop := Claim7.holds Tryz.pinned (.plain (OpenSpec.ofChange topNamedSpec)) topNamedCard

/-- THE SECOND FORM's CARD OF 'caduceustop.TopNamed'. -/
def topNamedUptoCard : Claim7 := { stood := { row := topNamedUptoRow, standIns := [], harness := (true, "644b168e333d1df3b3985730c95aea478b2389e4b5a344498d388220037bf4a6"), looks := true }, kinds := [], alts := [], laidByText := true, laidKinds := [.data, .data, .data, .data, .sentinel, .sentinel, .pinned], laidTests := true, laidLooks := .later }
def TopNamedUptoCardSaid : Prop := Claim7.holds Tryz.pinned (.plain (OpenSpec.upto topNamedSpec)) topNamedUptoCard
end Rows
end Go.Proofs.YtdnokoimbekoeaaGreatDoor

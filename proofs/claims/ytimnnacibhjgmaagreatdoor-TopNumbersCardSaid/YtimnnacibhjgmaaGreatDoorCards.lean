/-
  DERIVED. GIVEN WITH THE SEED: THE CARDS: each row of YtimnnacibhjgmaaGreatDoorRows.lean that lists a variable, with what it lists TIED to the program's text (the seventh form; the later family's looks); each row that meets fmt, with fmt's text TOLD by the authors' own Lean function (tested against real Go, not proved from fmt's source: count such statements apart). THE CARD IS WHAT COUNTS. Prove the row's statement (the work); the ties are given (YtimnnacibhjgmaaGreatDoorTie.lean); close each card by the builder's one call (the guide's Derived/Test/ToyasCard.lean, 'card_holds'). Laid BY PROGRAM, IN A SANDBOX (cutbox-door.mjs). By AI agents, Wed Nov 11 2026. No macro, syntax, notation, axiom, sorry.
-/
import Derived.Test.YtimnnacibhjgmaaGreatDoorRows
import GoSem.ClaimSeven
namespace Go.Proofs.YtimnnacibhjgmaaGreatDoor
namespace Rows

/-- THE TIED CARD OF 'caduceustop.TopQueued'. -/
def topQueuedCard : Claim7 := { stood := { row := topQueuedRow, standIns := [], harness := (true, "39eabbb66c9f7be576697a8f12f9ba966155965c4a5a01df824d9bf6b8ea5421"), looks := true }, kinds := [], alts := [], laidByText := true, laidKinds := [.data, .data, .data, .data, .sentinel, .sentinel, .pinned], laidTests := true, laidLooks := .later }
def TopQueuedCardSaid : Prop := Claim7.holds Tryz.pinned (.plain (OpenSpec.ofChange topQueuedSpec)) topQueuedCard

/-- THE TIED CARD OF 'caduceustop.TopNets'. -/
def topNetsCard : Claim7 := { stood := { row := topNetsRow, standIns := [], harness := (true, "39eabbb66c9f7be576697a8f12f9ba966155965c4a5a01df824d9bf6b8ea5421"), looks := true }, kinds := [], alts := [], laidByText := true, laidKinds := [.data, .data, .data, .data, .sentinel, .sentinel, .pinned], laidTests := true, laidLooks := .later }
def TopNetsCardSaid : Prop := Claim7.holds Tryz.pinned (.plain (OpenSpec.ofChange topNetsSpec)) topNetsCard

/-- THE TIED CARD OF 'caduceustop.TopNumbers'. -/
def topNumbersCard : Claim7 := { stood := { row := topNumbersRow, standIns := [], harness := (true, "39eabbb66c9f7be576697a8f12f9ba966155965c4a5a01df824d9bf6b8ea5421"), looks := true }, kinds := [], alts := [], laidByText := true, laidKinds := [.data, .data, .data, .data, .sentinel, .sentinel, .pinned], laidTests := true, laidLooks := .later }
def TopNumbersCardSaid : Prop := Claim7.holds Tryz.pinned (.plain (OpenSpec.ofChange topNumbersSpec)) topNumbersCard

/-- THE TIED CARD OF 'caduceustop.TopViews'. -/
def topViewsCard : Claim7 := { stood := { row := topViewsRow, standIns := [], harness := (true, "39eabbb66c9f7be576697a8f12f9ba966155965c4a5a01df824d9bf6b8ea5421"), looks := true }, kinds := [], alts := [], laidByText := true, laidKinds := [.data, .data, .data, .data, .sentinel, .sentinel, .pinned], laidTests := true, laidLooks := .later }
def TopViewsCardSaid : Prop := Claim7.holds Tryz.pinned (.plain (OpenSpec.ofChange topViewsSpec)) topViewsCard

/-- THE SECOND FORM's CARD OF 'caduceustop.TopQueued'. -/
def topQueuedUptoCard : Claim7 := { stood := { row := topQueuedUptoRow, standIns := [], harness := (true, "39eabbb66c9f7be576697a8f12f9ba966155965c4a5a01df824d9bf6b8ea5421"), looks := true }, kinds := [], alts := [], laidByText := true, laidKinds := [.data, .data, .data, .data, .sentinel, .sentinel, .pinned], laidTests := true, laidLooks := .later }
def TopQueuedUptoCardSaid : Prop := Claim7.holds Tryz.pinned (.plain (OpenSpec.upto topQueuedSpec)) topQueuedUptoCard

/-- THE SECOND FORM's CARD OF 'caduceustop.TopNets'. -/
def topNetsUptoCard : Claim7 := { stood := { row := topNetsUptoRow, standIns := [], harness := (true, "39eabbb66c9f7be576697a8f12f9ba966155965c4a5a01df824d9bf6b8ea5421"), looks := true }, kinds := [], alts := [], laidByText := true, laidKinds := [.data, .data, .data, .data, .sentinel, .sentinel, .pinned], laidTests := true, laidLooks := .later }
def TopNetsUptoCardSaid : Prop := Claim7.holds Tryz.pinned (.plain (OpenSpec.upto topNetsSpec)) topNetsUptoCard

/-- THE SECOND FORM's CARD OF 'caduceustop.TopNumbers'. -/
def topNumbersUptoCard : Claim7 := { stood := { row := topNumbersUptoRow, standIns := [], harness := (true, "39eabbb66c9f7be576697a8f12f9ba966155965c4a5a01df824d9bf6b8ea5421"), looks := true }, kinds := [], alts := [], laidByText := true, laidKinds := [.data, .data, .data, .data, .sentinel, .sentinel, .pinned], laidTests := true, laidLooks := .later }
def TopNumbersUptoCardSaid : Prop := Claim7.holds Tryz.pinned (.plain (OpenSpec.upto topNumbersSpec)) topNumbersUptoCard

/-- THE SECOND FORM's CARD OF 'caduceustop.TopViews'. -/
def topViewsUptoCard : Claim7 := { stood := { row := topViewsUptoRow, standIns := [], harness := (true, "39eabbb66c9f7be576697a8f12f9ba966155965c4a5a01df824d9bf6b8ea5421"), looks := true }, kinds := [], alts := [], laidByText := true, laidKinds := [.data, .data, .data, .data, .sentinel, .sentinel, .pinned], laidTests := true, laidLooks := .later }
def TopViewsUptoCardSaid : Prop := Claim7.holds Tryz.pinned (.plain (OpenSpec.upto topViewsSpec)) topViewsUptoCard
end Rows
end Go.Proofs.YtimnnacibhjgmaaGreatDoor

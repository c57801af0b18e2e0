/-
  DERIVED. GIVEN WITH THE SEED: THE CARDS: each row of YtcknpohghmkbmaaGreatDoorRows.lean that lists a variable, with what it lists TIED to the program's text (the seventh form; the later family's looks); each row that meets fmt, with fmt's text TOLD by the authors' own Lean function (tested against real Go, not proved from fmt's source: count such statements apart). THE CARD IS WHAT COUNTS. Prove the row's statement (the work); the ties are given (YtcknpohghmkbmaaGreatDoorTie.lean); close each card by the builder's one call (the guide's Derived/Test/ToyasCard.lean, 'card_holds'). Laid BY PROGRAM, IN A SANDBOX (cutbox-door.mjs). By AI agents, Wed Nov 11 2026. No macro, syntax, notation, axiom, sorry.
-/
import Derived.Test.YtcknpohghmkbmaaGreatDoorRows
import GoSem.ClaimSeven
namespace Go.Proofs.YtcknpohghmkbmaaGreatDoor
namespace Rows

/-- THE TIED CARD OF 'proteuslaw14.DepsLocal'. -/
def depsLocalCard : Claim7 := { stood := { row := depsLocalRow, standIns := [], harness := (true, "068af98bd135b50137c89c7661bf7e6853434fc3392795de89589aa7b0b69039"), looks := true }, kinds := [], alts := [], laidByText := true, laidKinds := [.data, .data, .data, .data, .sentinel, .sentinel, .pinned], laidTests := true, laidLooks := .later }
def DepsLocalCardSaid : Prop := Claim7.holds Tryz.pinned (.plain (OpenSpec.ofChange depsLocalSpec)) depsLocalCard

/-- THE TIED CARD OF 'proteuslaw14.DepsMore'. -/
def depsMoreCard : Claim7 := { stood := { row := depsMoreRow, standIns := [], harness := (true, "068af98bd135b50137c89c7661bf7e6853434fc3392795de89589aa7b0b69039"), looks := true }, kinds := [], alts := [], laidByText := true, laidKinds := [.data, .data, .data, .data, .sentinel, .sentinel, .pinned], laidTests := true, laidLooks := .later }
def DepsMoreCardSaid : Prop := Claim7.holds Tryz.pinned (.plain (OpenSpec.ofChange depsMoreSpec)) depsMoreCard

/-- THE TIED CARD OF 'proteuslaw14.DepsPlace'. -/
def depsPlaceCard : Claim7 := { stood := { row := depsPlaceRow, standIns := [], harness := (true, "068af98bd135b50137c89c7661bf7e6853434fc3392795de89589aa7b0b69039"), looks := true }, kinds := [], alts := [], laidByText := true, laidKinds := [.data, .data, .data, .data, .sentinel, .sentinel, .pinned], laidTests := true, laidLooks := .later }
def DepsPlaceCardSaid : Prop := Claim7.holds Tryz.pinned (.plain (OpenSpec.ofChange depsPlaceSpec)) depsPlaceCard

/-- THE TIED CARD OF 'proteuslaw14.DepsOrder'. -/
def depsOrderCard : Claim7 := { stood := { row := depsOrderRow, standIns := [], harness := (true, "068af98bd135b50137c89c7661bf7e6853434fc3392795de89589aa7b0b69039"), looks := true }, kinds := [], alts := [], laidByText := true, laidKinds := [.data, .data, .data, .data, .sentinel, .sentinel, .pinned], laidTests := true, laidLooks := .later }
def DepsOrderCardSaid : Prop := Claim7.holds Tryz.pinned (.plain (OpenSpec.ofChange depsOrderSpec)) depsOrderCard

/-- THE TIED CARD OF 'proteuslaw14.DepsStale'. -/
def depsStaleCard : Claim7 := { stood := { row := depsStaleRow, standIns := [], harness := (true, "068af98bd135b50137c89c7661bf7e6853434fc3392795de89589aa7b0b69039"), looks := true }, kinds := [], alts := [], laidByText := true, laidKinds := [.data, .data, .data, .data, .sentinel, .sentinel, .pinned], laidTests := true, laidLooks := .later }
def DepsStaleCardSaid : Prop := Claim7.holds Tryz.pinned (.plain (OpenSpec.ofChange depsStaleSpec)) depsStaleCard

/-- THE SECOND FORM's CARD OF 'proteuslaw14.DepsLocal'. -/
def depsLocalUptoCard : Claim7 := { stood := { row := depsLocalUptoRow, standIns := [], harness := (true, "068af98bd135b50137c89c7661bf7e6853434fc3392795de89589aa7b0b69039"), looks := true }, kinds := [], alts := [], laidByText := true, laidKinds := [.data, .data, .data, .data, .sentinel, .sentinel, .pinned], laidTests := true, laidLooks := .later }
def DepsLocalUptoCardSaid : Prop := Claim7.holds Tryz.pinned (.plain (OpenSpec.upto depsLocalSpec)) depsLocalUptoCard

/-- THE SECOND FORM's CARD OF 'proteuslaw14.DepsMore'. -/
def depsMoreUptoCard : Claim7 := { stood := { row := depsMoreUptoRow, standIns := [], harness := (true, "068af98bd135b50137c89c7661bf7e6853434fc3392795de89589aa7b0b69039"), looks := true }, kinds := [], alts := [], laidByText := true, laidKinds := [.data, .data, .data, .data, .sentinel, .sentinel, .pinned], laidTests := true, laidLooks := .later }
def DepsMoreUptoCardSaid : Prop := Claim7.holds Tryz.pinned (.plain (OpenSpec.upto depsMoreSpec)) depsMoreUptoCard

/-- THE SECOND FORM's CARD OF 'proteuslaw14.DepsPlace'. -/
def depsPlaceUptoCard : Claim7 := { stood := { row := depsPlaceUptoRow, standIns := [], harness := (true, "068af98bd135b50137c89c7661bf7e6853434fc3392795de89589aa7b0b69039"), looks := true }, kinds := [], alts := [], laidByText := true, laidKinds := [.data, .data, .data, .data, .sentinel, .sentinel, .pinned], laidTests := true, laidLooks := .later }
def DepsPlaceUptoCardSaid : Prop := Claim7.holds Tryz.pinned (.plain (OpenSpec.upto depsPlaceSpec)) depsPlaceUptoCard

/-- THE SECOND FORM's CARD OF 'proteuslaw14.DepsOrder'. -/
def depsOrderUptoCard : Claim7 := { stood := { row := depsOrderUptoRow, standIns := [], harness := (true, "068af98bd135b50137c89c7661bf7e6853434fc3392795de89589aa7b0b69039"), looks := true }, kinds := [], alts := [], laidByText := true, laidKinds := [.data, .data, .data, .data, .sentinel, .sentinel, .pinned], laidTests := true, laidLooks := .later }
def DepsOrderUptoCardSaid : Prop := Claim7.holds Tryz.pinned (.plain (OpenSpec.upto depsOrderSpec)) depsOrderUptoCard

/-- THE SECOND FORM's CARD OF 'proteuslaw14.DepsStale'. -/
def depsStaleUptoCard : Claim7 := { stood := { row := depsStaleUptoRow, standIns := [], harness := (true, "068af98bd135b50137c89c7661bf7e6853434fc3392795de89589aa7b0b69039"), looks := true }, kinds := [], alts := [], laidByText := true, laidKinds := [.data, .data, .data, .data, .sentinel, .sentinel, .pinned], laidTests := true, laidLooks := .later }
def DepsStaleUptoCardSaid : Prop := Claim7.holds Tryz.pinned (.plain (OpenSpec.upto depsStaleSpec)) depsStaleUptoCard
end Rows
end Go.Proofs.YtcknpohghmkbmaaGreatDoor

/-
  DERIVED. GIVEN WITH THE SEED: THE CARDS: each row of YtplpnfjccemdnaaGreatDoorRows.lean that lists a variable, with what it lists TIED to the program's text (the seventh form; the later family's looks); each row that meets fmt, with fmt's text TOLD by the authors' own Lean function (tested against real Go, not proved from fmt's source: count such statements apart). THE CARD IS WHAT COUNTS. Prove the row's statement (the work); the ties are given (YtplpnfjccemdnaaGreatDoorTie.lean); close each card by the builder's one call (the guide's Derived/Test/ToyasCard.lean, 'card_holds'). Laid BY PROGRAM, IN A SANDBOX (cutbox-door.mjs). By AI agents, Wed Nov 11 2026. No macro, syntax, notation, axiom, sorry.
-/
import Derived.Test.YtplpnfjccemdnaaGreatDoorRows
import GoSem.ClaimSeven
namespace Go.Proofs.YtplpnfjccemdnaaGreatDoor
namespace Rows

/-- THE TIED CARD OF 'proteuslaw14.DepsSound'. -/
def depsSoundCard : Claim7 := { stood := { row := depsSoundRow, standIns := [], harness := (true, "560c2f6fb9cc03d7383c4a220b24150d3e912aa8d69d64782f4499d67a87ba18"), looks := true }, kinds := [], alts := [], laidByText := true, laidKinds := [.data, .data, .data, .data, .sentinel, .sentinel, .pinned], laidTests := true, laidLooks := .later }
def DepsSoundCardSaid : Prop := Claim7.holds Tryz.pinned (.plain (OpenSpec.ofChange depsSoundSpec)) depsSoundCard

/-- THE TIED CARD OF 'proteuslaw14.DepsResends'. -/
def depsResendsCard : Claim7 := { stood := { row := depsResendsRow, standIns := [], harness := (true, "560c2f6fb9cc03d7383c4a220b24150d3e912aa8d69d64782f4499d67a87ba18"), looks := true }, kinds := [], alts := [], laidByText := true, laidKinds := [.data, .data, .data, .data, .sentinel, .sentinel, .pinned], laidTests := true, laidLooks := .later }
def DepsResendsCardSaid : Prop := Claim7.holds Tryz.pinned (.plain (OpenSpec.ofChange depsResendsSpec)) depsResendsCard

/-- THE SECOND FORM's CARD OF 'proteuslaw14.DepsSound'. -/
def depsSoundUptoCard : Claim7 := { stood := { row := depsSoundUptoRow, standIns := [], harness := (true, "560c2f6fb9cc03d7383c4a220b24150d3e912aa8d69d64782f4499d67a87ba18"), looks := true }, kinds := [], alts := [], laidByText := true, laidKinds := [.data, .data, .data, .data, .sentinel, .sentinel, .pinned], laidTests := true, laidLooks := .later }
def DepsSoundUptoCardSaid : Prop := Claim7.holds Tryz.pinned (.plain (OpenSpec.upto depsSoundSpec)) depsSoundUptoCard

/-- THE SECOND FORM's CARD OF 'proteuslaw14.DepsResends'. -/
def depsResendsUptoCard : Claim7 := { stood := { row := depsResendsUptoRow, standIns := [], harness := (true, "560c2f6fb9cc03d7383c4a220b24150d3e912aa8d69d64782f4499d67a87ba18"), looks := true }, kinds := [], alts := [], laidByText := true, laidKinds := [.data, .data, .data, .data, .sentinel, .sentinel, .pinned], laidTests := true, laidLooks := .later }
def DepsResendsUptoCardSaid : Prop := Claim7.holds Tryz.pinned (.plain (OpenSpec.upto depsResendsSpec)) depsResendsUptoCard
end Rows
end Go.Proofs.YtplpnfjccemdnaaGreatDoor

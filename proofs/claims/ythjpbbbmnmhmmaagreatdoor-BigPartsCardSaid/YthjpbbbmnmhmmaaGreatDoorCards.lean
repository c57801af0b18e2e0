/-
  DERIVED. GIVEN WITH THE SEED: THE CARDS: each row of YthjpbbbmnmhmmaaGreatDoorRows.lean that lists a variable, with what it lists TIED to the program's text (the seventh form; the later family's looks); each row that meets fmt, with fmt's text TOLD by the authors' own Lean function (tested against real Go, not proved from fmt's source: count such statements apart). THE CARD IS WHAT COUNTS. Prove the row's statement (the work); the ties are given (YthjpbbbmnmhmmaaGreatDoorTie.lean); close each card by the builder's one call (the guide's Derived/Test/ToyasCard.lean, 'card_holds'). Laid BY PROGRAM, IN A SANDBOX (cutbox-door.mjs). By AI agents, Wed Nov 11 2026. No macro, syntax, notation, axiom, sorry.
-/
import Derived.Test.YthjpbbbmnmhmmaaGreatDoorRows
import GoSem.ClaimSeven
namespace Go.Proofs.YthjpbbbmnmhmmaaGreatDoor
namespace Rows

/-- THE TIED CARD OF 'proteuslaw03.BigParts'. -/
def bigPartsCard : Claim7 := { stood := { row := bigPartsRow, standIns := [], harness := (true, "7df92aa4ad5278c5694161dee9c2eda09bec73d0e802a5a7aec445892d92b5e6"), looks := true }, kinds := [], alts := [], laidByText := true, laidKinds := [.data, .data, .data, .data, .sentinel, .sentinel, .pinned], laidTests := true, laidLooks := .later }
def BigPartsCardSaid : Prop := Claim7.holds Tryz.pinned (.plain (OpenSpec.ofChange bigPartsSpec)) bigPartsCard

/-- THE TIED CARD OF 'proteuslaw03.BigRing'. -/
def bigRingCard : Claim7 := { stood := { row := bigRingRow, standIns := [], harness := (true, "7df92aa4ad5278c5694161dee9c2eda09bec73d0e802a5a7aec445892d92b5e6"), looks := true }, kinds := [], alts := [], laidByText := true, laidKinds := [.data, .data, .data, .data, .sentinel, .sentinel, .pinned], laidTests := true, laidLooks := .later }
def BigRingCardSaid : Prop := Claim7.holds Tryz.pinned (.plain (OpenSpec.ofChange bigRingSpec)) bigRingCard

/-- THE TIED CARD OF 'proteuslaw03.BigPowers'. -/
def bigPowersCard : Claim7 := { stood := { row := bigPowersRow, standIns := [], harness := (true, "7df92aa4ad5278c5694161dee9c2eda09bec73d0e802a5a7aec445892d92b5e6"), looks := true }, kinds := [], alts := [], laidByText := true, laidKinds := [.data, .data, .data, .data, .sentinel, .sentinel, .pinned], laidTests := true, laidLooks := .later }
def BigPowersCardSaid : Prop := Claim7.holds Tryz.pinned (.plain (OpenSpec.ofChange bigPowersSpec)) bigPowersCard

/-- THE TIED CARD OF 'proteuslaw03.BigDivisors'. -/
def bigDivisorsCard : Claim7 := { stood := { row := bigDivisorsRow, standIns := [], harness := (true, "7df92aa4ad5278c5694161dee9c2eda09bec73d0e802a5a7aec445892d92b5e6"), looks := true }, kinds := [], alts := [], laidByText := true, laidKinds := [.data, .data, .data, .data, .sentinel, .sentinel, .pinned], laidTests := true, laidLooks := .later }
def BigDivisorsCardSaid : Prop := Claim7.holds Tryz.pinned (.plain (OpenSpec.ofChange bigDivisorsSpec)) bigDivisorsCard

/-- THE TIED CARD OF 'proteuslaw03.BigMachine'. -/
def bigMachineCard : Claim7 := { stood := { row := bigMachineRow, standIns := [], harness := (true, "7df92aa4ad5278c5694161dee9c2eda09bec73d0e802a5a7aec445892d92b5e6"), looks := true }, kinds := [], alts := [], laidByText := true, laidKinds := [.data, .data, .data, .data, .sentinel, .sentinel, .pinned], laidTests := true, laidLooks := .later }
def BigMachineCardSaid : Prop := Claim7.holds Tryz.pinned (.plain (OpenSpec.ofChange bigMachineSpec)) bigMachineCard

/-- THE TIED CARD OF 'proteuslaw03.BigNines'. -/
def bigNinesCard : Claim7 := { stood := { row := bigNinesRow, standIns := [], harness := (true, "7df92aa4ad5278c5694161dee9c2eda09bec73d0e802a5a7aec445892d92b5e6"), looks := true }, kinds := [], alts := [], laidByText := true, laidKinds := [.data, .data, .data, .data, .sentinel, .sentinel, .pinned], laidTests := true, laidLooks := .later }
def BigNinesCardSaid : Prop := Claim7.holds Tryz.pinned (.plain (OpenSpec.ofChange bigNinesSpec)) bigNinesCard

/-- THE TIED CARD OF 'proteuslaw03.BigSums'. -/
def bigSumsCard : Claim7 := { stood := { row := bigSumsRow, standIns := [], harness := (true, "7df92aa4ad5278c5694161dee9c2eda09bec73d0e802a5a7aec445892d92b5e6"), looks := true }, kinds := [], alts := [], laidByText := true, laidKinds := [.data, .data, .data, .data, .sentinel, .sentinel, .pinned], laidTests := true, laidLooks := .later }
def BigSumsCardSaid : Prop := Claim7.holds Tryz.pinned (.plain (OpenSpec.ofChange bigSumsSpec)) bigSumsCard

/-- THE TIED CARD OF 'proteuslaw03.BigFloor'. -/
def bigFloorCard : Claim7 := { stood := { row := bigFloorRow, standIns := [], harness := (true, "7df92aa4ad5278c5694161dee9c2eda09bec73d0e802a5a7aec445892d92b5e6"), looks := true }, kinds := [], alts := [], laidByText := true, laidKinds := [.data, .data, .data, .data, .sentinel, .sentinel, .pinned], laidTests := true, laidLooks := .later }
def BigFloorCardSaid : Prop := Claim7.holds Tryz.pinned (.plain (OpenSpec.ofChange bigFloorSpec)) bigFloorCard

/-- THE TIED CARD OF 'proteuslaw03.BigOrder'. -/
def bigOrderCard : Claim7 := { stood := { row := bigOrderRow, standIns := [], harness := (true, "7df92aa4ad5278c5694161dee9c2eda09bec73d0e802a5a7aec445892d92b5e6"), looks := true }, kinds := [], alts := [], laidByText := true, laidKinds := [.data, .data, .data, .data, .sentinel, .sentinel, .pinned], laidTests := true, laidLooks := .later }
def BigOrderCardSaid : Prop := Claim7.holds Tryz.pinned (.plain (OpenSpec.ofChange bigOrderSpec)) bigOrderCard

/-- THE TIED CARD OF 'proteuslaw03.BigRoots'. -/
def bigRootsCard : Claim7 := { stood := { row := bigRootsRow, standIns := [], harness := (true, "7df92aa4ad5278c5694161dee9c2eda09bec73d0e802a5a7aec445892d92b5e6"), looks := true }, kinds := [], alts := [], laidByText := true, laidKinds := [.data, .data, .data, .data, .sentinel, .sentinel, .pinned], laidTests := true, laidLooks := .later }
def BigRootsCardSaid : Prop := Claim7.holds Tryz.pinned (.plain (OpenSpec.ofChange bigRootsSpec)) bigRootsCard

/-- THE TIED CARD OF 'proteuslaw03.BigTexts'. -/
def bigTextsCard : Claim7 := { stood := { row := bigTextsRow, standIns := [], harness := (true, "7df92aa4ad5278c5694161dee9c2eda09bec73d0e802a5a7aec445892d92b5e6"), looks := true }, kinds := [], alts := [], laidByText := true, laidKinds := [.data, .data, .data, .data, .sentinel, .sentinel, .pinned], laidTests := true, laidLooks := .later }
def BigTextsCardSaid : Prop := Claim7.holds Tryz.pinned (.plain (OpenSpec.ofChange bigTextsSpec)) bigTextsCard

/-- THE TIED CARD OF 'proteuslaw03.BigBack'. -/
def bigBackCard : Claim7 := { stood := { row := bigBackRow, standIns := [], harness := (true, "7df92aa4ad5278c5694161dee9c2eda09bec73d0e802a5a7aec445892d92b5e6"), looks := true }, kinds := [], alts := [], laidByText := true, laidKinds := [.data, .data, .data, .data, .sentinel, .sentinel, .pinned], laidTests := true, laidLooks := .later }
def BigBackCardSaid : Prop := Claim7.holds Tryz.pinned (.plain (OpenSpec.ofChange bigBackSpec)) bigBackCard

/-- THE SECOND FORM's CARD OF 'proteuslaw03.BigParts'. -/
def bigPartsUptoCard : Claim7 := { stood := { row := bigPartsUptoRow, standIns := [], harness := (true, "7df92aa4ad5278c5694161dee9c2eda09bec73d0e802a5a7aec445892d92b5e6"), looks := true }, kinds := [], alts := [], laidByText := true, laidKinds := [.data, .data, .data, .data, .sentinel, .sentinel, .pinned], laidTests := true, laidLooks := .later }
def BigPartsUptoCardSaid : Prop := Claim7.holds Tryz.pinned (.plain (OpenSpec.upto bigPartsSpec)) bigPartsUptoCard

/-- THE SECOND FORM's CARD OF 'proteuslaw03.BigRing'. -/
def bigRingUptoCard : Claim7 := { stood := { row := bigRingUptoRow, standIns := [], harness := (true, "7df92aa4ad5278c5694161dee9c2eda09bec73d0e802a5a7aec445892d92b5e6"), looks := true }, kinds := [], alts := [], laidByText := true, laidKinds := [.data, .data, .data, .data, .sentinel, .sentinel, .pinned], laidTests := true, laidLooks := .later }
def BigRingUptoCardSaid : Prop := Claim7.holds Tryz.pinned (.plain (OpenSpec.upto bigRingSpec)) bigRingUptoCard

/-- THE SECOND FORM's CARD OF 'proteuslaw03.BigPowers'. -/
def bigPowersUptoCard : Claim7 := { stood := { row := bigPowersUptoRow, standIns := [], harness := (true, "7df92aa4ad5278c5694161dee9c2eda09bec73d0e802a5a7aec445892d92b5e6"), looks := true }, kinds := [], alts := [], laidByText := true, laidKinds := [.data, .data, .data, .data, .sentinel, .sentinel, .pinned], laidTests := true, laidLooks := .later }
def BigPowersUptoCardSaid : Prop := Claim7.holds Tryz.pinned (.plain (OpenSpec.upto bigPowersSpec)) bigPowersUptoCard

/-- THE SECOND FORM's CARD OF 'proteuslaw03.BigDivisors'. -/
def bigDivisorsUptoCard : Claim7 := { stood := { row := bigDivisorsUptoRow, standIns := [], harness := (true, "7df92aa4ad5278c5694161dee9c2eda09bec73d0e802a5a7aec445892d92b5e6"), looks := true }, kinds := [], alts := [], laidByText := true, laidKinds := [.data, .data, .data, .data, .sentinel, .sentinel, .pinned], laidTests := true, laidLooks := .later }
def BigDivisorsUptoCardSaid : Prop := Claim7.holds Tryz.pinned (.plain (OpenSpec.upto bigDivisorsSpec)) bigDivisorsUptoCard

/-- THE SECOND FORM's CARD OF 'proteuslaw03.BigMachine'. -/
def bigMachineUptoCard : Claim7 := { stood := { row := bigMachineUptoRow, standIns := [], harness := (true, "7df92aa4ad5278c5694161dee9c2eda09bec73d0e802a5a7aec445892d92b5e6"), looks := true }, kinds := [], alts := [], laidByText := true, laidKinds := [.data, .data, .data, .data, .sentinel, .sentinel, .pinned], laidTests := true, laidLooks := .later }
def BigMachineUptoCardSaid : Prop := Claim7.holds Tryz.pinned (.plain (OpenSpec.upto bigMachineSpec)) bigMachineUptoCard

/-- THE SECOND FORM's CARD OF 'proteuslaw03.BigNines'. -/
def bigNinesUptoCard : Claim7 := { stood := { row := bigNinesUptoRow, standIns := [], harness := (true, "7df92aa4ad5278c5694161dee9c2eda09bec73d0e802a5a7aec445892d92b5e6"), looks := true }, kinds := [], alts := [], laidByText := true, laidKinds := [.data, .data, .data, .data, .sentinel, .sentinel, .pinned], laidTests := true, laidLooks := .later }
def BigNinesUptoCardSaid : Prop := Claim7.holds Tryz.pinned (.plain (OpenSpec.upto bigNinesSpec)) bigNinesUptoCard

/-- THE SECOND FORM's CARD OF 'proteuslaw03.BigSums'. -/
def bigSumsUptoCard : Claim7 := { stood := { row := bigSumsUptoRow, standIns := [], harness := (true, "7df92aa4ad5278c5694161dee9c2eda09bec73d0e802a5a7aec445892d92b5e6"), looks := true }, kinds := [], alts := [], laidByText := true, laidKinds := [.data, .data, .data, .data, .sentinel, .sentinel, .pinned], laidTests := true, laidLooks := .later }
def BigSumsUptoCardSaid : Prop := Claim7.holds Tryz.pinned (.plain (OpenSpec.upto bigSumsSpec)) bigSumsUptoCard

/-- THE SECOND FORM's CARD OF 'proteuslaw03.BigFloor'. -/
def bigFloorUptoCard : Claim7 := { stood := { row := bigFloorUptoRow, standIns := [], harness := (true, "7df92aa4ad5278c5694161dee9c2eda09bec73d0e802a5a7aec445892d92b5e6"), looks := true }, kinds := [], alts := [], laidByText := true, laidKinds := [.data, .data, .data, .data, .sentinel, .sentinel, .pinned], laidTests := true, laidLooks := .later }
def BigFloorUptoCardSaid : Prop := Claim7.holds Tryz.pinned (.plain (OpenSpec.upto bigFloorSpec)) bigFloorUptoCard

/-- THE SECOND FORM's CARD OF 'proteuslaw03.BigOrder'. -/
def bigOrderUptoCard : Claim7 := { stood := { row := bigOrderUptoRow, standIns := [], harness := (true, "7df92aa4ad5278c5694161dee9c2eda09bec73d0e802a5a7aec445892d92b5e6"), looks := true }, kinds := [], alts := [], laidByText := true, laidKinds := [.data, .data, .data, .data, .sentinel, .sentinel, .pinned], laidTests := true, laidLooks := .later }
def BigOrderUptoCardSaid : Prop := Claim7.holds Tryz.pinned (.plain (OpenSpec.upto bigOrderSpec)) bigOrderUptoCard

/-- THE SECOND FORM's CARD OF 'proteuslaw03.BigRoots'. -/
def bigRootsUptoCard : Claim7 := { stood := { row := bigRootsUptoRow, standIns := [], harness := (true, "7df92aa4ad5278c5694161dee9c2eda09bec73d0e802a5a7aec445892d92b5e6"), looks := true }, kinds := [], alts := [], laidByText := true, laidKinds := [.data, .data, .data, .data, .sentinel, .sentinel, .pinned], laidTests := true, laidLooks := .later }
def BigRootsUptoCardSaid : Prop := Claim7.holds Tryz.pinned (.plain (OpenSpec.upto bigRootsSpec)) bigRootsUptoCard

/-- THE SECOND FORM's CARD OF 'proteuslaw03.BigTexts'. -/
def bigTextsUptoCard : Claim7 := { stood := { row := bigTextsUptoRow, standIns := [], harness := (true, "7df92aa4ad5278c5694161dee9c2eda09bec73d0e802a5a7aec445892d92b5e6"), looks := true }, kinds := [], alts := [], laidByText := true, laidKinds := [.data, .data, .data, .data, .sentinel, .sentinel, .pinned], laidTests := true, laidLooks := .later }
def BigTextsUptoCardSaid : Prop := Claim7.holds Tryz.pinned (.plain (OpenSpec.upto bigTextsSpec)) bigTextsUptoCard

/-- THE SECOND FORM's CARD OF 'proteuslaw03.BigBack'. -/
def bigBackUptoCard : Claim7 := { stood := { row := bigBackUptoRow, standIns := [], harness := (true, "7df92aa4ad5278c5694161dee9c2eda09bec73d0e802a5a7aec445892d92b5e6"), looks := true }, kinds := [], alts := [], laidByText := true, laidKinds := [.data, .data, .data, .data, .sentinel, .sentinel, .pinned], laidTests := true, laidLooks := .later }
def BigBackUptoCardSaid : Prop := Claim7.holds Tryz.pinned (.plain (OpenSpec.upto bigBackSpec)) bigBackUptoCard
end Rows
end Go.Proofs.YthjpbbbmnmhmmaaGreatDoor

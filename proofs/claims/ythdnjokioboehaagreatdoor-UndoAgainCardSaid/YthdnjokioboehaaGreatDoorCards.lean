/-
  DERIVED. GIVEN WITH THE SEED: THE CARDS: each row of YthdnjokioboehaaGreatDoorRows.lean that lists a variable, with what it lists TIED to the program's text (the seventh form; the later family's looks); each row that meets fmt, with fmt's text TOLD by the authors' own Lean function (tested against real Go, not proved from fmt's source: count such statements apart). THE CARD IS WHAT COUNTS. Prove the row's statement (the work); the ties are given (YthdnjokioboehaaGreatDoorTie.lean); close each card by the builder's one call (the guide's Derived/Test/ToyasCard.lean, 'card_holds'). Laid BY PROGRAM, IN A SANDBOX (cutbox-door.mjs). By AI agents, Wed Nov 11 2026. No macro, syntax, notation, axiom, sorry.
-/
import Derived.Test.YthdnjokioboehaaGreatDoorRows
import GoSem.ClaimSeven
namespace Go.Proofs.YthdnjokioboehaaGreatDoor
namespace Rows

/-- THE TIED CARD OF 'justiciarlaw16.UndoAgain'. -/
def undoAgainCard : Claim7 := { stood := { row := undoAgainRow, standIns := [], harness := (true, "01d81894e8f79c17e99131f106419fb79536ab10904589b1f3322bca63321cb7"), looks := false }, kinds := [], alts := [], laidByText := true, laidKinds := [.data], laidTests := true, laidLooks := .later }
def UndoAgainCardSaid : Prop := Claim7.holds Tryz.pinned (.plain (OpenSpec.ofChange undoAgainSpec)) undoAgainCard

/-- THE TIED CARD OF 'justiciarlaw16.UndoPlays'. -/
def undoPlaysCard : Claim7 := { stood := { row := undoPlaysRow, standIns := [], harness := (true, "01d81894e8f79c17e99131f106419fb79536ab10904589b1f3322bca63321cb7"), looks := false }, kinds := [], alts := [], laidByText := true, laidKinds := [.data], laidTests := true, laidLooks := .later }
def UndoPlaysCardSaid : Prop := Claim7.holds Tryz.pinned (.plain (OpenSpec.ofChange undoPlaysSpec)) undoPlaysCard

/-- THE TIED CARD OF 'justiciarlaw16.UndoNil'. -/
def undoNilCard : Claim7 := { stood := { row := undoNilRow, standIns := [], harness := (true, "01d81894e8f79c17e99131f106419fb79536ab10904589b1f3322bca63321cb7"), looks := false }, kinds := [], alts := [], laidByText := true, laidKinds := [.data], laidTests := true, laidLooks := .later }
def UndoNilCardSaid : Prop := Claim7.holds Tryz.pinned (.plain (OpenSpec.ofChange undoNilSpec)) undoNilCard

/-- THE TIED CARD OF 'justiciarlaw16.UndoApart'. -/
def undoApartCard : Claim7 := { stood := { row := undoApartRow, standIns := [], harness := (true, "01d81894e8f79c17e99131f106419fb79536ab10904589b1f3322bca63321cb7"), looks := false }, kinds := [], alts := [], laidByText := true, laidKinds := [.data], laidTests := true, laidLooks := .later }
def UndoApartCardSaid : Prop := Claim7.holds Tryz.pinned (.plain (OpenSpec.ofChange undoApartSpec)) undoApartCard

/-- THE TIED CARD OF 'justiciarlaw16.UndoPast'. -/
def undoPastCard : Claim7 := { stood := { row := undoPastRow, standIns := [], harness := (true, "01d81894e8f79c17e99131f106419fb79536ab10904589b1f3322bca63321cb7"), looks := false }, kinds := [], alts := [], laidByText := true, laidKinds := [.data], laidTests := true, laidLooks := .later }
def UndoPastCardSaid : Prop := Claim7.holds Tryz.pinned (.plain (OpenSpec.ofChange undoPastSpec)) undoPastCard

/-- THE TIED CARD OF 'justiciarlaw16.UndoUndone'. -/
def undoUndoneCard : Claim7 := { stood := { row := undoUndoneRow, standIns := [], harness := (true, "01d81894e8f79c17e99131f106419fb79536ab10904589b1f3322bca63321cb7"), looks := false }, kinds := [], alts := [], laidByText := true, laidKinds := [.data], laidTests := true, laidLooks := .later }
def UndoUndoneCardSaid : Prop := Claim7.holds Tryz.pinned (.plain (OpenSpec.ofChange undoUndoneSpec)) undoUndoneCard

/-- THE TIED CARD OF 'justiciarlaw16.UndoWhole'. -/
def undoWholeCard : Claim7 := { stood := { row := undoWholeRow, standIns := [], harness := (true, "01d81894e8f79c17e99131f106419fb79536ab10904589b1f3322bca63321cb7"), looks := false }, kinds := [], alts := [], laidByText := true, laidKinds := [.data], laidTests := true, laidLooks := .later }
def UndoWholeCardSaid : Prop := Claim7.holds Tryz.pinned (.plain (OpenSpec.ofChange undoWholeSpec)) undoWholeCard

/-- THE TIED CARD OF 'justiciarlaw16.UndoNumbers'. -/
def undoNumbersCard : Claim7 := { stood := { row := undoNumbersRow, standIns := [], harness := (true, "01d81894e8f79c17e99131f106419fb79536ab10904589b1f3322bca63321cb7"), looks := false }, kinds := [], alts := [], laidByText := true, laidKinds := [.data], laidTests := true, laidLooks := .later }
def UndoNumbersCardSaid : Prop := Claim7.holds Tryz.pinned (.plain (OpenSpec.ofChange undoNumbersSpec)) undoNumbersCard

/-- THE TIED CARD OF 'justiciarlaw16.UndoLoads'. -/
def undoLoadsCard : Claim7 := { stood := { row := undoLoadsRow, standIns := [], harness := (true, "01d81894e8f79c17e99131f106419fb79536ab10904589b1f3322bca63321cb7"), looks := false }, kinds := [], alts := [], laidByText := true, laidKinds := [.data], laidTests := true, laidLooks := .later }
def UndoLoadsCardSaid : Prop := Claim7.holds Tryz.pinned (.plain (OpenSpec.ofChange undoLoadsSpec)) undoLoadsCard

/-- THE SECOND FORM's CARD OF 'justiciarlaw16.UndoAgain'. -/
def undoAgainUptoCard : Claim7 := { stood := { row := undoAgainUptoRow, standIns := [], harness := (true, "01d81894e8f79c17e99131f106419fb79536ab10904589b1f3322bca63321cb7"), looks := false }, kinds := [], alts := [], laidByText := true, laidKinds := [.data], laidTests := true, laidLooks := .later }
def UndoAgainUptoCardSaid : Prop := Claim7.holds Tryz.pinned (.plain (OpenSpec.upto undoAgainSpec)) undoAgainUptoCard

/-- THE SECOND FORM's CARD OF 'justiciarlaw16.UndoPlays'. -/
def undoPlaysUptoCard : Claim7 := { stood := { row := undoPlaysUptoRow, standIns := [], harness := (true, "01d81894e8f79c17e99131f106419fb79536ab10904589b1f3322bca63321cb7"), looks := false }, kinds := [], alts := [], laidByText := true, laidKinds := [.data], laidTests := true, laidLooks := .later }
def UndoPlaysUptoCardSaid : Prop := Claim7.holds Tryz.pinned (.plain (OpenSpec.upto undoPlaysSpec)) undoPlaysUptoCard

/-- THE SECOND FORM's CARD OF 'justiciarlaw16.UndoNil'. -/
def undoNilUptoCard : Claim7 := { stood := { row := undoNilUptoRow, standIns := [], harness := (true, "01d81894e8f79c17e99131f106419fb79536ab10904589b1f3322bca63321cb7"), looks := false }, kinds := [], alts := [], laidByText := true, laidKinds := [.data], laidTests := true, laidLooks := .later }
def UndoNilUptoCardSaid : Prop := Claim7.holds Tryz.pinned (.plain (OpenSpec.upto undoNilSpec)) undoNilUptoCard

/-- THE SECOND FORM's CARD OF 'justiciarlaw16.UndoApart'. -/
def undoApartUptoCard : Claim7 := { stood := { row := undoApartUptoRow, standIns := [], harness := (true, "01d81894e8f79c17e99131f106419fb79536ab10904589b1f3322bca63321cb7"), looks := false }, kinds := [], alts := [], laidByText := true, laidKinds := [.data], laidTests := true, laidLooks := .later }
def UndoApartUptoCardSaid : Prop := Claim7.holds Tryz.pinned (.plain (OpenSpec.upto undoApartSpec)) undoApartUptoCard

/-- THE SECOND FORM's CARD OF 'justiciarlaw16.UndoPast'. -/
def undoPastUptoCard : Claim7 := { stood := { row := undoPastUptoRow, standIns := [], harness := (true, "01d81894e8f79c17e99131f106419fb79536ab10904589b1f3322bca63321cb7"), looks := false }, kinds := [], alts := [], laidByText := true, laidKinds := [.data], laidTests := true, laidLooks := .later }
def UndoPastUptoCardSaid : Prop := Claim7.holds Tryz.pinned (.plain (OpenSpec.upto undoPastSpec)) undoPastUptoCard

/-- THE SECOND FORM's CARD OF 'justiciarlaw16.UndoUndone'. -/
def undoUndoneUptoCard : Claim7 := { stood := { row := undoUndoneUptoRow, standIns := [], harness := (true, "01d81894e8f79c17e99131f106419fb79536ab10904589b1f3322bca63321cb7"), looks := false }, kinds := [], alts := [], laidByText := true, laidKinds := [.data], laidTests := true, laidLooks := .later }
def UndoUndoneUptoCardSaid : Prop := Claim7.holds Tryz.pinned (.plain (OpenSpec.upto undoUndoneSpec)) undoUndoneUptoCard

/-- THE SECOND FORM's CARD OF 'justiciarlaw16.UndoWhole'. -/
def undoWholeUptoCard : Claim7 := { stood := { row := undoWholeUptoRow, standIns := [], harness := (true, "01d81894e8f79c17e99131f106419fb79536ab10904589b1f3322bca63321cb7"), looks := false }, kinds := [], alts := [], laidByText := true, laidKinds := [.data], laidTests := true, laidLooks := .later }
def UndoWholeUptoCardSaid : Prop := Claim7.holds Tryz.pinned (.plain (OpenSpec.upto undoWholeSpec)) undoWholeUptoCard

/-- THE SECOND FORM's CARD OF 'justiciarlaw16.UndoNumbers'. -/
def undoNumbersUptoCard : Claim7 := { stood := { row := undoNumbersUptoRow, standIns := [], harness := (true, "01d81894e8f79c17e99131f106419fb79536ab10904589b1f3322bca63321cb7"), looks := false }, kinds := [], alts := [], laidByText := true, laidKinds := [.data], laidTests := true, laidLooks := .later }
def UndoNumbersUptoCardSaid : Prop := Claim7.holds Tryz.pinned (.plain (OpenSpec.upto undoNumbersSpec)) undoNumbersUptoCard

/-- THE SECOND FORM's CARD OF 'justiciarlaw16.UndoLoads'. -/
def undoLoadsUptoCard : Claim7 := { stood := { row := undoLoadsUptoRow, standIns := [], harness := (true, "01d81894e8f79c17e99131f106419fb79536ab10904589b1f3322bca63321cb7"), looks := false }, kinds := [], alts := [], laidByText := true, laidKinds := [.data], laidTests := true, laidLooks := .later }
def UndoLoadsUptoCardSaid : Prop := Claim7.holds Tryz.pinned (.plain (OpenSpec.upto undoLoadsSpec)) undoLoadsUptoCard
end Rows
end Go.Proofs.YthdnjokioboehaaGreatDoor

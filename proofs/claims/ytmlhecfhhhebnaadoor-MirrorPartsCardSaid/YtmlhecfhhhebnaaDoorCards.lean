/-
  DERIVED. GIVEN WITH THE SEED: THE CARDS: each row of YtmlhecfhhhebnaaDoorRows.lean that lists a variable, with what it lists TIED to the program's text (the seventh form; the later family's looks); each row that meets fmt, with fmt's text TOLD by the authors' own Lean function (tested against real Go, not proved from fmt's source: count such statements apart). THE CARD IS WHAT COUNTS. Prove the row's statement (the work); the ties are given (YtmlhecfhhhebnaaDoorTie.lean); close each card by the builder's one call (the guide's Derived/Test/ToyasCard.lean, 'card_holds'). Laid BY PROGRAM, IN A SANDBOX (cutbox-door.mjs). By AI agents, Wed Nov 11 2026. No macro, syntax, notation, axiom, sorry.
-/
import Derived.Test.YtmlhecfhhhebnaaDoorRows
import GoSem.ClaimSeven
namespace Go.Proofs.YtmlhecfhhhebnaaDoor
namespace Rows

/-- THE TIED CARD OF 'corsagelaw02.MirrorCosets'. -/
def mirrorCosetsCard : Claim7 := { stood := { row := mirrorCosetsRow, standIns := [], harness := (true, "600a05059ceacfd1f81d008be7c9eb10c1257f76ac16a05b7002d86e1c58cfcc"), looks := false }, kinds := [], alts := [], laidByText := true, laidKinds := [.data, .data], laidTests := true, laidLooks := .later }
def MirrorCosetsCardSaid : Prop := Claim7.holds Tryd.pinned (.plain (OpenSpec.ofChange mirrorCosetsSpec)) mirrorCosetsCard

/-- THE TIED CARD OF 'corsagelaw02.MirrorParts'. -/
def mirrorPartsCard : Claim7 := { stood := { row := mirrorPartsRow, standIns := [], harness := (true, "600a05059ceacfd1f81d008be7c9eb10c1257f76ac16a05b7002d86e1c58cfcc"), looks := false }, kinds := [], alts := [], laidByText := true, laidKinds := [.data, .data], laidTests := true, laidLooks := .later }
def MirrorPartsCardSaid : Prop := Claim7.holds Tryd.pinned (.plain (OpenSpec.ofChange mirrorPartsSpec)) mirrorPartsCard

/-- THE SECOND FORM's CARD OF 'corsagelaw02.MirrorCosets'. -/
def mirrorCosetsUptoCard : Claim7 := { stood := { row := mirrorCosetsUptoRow, standIns := [], harness := (true, "600a05059ceacfd1f81d008be7c9eb10c1257f76ac16a05b7002d86e1c58cfcc"), looks := false }, kinds := [], alts := [], laidByText := true, laidKinds := [.data, .data], laidTests := true, laidLooks := .later }
def MirrorCosetsUptoCardSaid : Prop := Claim7.holds Tryd.pinned (.plain (OpenSpec.upto mirrorCosetsSpec)) mirrorCosetsUptoCard

/-- THE SECOND FORM's CARD OF 'corsagelaw02.MirrorParts'. -/
def mirrorPartsUptoCard : Claim7 := { stood := { row := mirrorPartsUptoRow, standIns := [], harness := (true, "600a05059ceacfd1f81d008be7c9eb10c1257f76ac16a05b7002d86e1c58cfcc"), looks := false }, kinds := [], alts := [], laidByText := true, laidKinds := [.data, .data], laidTests := true, laidLooks := .later }
def MirrorPartsUptoCardSaid : Prop := Claim7.holds Tryd.pinned (.plain (OpenSpec.upto mirrorPartsSpec)) mirrorPartsUptoCard
end Rows
end Go.Proofs.YtmlhecfhhhebnaaDoor

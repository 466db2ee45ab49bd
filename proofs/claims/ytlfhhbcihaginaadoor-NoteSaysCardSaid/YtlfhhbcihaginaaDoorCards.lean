/-
  DERIVED. GIVEN WITH THE SEED: THE CARDS: each row of YtlfhhbcihaginaaDoorRows.lean that lists a variable, with what it lists TIED to the program's text (the seventh form; the later family's looks); each row that meets fmt, with fmt's text TOLD by the authors' own Lean function (tested against real Go, not proved from fmt's source: count such statements apart). THE CARD IS WHAT COUNTS. Prove the row's statement (the work); the ties are given (YtlfhhbcihaginaaDoorTie.lean); close each card by the builder's one call (the guide's Derived/Test/ToyasCard.lean, 'card_holds'). Laid BY PROGRAM, IN A SANDBOX (cutbox-door.mjs). By AI agents, Wed Nov 11 2026. No macro, syntax, notation, axiom, sorry.
-/
import Derived.Test.YtlfhhbcihaginaaDoorRows
import GoSem.ClaimSeven
namespace Go.Proofs.YtlfhhbcihaginaaDoor
namespace Rows

/-- THE TIED CARD OF 'greatseallaw.PathOnly'. -/
def pathOnlyCard : Claim7 := { stood := { row := pathOnlyRow, standIns := [], harness := (true, "b65ae5ddc6d4079c9537c335aa226c44e461845bf1fdeb9a296d50ab920dcb1c"), looks := true }, kinds := [], alts := [], laidByText := true, laidKinds := [.data, .data, .data], laidTests := true, laidLooks := .later }
def PathOnlyCardSaid : Prop := Claim7.holds Tryd.pinned (.plain (OpenSpec.ofChange pathOnlySpec)) pathOnlyCard

/-- THE TIED CARD OF 'greatseallaw.NoteSays'. -/
def noteSaysCard : Claim7 := { stood := { row := noteSaysRow, standIns := [], harness := (true, "b65ae5ddc6d4079c9537c335aa226c44e461845bf1fdeb9a296d50ab920dcb1c"), looks := true }, kinds := [], alts := [], laidByText := true, laidKinds := [.data, .data, .data, .data, .sentinel, .sentinel, .pinned], laidTests := true, laidLooks := .later }
def NoteSaysCardSaid : Prop := Claim7.holds Tryd.pinned (.plain (OpenSpec.ofChange noteSaysSpec)) noteSaysCard

/-- THE TIED CARD OF 'greatseallaw.GrowOnly'. -/
def growOnlyCard : Claim7 := { stood := { row := growOnlyRow, standIns := [], harness := (true, "b65ae5ddc6d4079c9537c335aa226c44e461845bf1fdeb9a296d50ab920dcb1c"), looks := true }, kinds := [], alts := [], laidByText := true, laidKinds := [.data, .data, .data], laidTests := true, laidLooks := .later }
def GrowOnlyCardSaid : Prop := Claim7.holds Tryd.pinned (.plain (OpenSpec.ofChange growOnlySpec)) growOnlyCard

/-- THE TIED CARD OF 'greatseallaw.NoteBack'. -/
def noteBackCard : Claim7 := { stood := { row := noteBackRow, standIns := [], harness := (true, "b65ae5ddc6d4079c9537c335aa226c44e461845bf1fdeb9a296d50ab920dcb1c"), looks := true }, kinds := [], alts := [], laidByText := true, laidKinds := [.data, .data, .data, .sentinel, .sentinel], laidTests := true, laidLooks := .later }
def NoteBackCardSaid : Prop := Claim7.holds Tryd.pinned (.plain (OpenSpec.ofChange noteBackSpec)) noteBackCard

/-- THE TIED CARD OF 'greatseallaw.SealOne'. -/
def sealOneCard : Claim7 := { stood := { row := sealOneRow, standIns := [], harness := (true, "b65ae5ddc6d4079c9537c335aa226c44e461845bf1fdeb9a296d50ab920dcb1c"), looks := true }, kinds := [], alts := [], laidByText := true, laidKinds := [.data, .data, .data, .sentinel, .sentinel], laidTests := true, laidLooks := .later }
def SealOneCardSaid : Prop := Claim7.holds Tryd.pinned (.plain (OpenSpec.ofChange sealOneSpec)) sealOneCard

/-- THE TIED CARD OF 'greatseallaw.SealLong'. -/
def sealLongCard : Claim7 := { stood := { row := sealLongRow, standIns := [], harness := (true, "b65ae5ddc6d4079c9537c335aa226c44e461845bf1fdeb9a296d50ab920dcb1c"), looks := true }, kinds := [], alts := [], laidByText := true, laidKinds := [.data, .data, .data, .sentinel, .sentinel], laidTests := true, laidLooks := .later }
def SealLongCardSaid : Prop := Claim7.holds Tryd.pinned (.plain (OpenSpec.ofChange sealLongSpec)) sealLongCard

/-- THE TIED CARD OF 'greatseallaw.SealSays'. -/
def sealSaysCard : Claim7 := { stood := { row := sealSaysRow, standIns := [], harness := (true, "b65ae5ddc6d4079c9537c335aa226c44e461845bf1fdeb9a296d50ab920dcb1c"), looks := true }, kinds := [], alts := [], laidByText := true, laidKinds := [.data, .data, .data, .sentinel, .sentinel], laidTests := true, laidLooks := .later }
def SealSaysCardSaid : Prop := Claim7.holds Tryd.pinned (.plain (OpenSpec.ofChange sealSaysSpec)) sealSaysCard

/-- THE TIED CARD OF 'greatseallaw.TreeHalves'. -/
def treeHalvesCard : Claim7 := { stood := { row := treeHalvesRow, standIns := [], harness := (true, "b65ae5ddc6d4079c9537c335aa226c44e461845bf1fdeb9a296d50ab920dcb1c"), looks := true }, kinds := [], alts := [], laidByText := true, laidKinds := [.data, .data, .data, .sentinel, .sentinel], laidTests := true, laidLooks := .later }
def TreeHalvesCardSaid : Prop := Claim7.holds Tryd.pinned (.plain (OpenSpec.ofChange treeHalvesSpec)) treeHalvesCard

/-- THE SECOND FORM's CARD OF 'greatseallaw.PathOnly'. -/
def pathOnlyUptoCard : Claim7 := { stood := { row := pathOnlyUptoRow, standIns := [], harness := (true, "b65ae5ddc6d4079c9537c335aa226c44e461845bf1fdeb9a296d50ab920dcb1c"), looks := true }, kinds := [], alts := [], laidByText := true, laidKinds := [.data, .data, .data], laidTests := true, laidLooks := .later }
def PathOnlyUptoCardSaid : Prop := Claim7.holds Tryd.pinned (.plain (OpenSpec.upto pathOnlySpec)) pathOnlyUptoCard

/-- THE SECOND FORM's CARD OF 'greatseallaw.NoteSays'. -/
def noteSaysUptoCard : Claim7 := { stood := { row := noteSaysUptoRow, standIns := [], harness := (true, "b65ae5ddc6d4079c9537c335aa226c44e461845bf1fdeb9a296d50ab920dcb1c"), looks := true }, kinds := [], alts := [], laidByText := true, laidKinds := [.data, .data, .data, .data, .sentinel, .sentinel, .pinned], laidTests := true, laidLooks := .later }
def NoteSaysUptoCardSaid : Prop := Claim7.holds Tryd.pinned (.plain (OpenSpec.upto noteSaysSpec)) noteSaysUptoCard

/-- THE SECOND FORM's CARD OF 'greatseallaw.GrowOnly'. -/
def growOnlyUptoCard : Claim7 := { stood := { row := growOnlyUptoRow, standIns := [], harness := (true, "b65ae5ddc6d4079c9537c335aa226c44e461845bf1fdeb9a296d50ab920dcb1c"), looks := true }, kinds := [], alts := [], laidByText := true, laidKinds := [.data, .data, .data], laidTests := true, laidLooks := .later }
def GrowOnlyUptoCardSaid : Prop := Claim7.holds Tryd.pinned (.plain (OpenSpec.upto growOnlySpec)) growOnlyUptoCard

/-- THE SECOND FORM's CARD OF 'greatseallaw.NoteBack'. -/
def noteBackUptoCard : Claim7 := { stood := { row := noteBackUptoRow, standIns := [], harness := (true, "b65ae5ddc6d4079c9537c335aa226c44e461845bf1fdeb9a296d50ab920dcb1c"), looks := true }, kinds := [], alts := [], laidByText := true, laidKinds := [.data, .data, .data, .sentinel, .sentinel], laidTests := true, laidLooks := .later }
def NoteBackUptoCardSaid : Prop := Claim7.holds Tryd.pinned (.plain (OpenSpec.upto noteBackSpec)) noteBackUptoCard

/-- THE SECOND FORM's CARD OF 'greatseallaw.SealOne'. -/
def sealOneUptoCard : Claim7 := { stood := { row := sealOneUptoRow, standIns := [], harness := (true, "b65ae5ddc6d4079c9537c335aa226c44e461845bf1fdeb9a296d50ab920dcb1c"), looks := true }, kinds := [], alts := [], laidByText := true, laidKinds := [.data, .data, .data, .sentinel, .sentinel], laidTests := true, laidLooks := .later }
def SealOneUptoCardSaid : Prop := Claim7.holds Tryd.pinned (.plain (OpenSpec.upto sealOneSpec)) sealOneUptoCard

/-- THE SECOND FORM's CARD OF 'greatseallaw.SealLong'. -/
def sealLongUptoCard : Claim7 := { stood := { row := sealLongUptoRow, standIns := [], harness := (true, "b65ae5ddc6d4079c9537c335aa226c44e461845bf1fdeb9a296d50ab920dcb1c"), looks := true }, kinds := [], alts := [], laidByText := true, laidKinds := [.data, .data, .data, .sentinel, .sentinel], laidTests := true, laidLooks := .later }
def SealLongUptoCardSaid : Prop := Claim7.holds Tryd.pinned (.plain (OpenSpec.upto sealLongSpec)) sealLongUptoCard

/-- THE SECOND FORM's CARD OF 'greatseallaw.SealSays'. -/
def sealSaysUptoCard : Claim7 := { stood := { row := sealSaysUptoRow, standIns := [], harness := (true, "b65ae5ddc6d4079c9537c335aa226c44e461845bf1fdeb9a296d50ab920dcb1c"), looks := true }, kinds := [], alts := [], laidByText := true, laidKinds := [.data, .data, .data, .sentinel, .sentinel], laidTests := true, laidLooks := .later }
def SealSaysUptoCardSaid : Prop := Claim7.holds Tryd.pinned (.plain (OpenSpec.upto sealSaysSpec)) sealSaysUptoCard

/-- THE SECOND FORM's CARD OF 'greatseallaw.TreeHalves'. -/
def treeHalvesUptoCard : Claim7 := { stood := { row := treeHalvesUptoRow, standIns := [], harness := (true, "b65ae5ddc6d4079c9537c335aa226c44e461845bf1fdeb9a296d50ab920dcb1c"), looks := true }, kinds := [], alts := [], laidByText := true, laidKinds := [.data, .data, .data, .sentinel, .sentinel], laidTests := true, laidLooks := .later }
def TreeHalvesUptoCardSaid : Prop := Claim7.holds Tryd.pinned (.plain (OpenSpec.upto treeHalvesSpec)) treeHalvesUptoCard
end Rows
end Go.Proofs.YtlfhhbcihaginaaDoor

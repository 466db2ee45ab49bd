/-
  DERIVED. GIVEN WITH THE SEED: THE CARDS: each row of YtfobijiffcfnkaaDoorRows.lean that lists a variable, with what it lists TIED to the program's text (the seventh form; the later family's looks); each row that meets fmt, with fmt's text TOLD by the authors' own Lean function (tested against real Go, not proved from fmt's source: count such statements apart). THE CARD IS WHAT COUNTS. Prove the row's statement (the work); the ties are given (YtfobijiffcfnkaaDoorTie.lean); close each card by the builder's one call (the guide's Derived/Test/ToyasCard.lean, 'card_holds'). Laid BY PROGRAM, IN A SANDBOX (cutbox-door.mjs). By AI agents, Wed Nov 11 2026. No macro, syntax, notation, axiom, sorry.
-/
import Derived.Test.YtfobijiffcfnkaaDoorRows
import GoSem.ClaimSeven
namespace Go.Proofs.YtfobijiffcfnkaaDoor
namespace Rows

/-- THE TIED CARD OF 'greatseallaw.TreeSays'. -/
def treeSaysCard : Claim7 := { stood := { row := treeSaysRow, standIns := [], harness := (true, "3875b42301836107aad86d2e80e44a7d33ace8a959bd5b2de02944e33059564f"), looks := false }, kinds := [], alts := [], laidByText := true, laidKinds := [.data, .data, .data], laidTests := true, laidLooks := .later }
def TreeSaysCardSaid : Prop := Claim7.holds Tryd.pinned (.plain (OpenSpec.ofChange treeSaysSpec)) treeSaysCard

/-- THE TIED CARD OF 'greatseallaw.TreeOne'. -/
def treeOneCard : Claim7 := { stood := { row := treeOneRow, standIns := [], harness := (true, "3875b42301836107aad86d2e80e44a7d33ace8a959bd5b2de02944e33059564f"), looks := false }, kinds := [], alts := [], laidByText := true, laidKinds := [.data, .data, .data], laidTests := true, laidLooks := .later }
def TreeOneCardSaid : Prop := Claim7.holds Tryd.pinned (.plain (OpenSpec.ofChange treeOneSpec)) treeOneCard

/-- THE TIED CARD OF 'greatseallaw.TrieTrue'. -/
def trieTrueCard : Claim7 := { stood := { row := trieTrueRow, standIns := [], harness := (true, "3875b42301836107aad86d2e80e44a7d33ace8a959bd5b2de02944e33059564f"), looks := false }, kinds := [], alts := [], laidByText := true, laidKinds := [.data, .data, .data], laidTests := true, laidLooks := .later }
def TrieTrueCardSaid : Prop := Claim7.holds Tryd.pinned (.plain (OpenSpec.ofChange trieTrueSpec)) trieTrueCard

/-- THE TIED CARD OF 'greatseallaw.TrieSays'. -/
def trieSaysCard : Claim7 := { stood := { row := trieSaysRow, standIns := [], harness := (true, "3875b42301836107aad86d2e80e44a7d33ace8a959bd5b2de02944e33059564f"), looks := false }, kinds := [], alts := [], laidByText := true, laidKinds := [.data, .data, .data], laidTests := true, laidLooks := .later }
def TrieSaysCardSaid : Prop := Claim7.holds Tryd.pinned (.plain (OpenSpec.ofChange trieSaysSpec)) trieSaysCard

/-- THE TIED CARD OF 'greatseallaw.TrieEach'. -/
def trieEachCard : Claim7 := { stood := { row := trieEachRow, standIns := [], harness := (true, "3875b42301836107aad86d2e80e44a7d33ace8a959bd5b2de02944e33059564f"), looks := false }, kinds := [], alts := [], laidByText := true, laidKinds := [.data, .data, .data], laidTests := true, laidLooks := .later }
def TrieEachCardSaid : Prop := Claim7.holds Tryd.pinned (.plain (OpenSpec.ofChange trieEachSpec)) trieEachCard

/-- THE TIED CARD OF 'greatseallaw.TrieOne'. -/
def trieOneCard : Claim7 := { stood := { row := trieOneRow, standIns := [], harness := (true, "3875b42301836107aad86d2e80e44a7d33ace8a959bd5b2de02944e33059564f"), looks := false }, kinds := [], alts := [], laidByText := true, laidKinds := [.data, .data, .data], laidTests := true, laidLooks := .later }
def TrieOneCardSaid : Prop := Claim7.holds Tryd.pinned (.plain (OpenSpec.ofChange trieOneSpec)) trieOneCard

/-- THE TIED CARD OF 'greatseallaw.PathTrue'. -/
def pathTrueCard : Claim7 := { stood := { row := pathTrueRow, standIns := [], harness := (true, "3875b42301836107aad86d2e80e44a7d33ace8a959bd5b2de02944e33059564f"), looks := false }, kinds := [], alts := [], laidByText := true, laidKinds := [.data, .data, .data], laidTests := true, laidLooks := .later }
def PathTrueCardSaid : Prop := Claim7.holds Tryd.pinned (.plain (OpenSpec.ofChange pathTrueSpec)) pathTrueCard

/-- THE TIED CARD OF 'greatseallaw.PathOther'. -/
def pathOtherCard : Claim7 := { stood := { row := pathOtherRow, standIns := [], harness := (true, "3875b42301836107aad86d2e80e44a7d33ace8a959bd5b2de02944e33059564f"), looks := false }, kinds := [], alts := [], laidByText := true, laidKinds := [.data, .data, .data], laidTests := true, laidLooks := .later }
def PathOtherCardSaid : Prop := Claim7.holds Tryd.pinned (.plain (OpenSpec.ofChange pathOtherSpec)) pathOtherCard

/-- THE TIED CARD OF 'greatseallaw.GrowTrue'. -/
def growTrueCard : Claim7 := { stood := { row := growTrueRow, standIns := [], harness := (true, "3875b42301836107aad86d2e80e44a7d33ace8a959bd5b2de02944e33059564f"), looks := false }, kinds := [], alts := [], laidByText := true, laidKinds := [.data, .data, .data], laidTests := true, laidLooks := .later }
def GrowTrueCardSaid : Prop := Claim7.holds Tryd.pinned (.plain (OpenSpec.ofChange growTrueSpec)) growTrueCard

/-- THE TIED CARD OF 'greatseallaw.GrowOn'. -/
def growOnCard : Claim7 := { stood := { row := growOnRow, standIns := [], harness := (true, "3875b42301836107aad86d2e80e44a7d33ace8a959bd5b2de02944e33059564f"), looks := false }, kinds := [], alts := [], laidByText := true, laidKinds := [.data, .data, .data], laidTests := true, laidLooks := .later }
def GrowOnCardSaid : Prop := Claim7.holds Tryd.pinned (.plain (OpenSpec.ofChange growOnSpec)) growOnCard

/-- THE TIED CARD OF 'greatseallaw.PathSays'. -/
def pathSaysCard : Claim7 := { stood := { row := pathSaysRow, standIns := [], harness := (true, "3875b42301836107aad86d2e80e44a7d33ace8a959bd5b2de02944e33059564f"), looks := false }, kinds := [], alts := [], laidByText := true, laidKinds := [.data, .data, .data], laidTests := true, laidLooks := .later }
def PathSaysCardSaid : Prop := Claim7.holds Tryd.pinned (.plain (OpenSpec.ofChange pathSaysSpec)) pathSaysCard

/-- THE TIED CARD OF 'greatseallaw.GrowSays'. -/
def growSaysCard : Claim7 := { stood := { row := growSaysRow, standIns := [], harness := (true, "3875b42301836107aad86d2e80e44a7d33ace8a959bd5b2de02944e33059564f"), looks := false }, kinds := [], alts := [], laidByText := true, laidKinds := [.data, .data, .data], laidTests := true, laidLooks := .later }
def GrowSaysCardSaid : Prop := Claim7.holds Tryd.pinned (.plain (OpenSpec.ofChange growSaysSpec)) growSaysCard

/-- THE SECOND FORM's CARD OF 'greatseallaw.TreeSays'. -/
def treeSaysUptoCard : Claim7 := { stood := { row := treeSaysUptoRow, standIns := [], harness := (true, "3875b42301836107aad86d2e80e44a7d33ace8a959bd5b2de02944e33059564f"), looks := false }, kinds := [], alts := [], laidByText := true, laidKinds := [.data, .data, .data], laidTests := true, laidLooks := .later }
def TreeSaysUptoCardSaid : Prop := Claim7.holds Tryd.pinned (.plain (OpenSpec.upto treeSaysSpec)) treeSaysUptoCard

/-- THE SECOND FORM's CARD OF 'greatseallaw.TreeOne'. -/
def treeOneUptoCard : Claim7 := { stood := { row := treeOneUptoRow, standIns := [], harness := (true, "3875b42301836107aad86d2e80e44a7d33ace8a959bd5b2de02944e33059564f"), looks := false }, kinds := [], alts := [], laidByText := true, laidKinds := [.data, .data, .data], laidTests := true, laidLooks := .later }
def TreeOneUptoCardSaid : Prop := Claim7.holds Tryd.pinned (.plain (OpenSpec.upto treeOneSpec)) treeOneUptoCard

/-- THE SECOND FORM's CARD OF 'greatseallaw.TrieTrue'. -/
def trieTrueUptoCard : Claim7 := { stood := { row := trieTrueUptoRow, standIns := [], harness := (true, "3875b42301836107aad86d2e80e44a7d33ace8a959bd5b2de02944e33059564f"), looks := false }, kinds := [], alts := [], laidByText := true, laidKinds := [.data, .data, .data], laidTests := true, laidLooks := .later }
def TrieTrueUptoCardSaid : Prop := Claim7.holds Tryd.pinned (.plain (OpenSpec.upto trieTrueSpec)) trieTrueUptoCard

/-- THE SECOND FORM's CARD OF 'greatseallaw.TrieSays'. -/
def trieSaysUptoCard : Claim7 := { stood := { row := trieSaysUptoRow, standIns := [], harness := (true, "3875b42301836107aad86d2e80e44a7d33ace8a959bd5b2de02944e33059564f"), looks := false }, kinds := [], alts := [], laidByText := true, laidKinds := [.data, .data, .data], laidTests := true, laidLooks := .later }
def TrieSaysUptoCardSaid : Prop := Claim7.holds Tryd.pinned (.plain (OpenSpec.upto trieSaysSpec)) trieSaysUptoCard

/-- THE SECOND FORM's CARD OF 'greatseallaw.TrieEach'. -/
def trieEachUptoCard : Claim7 := { stood := { row := trieEachUptoRow, standIns := [], harness := (true, "3875b42301836107aad86d2e80e44a7d33ace8a959bd5b2de02944e33059564f"), looks := false }, kinds := [], alts := [], laidByText := true, laidKinds := [.data, .data, .data], laidTests := true, laidLooks := .later }
def TrieEachUptoCardSaid : Prop := Claim7.holds Tryd.pinned (.plain (OpenSpec.upto trieEachSpec)) trieEachUptoCard

/-- THE SECOND FORM's CARD OF 'greatseallaw.TrieOne'. -/
def trieOneUptoCard : Claim7 := { stood := { row := trieOneUptoRow, standIns := [], harness := (true, "3875b42301836107aad86d2e80e44a7d33ace8a959bd5b2de02944e33059564f"), looks := false }, kinds := [], alts := [], laidByText := true, laidKinds := [.data, .data, .data], laidTests := true, laidLooks := .later }
def TrieOneUptoCardSaid : Prop := Claim7.holds Tryd.pinned (.plain (OpenSpec.upto trieOneSpec)) trieOneUptoCard

/-- THE SECOND FORM's CARD OF 'greatseallaw.PathTrue'. -/
def pathTrueUptoCard : Claim7 := { stood := { row := pathTrueUptoRow, standIns := [], harness := (true, "3875b42301836107aad86d2e80e44a7d33ace8a959bd5b2de02944e33059564f"), looks := false }, kinds := [], alts := [], laidByText := true, laidKinds := [.data, .data, .data], laidTests := true, laidLooks := .later }
def PathTrueUptoCardSaid : Prop := Claim7.holds Tryd.pinned (.plain (OpenSpec.upto pathTrueSpec)) pathTrueUptoCard

/-- THE SECOND FORM's CARD OF 'greatseallaw.PathOther'. -/
def pathOtherUptoCard : Claim7 := { stood := { row := pathOtherUptoRow, standIns := [], harness := (true, "3875b42301836107aad86d2e80e44a7d33ace8a959bd5b2de02944e33059564f"), looks := false }, kinds := [], alts := [], laidByText := true, laidKinds := [.data, .data, .data], laidTests := true, laidLooks := .later }
def PathOtherUptoCardSaid : Prop := Claim7.holds Tryd.pinned (.plain (OpenSpec.upto pathOtherSpec)) pathOtherUptoCard

/-- THE SECOND FORM's CARD OF 'greatseallaw.GrowTrue'. -/
def growTrueUptoCard : Claim7 := { stood := { row := growTrueUptoRow, standIns := [], harness := (true, "3875b42301836107aad86d2e80e44a7d33ace8a959bd5b2de02944e33059564f"), looks := false }, kinds := [], alts := [], laidByText := true, laidKinds := [.data, .data, .data], laidTests := true, laidLooks := .later }
def GrowTrueUptoCardSaid : Prop := Claim7.holds Tryd.pinned (.plain (OpenSpec.upto growTrueSpec)) growTrueUptoCard

/-- THE SECOND FORM's CARD OF 'greatseallaw.GrowOn'. -/
def growOnUptoCard : Claim7 := { stood := { row := growOnUptoRow, standIns := [], harness := (true, "3875b42301836107aad86d2e80e44a7d33ace8a959bd5b2de02944e33059564f"), looks := false }, kinds := [], alts := [], laidByText := true, laidKinds := [.data, .data, .data], laidTests := true, laidLooks := .later }
def GrowOnUptoCardSaid : Prop := Claim7.holds Tryd.pinned (.plain (OpenSpec.upto growOnSpec)) growOnUptoCard

/-- THE SECOND FORM's CARD OF 'greatseallaw.PathSays'. -/
def pathSaysUptoCard : Claim7 := { stood := { row := pathSaysUptoRow, standIns := [], harness := (true, "3875b42301836107aad86d2e80e44a7d33ace8a959bd5b2de02944e33059564f"), looks := false }, kinds := [], alts := [], laidByText := true, laidKinds := [.data, .data, .data], laidTests := true, laidLooks := .later }
def PathSaysUptoCardSaid : Prop := Claim7.holds Tryd.pinned (.plain (OpenSpec.upto pathSaysSpec)) pathSaysUptoCard

/-- THE SECOND FORM's CARD OF 'greatseallaw.GrowSays'. -/
def growSaysUptoCard : Claim7 := { stood := { row := growSaysUptoRow, standIns := [], harness := (true, "3875b42301836107aad86d2e80e44a7d33ace8a959bd5b2de02944e33059564f"), looks := false }, kinds := [], alts := [], laidByText := true, laidKinds := [.data, .data, .data], laidTests := true, laidLooks := .later }
def GrowSaysUptoCardSaid : Prop := Claim7.holds Tryd.pinned (.plain (OpenSpec.upto growSaysSpec)) growSaysUptoCard
end Rows
end Go.Proofs.YtfobijiffcfnkaaDoor

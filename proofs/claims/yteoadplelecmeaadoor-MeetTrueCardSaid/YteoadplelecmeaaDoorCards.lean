/-
  DERIVED. GIVEN WITH THE SEED: THE CARDS: each row of YteoadplelecmeaaDoorRows.lean that lists a variable, with what it lists TIED to the program's text (the seventh form; the later family's looks); each row that meets fmt, with fmt's text TOLD by the authors' own Lean function (tested against real Go, not proved from fmt's source: count such statements apart). THE CARD IS WHAT COUNTS. Prove the row's statement (the work); the ties are given (YteoadplelecmeaaDoorTie.lean); close each card by the builder's one call (the guide's Derived/Test/ToyasCard.lean, 'card_holds'). Laid BY PROGRAM, IN A SANDBOX (cutbox-door.mjs). By AI agents, Wed Nov 11 2026. No macro, syntax, notation, axiom, sorry.
-/
import Derived.Test.YteoadplelecmeaaDoorRows
import GoSem.ClaimSeven
namespace Go.Proofs.YteoadplelecmeaaDoor
namespace Rows

/-- THE TIED CARD OF 'greatseallaw.BookOne'. -/
def bookOneCard : Claim7 := { stood := { row := bookOneRow, standIns := [], harness := (true, "94173cc4f8cda8a12bdb364ec06ebea145b15d1dbaea46bbe8e12e12ba349e88"), looks := false }, kinds := [], alts := [], laidByText := true, laidKinds := [.data, .data, .data], laidTests := true, laidLooks := .later }
def BookOneCardSaid : Prop := Claim7.holds Tryd.pinned (.plain (OpenSpec.ofChange bookOneSpec)) bookOneCard

/-- THE TIED CARD OF 'greatseallaw.BookBegins'. -/
def bookBeginsCard : Claim7 := { stood := { row := bookBeginsRow, standIns := [], harness := (true, "94173cc4f8cda8a12bdb364ec06ebea145b15d1dbaea46bbe8e12e12ba349e88"), looks := false }, kinds := [], alts := [], laidByText := true, laidKinds := [.data, .data, .data], laidTests := true, laidLooks := .later }
def BookBeginsCardSaid : Prop := Claim7.holds Tryd.pinned (.plain (OpenSpec.ofChange bookBeginsSpec)) bookBeginsCard

/-- THE TIED CARD OF 'greatseallaw.BookSays'. -/
def bookSaysCard : Claim7 := { stood := { row := bookSaysRow, standIns := [], harness := (true, "94173cc4f8cda8a12bdb364ec06ebea145b15d1dbaea46bbe8e12e12ba349e88"), looks := false }, kinds := [], alts := [], laidByText := true, laidKinds := [.data, .data, .data], laidTests := true, laidLooks := .later }
def BookSaysCardSaid : Prop := Claim7.holds Tryd.pinned (.plain (OpenSpec.ofChange bookSaysSpec)) bookSaysCard

/-- THE TIED CARD OF 'greatseallaw.ShowSays'. -/
def showSaysCard : Claim7 := { stood := { row := showSaysRow, standIns := [], harness := (true, "94173cc4f8cda8a12bdb364ec06ebea145b15d1dbaea46bbe8e12e12ba349e88"), looks := false }, kinds := [], alts := [], laidByText := true, laidKinds := [.data, .data, .data], laidTests := true, laidLooks := .later }
def ShowSaysCardSaid : Prop := Claim7.holds Tryd.pinned (.plain (OpenSpec.ofChange showSaysSpec)) showSaysCard

/-- THE TIED CARD OF 'greatseallaw.MeetSays'. -/
def meetSaysCard : Claim7 := { stood := { row := meetSaysRow, standIns := [], harness := (true, "94173cc4f8cda8a12bdb364ec06ebea145b15d1dbaea46bbe8e12e12ba349e88"), looks := false }, kinds := [], alts := [], laidByText := true, laidKinds := [.data, .data, .data], laidTests := true, laidLooks := .later }
def MeetSaysCardSaid : Prop := Claim7.holds Tryd.pinned (.plain (OpenSpec.ofChange meetSaysSpec)) meetSaysCard

/-- THE TIED CARD OF 'greatseallaw.MeetTrue'. -/
def meetTrueCard : Claim7 := { stood := { row := meetTrueRow, standIns := [], harness := (true, "94173cc4f8cda8a12bdb364ec06ebea145b15d1dbaea46bbe8e12e12ba349e88"), looks := false }, kinds := [], alts := [], laidByText := true, laidKinds := [.data, .data, .data], laidTests := true, laidLooks := .later }
def MeetTrueCardSaid : Prop := Claim7.holds Tryd.pinned (.plain (OpenSpec.ofChange meetTrueSpec)) meetTrueCard

/-- THE TIED CARD OF 'greatseallaw.ShowTrue'. -/
def showTrueCard : Claim7 := { stood := { row := showTrueRow, standIns := [], harness := (true, "94173cc4f8cda8a12bdb364ec06ebea145b15d1dbaea46bbe8e12e12ba349e88"), looks := false }, kinds := [], alts := [], laidByText := true, laidKinds := [.data, .data, .data], laidTests := true, laidLooks := .later }
def ShowTrueCardSaid : Prop := Claim7.holds Tryd.pinned (.plain (OpenSpec.ofChange showTrueSpec)) showTrueCard

/-- THE TIED CARD OF 'greatseallaw.ClientFollows'. -/
def clientFollowsCard : Claim7 := { stood := { row := clientFollowsRow, standIns := [], harness := (true, "94173cc4f8cda8a12bdb364ec06ebea145b15d1dbaea46bbe8e12e12ba349e88"), looks := false }, kinds := [], alts := [], laidByText := true, laidKinds := [.data, .data, .data], laidTests := true, laidLooks := .later }
def ClientFollowsCardSaid : Prop := Claim7.holds Tryd.pinned (.plain (OpenSpec.ofChange clientFollowsSpec)) clientFollowsCard

/-- THE TIED CARD OF 'greatseallaw.ClientSays'. -/
def clientSaysCard : Claim7 := { stood := { row := clientSaysRow, standIns := [], harness := (true, "94173cc4f8cda8a12bdb364ec06ebea145b15d1dbaea46bbe8e12e12ba349e88"), looks := false }, kinds := [], alts := [], laidByText := true, laidKinds := [.data, .data, .data], laidTests := true, laidLooks := .later }
def ClientSaysCardSaid : Prop := Claim7.holds Tryd.pinned (.plain (OpenSpec.ofChange clientSaysSpec)) clientSaysCard

/-- THE TIED CARD OF 'greatseallaw.ClientTrue'. -/
def clientTrueCard : Claim7 := { stood := { row := clientTrueRow, standIns := [], harness := (true, "94173cc4f8cda8a12bdb364ec06ebea145b15d1dbaea46bbe8e12e12ba349e88"), looks := false }, kinds := [], alts := [], laidByText := true, laidKinds := [.data, .data, .data], laidTests := true, laidLooks := .later }
def ClientTrueCardSaid : Prop := Claim7.holds Tryd.pinned (.plain (OpenSpec.ofChange clientTrueSpec)) clientTrueCard

/-- THE TIED CARD OF 'greatseallaw.ClientAsks'. -/
def clientAsksCard : Claim7 := { stood := { row := clientAsksRow, standIns := [], harness := (true, "94173cc4f8cda8a12bdb364ec06ebea145b15d1dbaea46bbe8e12e12ba349e88"), looks := false }, kinds := [], alts := [], laidByText := true, laidKinds := [.data, .data, .data], laidTests := true, laidLooks := .later }
def ClientAsksCardSaid : Prop := Claim7.holds Tryd.pinned (.plain (OpenSpec.ofChange clientAsksSpec)) clientAsksCard

/-- THE SECOND FORM's CARD OF 'greatseallaw.BookOne'. -/
def bookOneUptoCard : Claim7 := { stood := { row := bookOneUptoRow, standIns := [], harness := (true, "94173cc4f8cda8a12bdb364ec06ebea145b15d1dbaea46bbe8e12e12ba349e88"), looks := false }, kinds := [], alts := [], laidByText := true, laidKinds := [.data, .data, .data], laidTests := true, laidLooks := .later }
def BookOneUptoCardSaid : Prop := Claim7.holds Tryd.pinned (.plain (OpenSpec.upto bookOneSpec)) bookOneUptoCard

/-- THE SECOND FORM's CARD OF 'greatseallaw.BookBegins'. -/
def bookBeginsUptoCard : Claim7 := { stood := { row := bookBeginsUptoRow, standIns := [], harness := (true, "94173cc4f8cda8a12bdb364ec06ebea145b15d1dbaea46bbe8e12e12ba349e88"), looks := false }, kinds := [], alts := [], laidByText := true, laidKinds := [.data, .data, .data], laidTests := true, laidLooks := .later }
def BookBeginsUptoCardSaid : Prop := Claim7.holds Tryd.pinned (.plain (OpenSpec.upto bookBeginsSpec)) bookBeginsUptoCard

/-- THE SECOND FORM's CARD OF 'greatseallaw.BookSays'. -/
def bookSaysUptoCard : Claim7 := { stood := { row := bookSaysUptoRow, standIns := [], harness := (true, "94173cc4f8cda8a12bdb364ec06ebea145b15d1dbaea46bbe8e12e12ba349e88"), looks := false }, kinds := [], alts := [], laidByText := true, laidKinds := [.data, .data, .data], laidTests := true, laidLooks := .later }
def BookSaysUptoCardSaid : Prop := Claim7.holds Tryd.pinned (.plain (OpenSpec.upto bookSaysSpec)) bookSaysUptoCard

/-- THE SECOND FORM's CARD OF 'greatseallaw.ShowSays'. -/
def showSaysUptoCard : Claim7 := { stood := { row := showSaysUptoRow, standIns := [], harness := (true, "94173cc4f8cda8a12bdb364ec06ebea145b15d1dbaea46bbe8e12e12ba349e88"), looks := false }, kinds := [], alts := [], laidByText := true, laidKinds := [.data, .data, .data], laidTests := true, laidLooks := .later }
def ShowSaysUptoCardSaid : Prop := Claim7.holds Tryd.pinned (.plain (OpenSpec.upto showSaysSpec)) showSaysUptoCard

/-- THE SECOND FORM's CARD OF 'greatseallaw.MeetSays'. -/
def meetSaysUptoCard : Claim7 := { stood := { row := meetSaysUptoRow, standIns := [], harness := (true, "94173cc4f8cda8a12bdb364ec06ebea145b15d1dbaea46bbe8e12e12ba349e88"), looks := false }, kinds := [], alts := [], laidByText := true, laidKinds := [.data, .data, .data], laidTests := true, laidLooks := .later }
def MeetSaysUptoCardSaid : Prop := Claim7.holds Tryd.pinned (.plain (OpenSpec.upto meetSaysSpec)) meetSaysUptoCard

/-- THE SECOND FORM's CARD OF 'greatseallaw.MeetTrue'. -/
def meetTrueUptoCard : Claim7 := { stood := { row := meetTrueUptoRow, standIns := [], harness := (true, "94173cc4f8cda8a12bdb364ec06ebea145b15d1dbaea46bbe8e12e12ba349e88"), looks := false }, kinds := [], alts := [], laidByText := true, laidKinds := [.data, .data, .data], laidTests := true, laidLooks := .later }
def MeetTrueUptoCardSaid : Prop := Claim7.holds Tryd.pinned (.plain (OpenSpec.upto meetTrueSpec)) meetTrueUptoCard

/-- THE SECOND FORM's CARD OF 'greatseallaw.ShowTrue'. -/
def showTrueUptoCard : Claim7 := { stood := { row := showTrueUptoRow, standIns := [], harness := (true, "94173cc4f8cda8a12bdb364ec06ebea145b15d1dbaea46bbe8e12e12ba349e88"), looks := false }, kinds := [], alts := [], laidByText := true, laidKinds := [.data, .data, .data], laidTests := true, laidLooks := .later }
def ShowTrueUptoCardSaid : Prop := Claim7.holds Tryd.pinned (.plain (OpenSpec.upto showTrueSpec)) showTrueUptoCard

/-- THE SECOND FORM's CARD OF 'greatseallaw.ClientFollows'. -/
def clientFollowsUptoCard : Claim7 := { stood := { row := clientFollowsUptoRow, standIns := [], harness := (true, "94173cc4f8cda8a12bdb364ec06ebea145b15d1dbaea46bbe8e12e12ba349e88"), looks := false }, kinds := [], alts := [], laidByText := true, laidKinds := [.data, .data, .data], laidTests := true, laidLooks := .later }
def ClientFollowsUptoCardSaid : Prop := Claim7.holds Tryd.pinned (.plain (OpenSpec.upto clientFollowsSpec)) clientFollowsUptoCard

/-- THE SECOND FORM's CARD OF 'greatseallaw.ClientSays'. -/
def clientSaysUptoCard : Claim7 := { stood := { row := clientSaysUptoRow, standIns := [], harness := (true, "94173cc4f8cda8a12bdb364ec06ebea145b15d1dbaea46bbe8e12e12ba349e88"), looks := false }, kinds := [], alts := [], laidByText := true, laidKinds := [.data, .data, .data], laidTests := true, laidLooks := .later }
def ClientSaysUptoCardSaid : Prop := Claim7.holds Tryd.pinned (.plain (OpenSpec.upto clientSaysSpec)) clientSaysUptoCard

/-- THE SECOND FORM's CARD OF 'greatseallaw.ClientTrue'. -/
def clientTrueUptoCard : Claim7 := { stood := { row := clientTrueUptoRow, standIns := [], harness := (true, "94173cc4f8cda8a12bdb364ec06ebea145b15d1dbaea46bbe8e12e12ba349e88"), looks := false }, kinds := [], alts := [], laidByText := true, laidKinds := [.data, .data, .data], laidTests := true, laidLooks := .later }
def ClientTrueUptoCardSaid : Prop := Claim7.holds Tryd.pinned (.plain (OpenSpec.upto clientTrueSpec)) clientTrueUptoCard

/-- THE SECOND FORM's CARD OF 'greatseallaw.ClientAsks'. -/
def clientAsksUptoCard : Claim7 := { stood := { row := clientAsksUptoRow, standIns := [], harness := (true, "94173cc4f8cda8a12bdb364ec06ebea145b15d1dbaea46bbe8e12e12ba349e88"), looks := false }, kinds := [], alts := [], laidByText := true, laidKinds := [.data, .data, .data], laidTests := true, laidLooks := .later }
def ClientAsksUptoCardSaid : Prop := Claim7.holds Tryd.pinned (.plain (OpenSpec.upto clientAsksSpec)) clientAsksUptoCard
end Rows
end Go.Proofs.YteoadplelecmeaaDoor

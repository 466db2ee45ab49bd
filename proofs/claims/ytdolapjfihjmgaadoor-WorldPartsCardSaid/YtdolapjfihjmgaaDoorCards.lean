/-
  DERIVED. GIVEN WITH THE SEED: THE CARDS: each row of YtdolapjfihjmgaaDoorRows.lean that lists a variable, with what it lists TIED to the program's text (the seventh form; the later family's looks); each row that meets fmt, with fmt's text TOLD by the authors' own Lean function (tested against real Go, not proved from fmt's source: count such statements apart). THE CARD IS WHAT COUNTS. Prove the row's statement (the work); the ties are given (YtdolapjfihjmgaaDoorTie.lean); close each card by the builder's one call (the guide's Derived/Test/ToyasCard.lean, 'card_holds'). Laid BY PROGRAM, IN A SANDBOX (cutbox-door.mjs). By AI agents, Wed Nov 11 2026. No macro, syntax, notation, axiom, sorry.
-/
import Derived.Test.YtdolapjfihjmgaaDoorRows
import GoSem.ClaimSeven
namespace Go.Proofs.YtdolapjfihjmgaaDoor
namespace Rows

/-- THE TIED CARD OF 'greatseallaw.StoryCaught'. -/
def storyCaughtCard : Claim7 := { stood := { row := storyCaughtRow, standIns := [], harness := (true, "80d5a1c2e6e4aee4732e1be9e3f6fc0a314abe2b9e590fc91553208c6b642a48"), looks := false }, kinds := [], alts := [], laidByText := true, laidKinds := [.data, .data, .data], laidTests := true, laidLooks := .later }
def StoryCaughtCardSaid : Prop := Claim7.holds Tryd.pinned (.plain (OpenSpec.ofChange storyCaughtSpec)) storyCaughtCard

/-- THE TIED CARD OF 'greatseallaw.WorldRuns'. -/
def worldRunsCard : Claim7 := { stood := { row := worldRunsRow, standIns := [], harness := (true, "80d5a1c2e6e4aee4732e1be9e3f6fc0a314abe2b9e590fc91553208c6b642a48"), looks := false }, kinds := [], alts := [], laidByText := true, laidKinds := [.data, .data, .data], laidTests := true, laidLooks := .later }
def WorldRunsCardSaid : Prop := Claim7.holds Tryd.pinned (.plain (OpenSpec.ofChange worldRunsSpec)) worldRunsCard

/-- THE TIED CARD OF 'greatseallaw.WorldKeeps'. -/
def worldKeepsCard : Claim7 := { stood := { row := worldKeepsRow, standIns := [], harness := (true, "80d5a1c2e6e4aee4732e1be9e3f6fc0a314abe2b9e590fc91553208c6b642a48"), looks := false }, kinds := [], alts := [], laidByText := true, laidKinds := [.data, .data, .data], laidTests := true, laidLooks := .later }
def WorldKeepsCardSaid : Prop := Claim7.holds Tryd.pinned (.plain (OpenSpec.ofChange worldKeepsSpec)) worldKeepsCard

/-- THE TIED CARD OF 'greatseallaw.WorldDoes'. -/
def worldDoesCard : Claim7 := { stood := { row := worldDoesRow, standIns := [], harness := (true, "80d5a1c2e6e4aee4732e1be9e3f6fc0a314abe2b9e590fc91553208c6b642a48"), looks := false }, kinds := [], alts := [], laidByText := true, laidKinds := [.data, .data, .data], laidTests := true, laidLooks := .later }
def WorldDoesCardSaid : Prop := Claim7.holds Tryd.pinned (.plain (OpenSpec.ofChange worldDoesSpec)) worldDoesCard

/-- THE TIED CARD OF 'greatseallaw.StoryFork'. -/
def storyForkCard : Claim7 := { stood := { row := storyForkRow, standIns := [], harness := (true, "80d5a1c2e6e4aee4732e1be9e3f6fc0a314abe2b9e590fc91553208c6b642a48"), looks := false }, kinds := [], alts := [], laidByText := true, laidKinds := [.data, .data, .data], laidTests := true, laidLooks := .later }
def StoryForkCardSaid : Prop := Claim7.holds Tryd.pinned (.plain (OpenSpec.ofChange storyForkSpec)) storyForkCard

/-- THE TIED CARD OF 'greatseallaw.StoryHonest'. -/
def storyHonestCard : Claim7 := { stood := { row := storyHonestRow, standIns := [], harness := (true, "80d5a1c2e6e4aee4732e1be9e3f6fc0a314abe2b9e590fc91553208c6b642a48"), looks := false }, kinds := [], alts := [], laidByText := true, laidKinds := [.data, .data, .data], laidTests := true, laidLooks := .later }
def StoryHonestCardSaid : Prop := Claim7.holds Tryd.pinned (.plain (OpenSpec.ofChange storyHonestSpec)) storyHonestCard

/-- THE TIED CARD OF 'greatseallaw.StorySays'. -/
def storySaysCard : Claim7 := { stood := { row := storySaysRow, standIns := [], harness := (true, "80d5a1c2e6e4aee4732e1be9e3f6fc0a314abe2b9e590fc91553208c6b642a48"), looks := false }, kinds := [], alts := [], laidByText := true, laidKinds := [.data, .data, .data], laidTests := true, laidLooks := .later }
def StorySaysCardSaid : Prop := Claim7.holds Tryd.pinned (.plain (OpenSpec.ofChange storySaysSpec)) storySaysCard

/-- THE TIED CARD OF 'greatseallaw.WorldParts'. -/
def worldPartsCard : Claim7 := { stood := { row := worldPartsRow, standIns := [], harness := (true, "80d5a1c2e6e4aee4732e1be9e3f6fc0a314abe2b9e590fc91553208c6b642a48"), looks := false }, kinds := [], alts := [], laidByText := true, laidKinds := [.data, .data, .data], laidTests := true, laidLooks := .later }
def WorldPartsCardSaid : Prop := Claim7.holds Tryd.pinned (.plain (OpenSpec.ofChange worldPartsSpec)) worldPartsCard

/-- THE TIED CARD OF 'greatseallaw.StoryFollows'. -/
def storyFollowsCard : Claim7 := { stood := { row := storyFollowsRow, standIns := [], harness := (true, "80d5a1c2e6e4aee4732e1be9e3f6fc0a314abe2b9e590fc91553208c6b642a48"), looks := false }, kinds := [], alts := [], laidByText := true, laidKinds := [.data, .data, .data], laidTests := true, laidLooks := .later }
def StoryFollowsCardSaid : Prop := Claim7.holds Tryd.pinned (.plain (OpenSpec.ofChange storyFollowsSpec)) storyFollowsCard

/-- THE SECOND FORM's CARD OF 'greatseallaw.StoryCaught'. -/
def storyCaughtUptoCard : Claim7 := { stood := { row := storyCaughtUptoRow, standIns := [], harness := (true, "80d5a1c2e6e4aee4732e1be9e3f6fc0a314abe2b9e590fc91553208c6b642a48"), looks := false }, kinds := [], alts := [], laidByText := true, laidKinds := [.data, .data, .data], laidTests := true, laidLooks := .later }
def StoryCaughtUptoCardSaid : Prop := Claim7.holds Tryd.pinned (.plain (OpenSpec.upto storyCaughtSpec)) storyCaughtUptoCard

/-- THE SECOND FORM's CARD OF 'greatseallaw.WorldRuns'. -/
def worldRunsUptoCard : Claim7 := { stood := { row := worldRunsUptoRow, standIns := [], harness := (true, "80d5a1c2e6e4aee4732e1be9e3f6fc0a314abe2b9e590fc91553208c6b642a48"), looks := false }, kinds := [], alts := [], laidByText := true, laidKinds := [.data, .data, .data], laidTests := true, laidLooks := .later }
def WorldRunsUptoCardSaid : Prop := Claim7.holds Tryd.pinned (.plain (OpenSpec.upto worldRunsSpec)) worldRunsUptoCard

/-- THE SECOND FORM's CARD OF 'greatseallaw.WorldKeeps'. -/
def worldKeepsUptoCard : Claim7 := { stood := { row := worldKeepsUptoRow, standIns := [], harness := (true, "80d5a1c2e6e4aee4732e1be9e3f6fc0a314abe2b9e590fc91553208c6b642a48"), looks := false }, kinds := [], alts := [], laidByText := true, laidKinds := [.data, .data, .data], laidTests := true, laidLooks := .later }
def WorldKeepsUptoCardSaid : Prop := Claim7.holds Tryd.pinned (.plain (OpenSpec.upto worldKeepsSpec)) worldKeepsUptoCard

/-- THE SECOND FORM's CARD OF 'greatseallaw.WorldDoes'. -/
def worldDoesUptoCard : Claim7 := { stood := { row := worldDoesUptoRow, standIns := [], harness := (true, "80d5a1c2e6e4aee4732e1be9e3f6fc0a314abe2b9e590fc91553208c6b642a48"), looks := false }, kinds := [], alts := [], laidByText := true, laidKinds := [.data, .data, .data], laidTests := true, laidLooks := .later }
def WorldDoesUptoCardSaid : Prop := Claim7.holds Tryd.pinned (.plain (OpenSpec.upto worldDoesSpec)) worldDoesUptoCard

/-- THE SECOND FORM's CARD OF 'greatseallaw.StoryFork'. -/
def storyForkUptoCard : Claim7 := { stood := { row := storyForkUptoRow, standIns := [], harness := (true, "80d5a1c2e6e4aee4732e1be9e3f6fc0a314abe2b9e590fc91553208c6b642a48"), looks := false }, kinds := [], alts := [], laidByText := true, laidKinds := [.data, .data, .data], laidTests := true, laidLooks := .later }
def StoryForkUptoCardSaid : Prop := Claim7.holds Tryd.pinned (.plain (OpenSpec.upto storyForkSpec)) storyForkUptoCard

/-- THE SECOND FORM's CARD OF 'greatseallaw.StoryHonest'. -/
def storyHonestUptoCard : Claim7 := { stood := { row := storyHonestUptoRow, standIns := [], harness := (true, "80d5a1c2e6e4aee4732e1be9e3f6fc0a314abe2b9e590fc91553208c6b642a48"), looks := false }, kinds := [], alts := [], laidByText := true, laidKinds := [.data, .data, .data], laidTests := true, laidLooks := .later }
def StoryHonestUptoCardSaid : Prop := Claim7.holds Tryd.pinned (.plain (OpenSpec.upto storyHonestSpec)) storyHonestUptoCard

/-- THE SECOND FORM's CARD OF 'greatseallaw.StorySays'. -/
def storySaysUptoCard : Claim7 := { stood := { row := storySaysUptoRow, standIns := [], harness := (true, "80d5a1c2e6e4aee4732e1be9e3f6fc0a314abe2b9e590fc91553208c6b642a48"), looks := false }, kinds := [], alts := [], laidByText := true, laidKinds := [.data, .data, .data], laidTests := true, laidLooks := .later }
def StorySaysUptoCardSaid : Prop := Claim7.holds Tryd.pinned (.plain (OpenSpec.upto storySaysSpec)) storySaysUptoCard

/-- THE SECOND FORM's CARD OF 'greatseallaw.WorldParts'. -/
def worldPartsUptoCard : Claim7 := { stood := { row := worldPartsUptoRow, standIns := [], harness := (true, "80d5a1c2e6e4aee4732e1be9e3f6fc0a314abe2b9e590fc91553208c6b642a48"), looks := false }, kinds := [], alts := [], laidByText := true, laidKinds := [.data, .data, .data], laidTests := true, laidLooks := .later }
def WorldPartsUptoCardSaid : Prop := Claim7.holds Tryd.pinned (.plain (OpenSpec.upto worldPartsSpec)) worldPartsUptoCard

/-- THE SECOND FORM's CARD OF 'greatseallaw.StoryFollows'. -/
def storyFollowsUptoCard : Claim7 := { stood := { row := storyFollowsUptoRow, standIns := [], harness := (true, "80d5a1c2e6e4aee4732e1be9e3f6fc0a314abe2b9e590fc91553208c6b642a48"), looks := false }, kinds := [], alts := [], laidByText := true, laidKinds := [.data, .data, .data], laidTests := true, laidLooks := .later }
def StoryFollowsUptoCardSaid : Prop := Claim7.holds Tryd.pinned (.plain (OpenSpec.upto storyFollowsSpec)) storyFollowsUptoCard
end Rows
end Go.Proofs.YtdolapjfihjmgaaDoor

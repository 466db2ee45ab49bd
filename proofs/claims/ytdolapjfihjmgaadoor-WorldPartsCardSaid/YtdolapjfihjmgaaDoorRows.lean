/-
  NARROWER THAN 'FOR EVERY INPUT', by the rows' own cells (each row's printed sentence says how): StoryCaught: laid · WorldRuns: laid · WorldKeeps: laid · WorldDoes: laid · StoryFork: laid · StoryHonest: laid · StorySays: laid · WorldParts: laid · StoryFollows: laid.
  DERIVED. THE GIVEN ROWS OF THIS SEAT. 9 by the template 'for every input the law returns true; each argument reads behind the call as it read before'; 0 by the template 'total and deterministic' (their statements: YtdolapjfihjmgaaDoorTotals.lean).
  GIVEN WITH THE SEED: the statements are not yours to turn. If you find one false, say at which input.
  Laid BY PROGRAM, IN A SANDBOX (cutbox-rows.mjs): the forced cells as the released guide's own fill.sh prints them over the translation f7b0eb5bac8a6bf5… (all of the seat's roots in one cut). By AI agents, Wed Nov 11 2026. No macro, syntax, notation, axiom, sorry.
-/
import Derived.Test.YtdolapjfihjmgaaDoorChecked
import GoSem.Claim
import GoSem.ClaimJoined
import GoSem.ClaimMapViews
import Derived.JoinedTies
import Derived.KernelRfl
namespace Go.Proofs.YtdolapjfihjmgaaDoor
/- THE CELL 'sum', in the pinned program and in every row, IS THE sha256 OF THE DUMP (.gsa) THAT YtdolapjfihjmgaaDoorProg.lean LOADS. Nothing in Lean hashes anything: it is a label: what it is worth is what the hold of that sum in a sandbox is worth. -/
noncomputable def Tryd.pinned : Pinned := { name := "ytdolapjfihjmgaadoor", sum := "f7b0eb5bac8a6bf5f0f527351083941261e1102024ab8647fb63496a1b904f00", checked := Tryd.checked }
namespace Rows
def none {H : Type} : Left H := { results := [], args := [] }

/- WHAT THE LISTED PACKAGE-LEVEL VARIABLES READ AS WHEN THE CALL BEGINS. Each datum BY PROGRAM (the guide's laid-datum.mjs) off the statement by which the dump's own 'gosem.cut.vars' lays the variable. In a bare row this is a premise. The card (YtdolapjfihjmgaaDoorCards.lean) ties it to the program's text. -/
def laid_math_bits_deBruijn32tab {H : Type} : DataW H := .agg [.lit (.int .u8 0), .lit (.int .u8 1), .lit (.int .u8 28), .lit (.int .u8 2), .lit (.int .u8 29), .lit (.int .u8 14), .lit (.int .u8 24), .lit (.int .u8 3), .lit (.int .u8 30), .lit (.int .u8 22), .lit (.int .u8 20), .lit (.int .u8 15), .lit (.int .u8 25), .lit (.int .u8 17), .lit (.int .u8 4), .lit (.int .u8 8), .lit (.int .u8 31), .lit (.int .u8 27), .lit (.int .u8 13), .lit (.int .u8 23), .lit (.int .u8 21), .lit (.int .u8 19), .lit (.int .u8 16), .lit (.int .u8 7), .lit (.int .u8 26), .lit (.int .u8 12), .lit (.int .u8 18), .lit (.int .u8 6), .lit (.int .u8 11), .lit (.int .u8 5), .lit (.int .u8 10), .lit (.int .u8 9)]
def laid_math_bits_deBruijn64tab {H : Type} : DataW H := .agg [.lit (.int .u8 0), .lit (.int .u8 1), .lit (.int .u8 56), .lit (.int .u8 2), .lit (.int .u8 57), .lit (.int .u8 49), .lit (.int .u8 28), .lit (.int .u8 3), .lit (.int .u8 61), .lit (.int .u8 58), .lit (.int .u8 42), .lit (.int .u8 50), .lit (.int .u8 38), .lit (.int .u8 29), .lit (.int .u8 17), .lit (.int .u8 4), .lit (.int .u8 62), .lit (.int .u8 47), .lit (.int .u8 59), .lit (.int .u8 36), .lit (.int .u8 45), .lit (.int .u8 43), .lit (.int .u8 51), .lit (.int .u8 22), .lit (.int .u8 53), .lit (.int .u8 39), .lit (.int .u8 33), .lit (.int .u8 30), .lit (.int .u8 24), .lit (.int .u8 18), .lit (.int .u8 12), .lit (.int .u8 5), .lit (.int .u8 63), .lit (.int .u8 55), .lit (.int .u8 48), .lit (.int .u8 27), .lit (.int .u8 60), .lit (.int .u8 41), .lit (.int .u8 37), .lit (.int .u8 16), .lit (.int .u8 46), .lit (.int .u8 35), .lit (.int .u8 44), .lit (.int .u8 21), .lit (.int .u8 52), .lit (.int .u8 32), .lit (.int .u8 23), .lit (.int .u8 11), .lit (.int .u8 54), .lit (.int .u8 26), .lit (.int .u8 40), .lit (.int .u8 15), .lit (.int .u8 34), .lit (.int .u8 20), .lit (.int .u8 31), .lit (.int .u8 10), .lit (.int .u8 25), .lit (.int .u8 14), .lit (.int .u8 19), .lit (.int .u8 9), .lit (.int .u8 13), .lit (.int .u8 8), .lit (.int .u8 7), .lit (.int .u8 6)]
def laid_internal_strconv_uint64pow10 {H : Type} : DataW H := .agg [.lit (.int .u64 1), .lit (.int .u64 10), .lit (.int .u64 100), .lit (.int .u64 1000), .lit (.int .u64 10000), .lit (.int .u64 100000), .lit (.int .u64 1000000), .lit (.int .u64 10000000), .lit (.int .u64 100000000), .lit (.int .u64 1000000000), .lit (.int .u64 10000000000), .lit (.int .u64 100000000000), .lit (.int .u64 1000000000000), .lit (.int .u64 10000000000000), .lit (.int .u64 100000000000000), .lit (.int .u64 1000000000000000), .lit (.int .u64 10000000000000000), .lit (.int .u64 100000000000000000), .lit (.int .u64 1000000000000000000), .lit (.int .u64 10000000000000000000)]

/-- 'greatseallaw.StoryCaught': WHATEVER THE INPUT: true; the input reads as it did. -/
def storyCaughtSpec : ChangeSpec := { name := "storyCaught", fn := fun _ => fun
  | [d] => { results := [.lit (.bool true)], args := [d] }
  | _ => none }
def storyCaughtRow : OpenClaim := { program := "ytdolapjfihjmgaadoor", sum := "f7b0eb5bac8a6bf5f0f527351083941261e1102024ab8647fb63496a1b904f00", func := "greatseal/greatseallaw.StoryCaught", spec := "storyCaught", unfollowed := true, recurses := true, named := ["internal/strconv.uint64pow10", "math/bits.deBruijn32tab", "math/bits.deBruijn64tab"], apart := false, laid := [("math/bits.deBruijn32tab", laid_math_bits_deBruijn32tab), ("math/bits.deBruijn64tab", laid_math_bits_deBruijn64tab), ("internal/strconv.uint64pow10", laid_internal_strconv_uint64pow10)] }
def StoryCaughtSaid : Prop := storyCaughtRow.holds Tryd.pinned (OpenSpec.ofChange storyCaughtSpec)

/-- ITS FALSE NEIGHBOUR: 'it returns false'. Refute it at one input. -/
def storyCaughtWrong : ChangeSpec := { name := "storyCaught", fn := fun _ => fun
  | [d] => { results := [.lit (.bool false)], args := [d] }
  | _ => none }
def StoryCaughtWrongFalsely : Prop := storyCaughtRow.holds Tryd.pinned (OpenSpec.ofChange storyCaughtWrong)

/-- 'greatseallaw.WorldRuns': WHATEVER THE INPUT: true; the input reads as it did. -/
def worldRunsSpec : ChangeSpec := { name := "worldRuns", fn := fun _ => fun
  | [d1, d2] => { results := [.lit (.bool true)], args := [d1, d2] }
  | _ => none }
def worldRunsRow : OpenClaim := { program := "ytdolapjfihjmgaadoor", sum := "f7b0eb5bac8a6bf5f0f527351083941261e1102024ab8647fb63496a1b904f00", func := "greatseal/greatseallaw.WorldRuns", spec := "worldRuns", unfollowed := true, recurses := true, named := ["internal/strconv.uint64pow10", "math/bits.deBruijn32tab", "math/bits.deBruijn64tab"], apart := false, laid := [("math/bits.deBruijn32tab", laid_math_bits_deBruijn32tab), ("math/bits.deBruijn64tab", laid_math_bits_deBruijn64tab), ("internal/strconv.uint64pow10", laid_internal_strconv_uint64pow10)] }
def WorldRunsSaid : Prop := worldRunsRow.holds Tryd.pinned (OpenSpec.ofChange worldRunsSpec)

/-- ITS FALSE NEIGHBOUR: 'it returns false'. Refute it at one input. -/
def worldRunsWrong : ChangeSpec := { name := "worldRuns", fn := fun _ => fun
  | [d1, d2] => { results := [.lit (.bool false)], args := [d1, d2] }
  | _ => none }
def WorldRunsWrongFalsely : Prop := worldRunsRow.holds Tryd.pinned (OpenSpec.ofChange worldRunsWrong)

/-- 'greatseallaw.WorldKeeps': WHATEVER THE INPUT: true; the input reads as it did. -/
def worldKeepsSpec : ChangeSpec := { name := "worldKeeps", fn := fun _ => fun
  | [d1, d2] => { results := [.lit (.bool true)], args := [d1, d2] }
  | _ => none }
def worldKeepsRow : OpenClaim := { program := "ytdolapjfihjmgaadoor", sum := "f7b0eb5bac8a6bf5f0f527351083941261e1102024ab8647fb63496a1b904f00", func := "greatseal/greatseallaw.WorldKeeps", spec := "worldKeeps", unfollowed := true, recurses := true, named := ["internal/strconv.uint64pow10", "math/bits.deBruijn32tab", "math/bits.deBruijn64tab"], apart := false, laid := [("math/bits.deBruijn32tab", laid_math_bits_deBruijn32tab), ("math/bits.deBruijn64tab", laid_math_bits_deBruijn64tab), ("internal/strconv.uint64pow10", laid_internal_strconv_uint64pow10)] }
def WorldKeepsSaid : Prop := worldKeepsRow.holds Tryd.pinned (OpenSpec.ofChange worldKeepsSpec)

/-- ITS FALSE NEIGHBOUR: 'it returns false'. Refute it at one input. -/
def worldKeepsWrong : ChangeSpec := { name := "worldKeeps", fn := fun _ => fun
  | [d1, d2] => { results := [.lit (.bool false)], args := [d1, d2] }
  | _ => none }
def WorldKeepsWrongFalsely : Prop := worldKeepsRow.holds Tryd.pinned (OpenSpec.ofChange worldKeepsWrong)

/-- 'greatseallaw.WorldDoes': WHATEVER THE INPUT: true; the input reads as it did. -/
def worldDoesSpec : ChangeSpec := { name := "worldDoes", fn := fun _ => fun
  | [d1, d2, d3] => { results := [.lit (.bool true)], args := [d1, d2, d3] }
  | _ => none }
def worldDoesRow : OpenClaim := { program := "ytdolapjfihjmgaadoor", sum := "f7b0eb5bac8a6bf5f0f527351083941261e1102024ab8647fb63496a1b904f00", func := "greatseal/greatseallaw.WorldDoes", spec := "worldDoes", unfollowed := true, recurses := true, named := ["internal/strconv.uint64pow10", "math/bits.deBruijn32tab", "math/bits.deBruijn64tab"], apart := false, laid := [("math/bits.deBruijn32tab", laid_math_bits_deBruijn32tab), ("math/bits.deBruijn64tab", laid_math_bits_deBruijn64tab), ("internal/strconv.uint64pow10", laid_internal_strconv_uint64pow10)] }
def WorldDoesSaid : Prop := worldDoesRow.holds Tryd.pinned (OpenSpec.ofChange worldDoesSpec)

/-- ITS FALSE NEIGHBOUR: 'it returns false'. Refute it at one input. -/
def worldDoesWrong : ChangeSpec := { name := "worldDoes", fn := fun _ => fun
  | [d1, d2, d3] => { results := [.lit (.bool false)], args := [d1, d2, d3] }
  | _ => none }
def WorldDoesWrongFalsely : Prop := worldDoesRow.holds Tryd.pinned (OpenSpec.ofChange worldDoesWrong)

/-- 'greatseallaw.StoryFork': WHATEVER THE INPUT: true; the input reads as it did. -/
def storyForkSpec : ChangeSpec := { name := "storyFork", fn := fun _ => fun
  | [d1, d2, d3] => { results := [.lit (.bool true)], args := [d1, d2, d3] }
  | _ => none }
def storyForkRow : OpenClaim := { program := "ytdolapjfihjmgaadoor", sum := "f7b0eb5bac8a6bf5f0f527351083941261e1102024ab8647fb63496a1b904f00", func := "greatseal/greatseallaw.StoryFork", spec := "storyFork", unfollowed := true, recurses := true, named := ["internal/strconv.uint64pow10", "math/bits.deBruijn32tab", "math/bits.deBruijn64tab"], apart := false, laid := [("math/bits.deBruijn32tab", laid_math_bits_deBruijn32tab), ("math/bits.deBruijn64tab", laid_math_bits_deBruijn64tab), ("internal/strconv.uint64pow10", laid_internal_strconv_uint64pow10)] }
def StoryForkSaid : Prop := storyForkRow.holds Tryd.pinned (OpenSpec.ofChange storyForkSpec)

/-- ITS FALSE NEIGHBOUR: 'it returns false'. Refute it at one input. -/
def storyForkWrong : ChangeSpec := { name := "storyFork", fn := fun _ => fun
  | [d1, d2, d3] => { results := [.lit (.bool false)], args := [d1, d2, d3] }
  | _ => none }
def StoryForkWrongFalsely : Prop := storyForkRow.holds Tryd.pinned (OpenSpec.ofChange storyForkWrong)

/-- 'greatseallaw.StoryHonest': WHATEVER THE INPUT: true; the input reads as it did. -/
def storyHonestSpec : ChangeSpec := { name := "storyHonest", fn := fun _ => fun
  | [d] => { results := [.lit (.bool true)], args := [d] }
  | _ => none }
def storyHonestRow : OpenClaim := { program := "ytdolapjfihjmgaadoor", sum := "f7b0eb5bac8a6bf5f0f527351083941261e1102024ab8647fb63496a1b904f00", func := "greatseal/greatseallaw.StoryHonest", spec := "storyHonest", unfollowed := true, recurses := true, named := ["internal/strconv.uint64pow10", "math/bits.deBruijn32tab", "math/bits.deBruijn64tab"], apart := false, laid := [("math/bits.deBruijn32tab", laid_math_bits_deBruijn32tab), ("math/bits.deBruijn64tab", laid_math_bits_deBruijn64tab), ("internal/strconv.uint64pow10", laid_internal_strconv_uint64pow10)] }
def StoryHonestSaid : Prop := storyHonestRow.holds Tryd.pinned (OpenSpec.ofChange storyHonestSpec)

/-- ITS FALSE NEIGHBOUR: 'it returns false'. Refute it at one input. -/
def storyHonestWrong : ChangeSpec := { name := "storyHonest", fn := fun _ => fun
  | [d] => { results := [.lit (.bool false)], args := [d] }
  | _ => none }
def StoryHonestWrongFalsely : Prop := storyHonestRow.holds Tryd.pinned (OpenSpec.ofChange storyHonestWrong)

/-- 'greatseallaw.StorySays': WHATEVER THE INPUT: true; the input reads as it did. -/
def storySaysSpec : ChangeSpec := { name := "storySays", fn := fun _ => fun
  | [d1, d2, d3] => { results := [.lit (.bool true)], args := [d1, d2, d3] }
  | _ => none }
def storySaysRow : OpenClaim := { program := "ytdolapjfihjmgaadoor", sum := "f7b0eb5bac8a6bf5f0f527351083941261e1102024ab8647fb63496a1b904f00", func := "greatseal/greatseallaw.StorySays", spec := "storySays", unfollowed := true, recurses := true, named := ["internal/strconv.uint64pow10", "math/bits.deBruijn32tab", "math/bits.deBruijn64tab"], apart := false, laid := [("math/bits.deBruijn32tab", laid_math_bits_deBruijn32tab), ("math/bits.deBruijn64tab", laid_math_bits_deBruijn64tab), ("internal/strconv.uint64pow10", laid_internal_strconv_uint64pow10)] }
def StorySaysSaid : Prop := storySaysRow.holds Tryd.pinned (OpenSpec.ofChange storySaysSpec)

/-- ITS FALSE NEIGHBOUR: 'it returns false'. Refute it at one input. -/
def storySaysWrong : ChangeSpec := { name := "storySays", fn := fun _ => fun
  | [d1, d2, d3] => { results := [.lit (.bool false)], args := [d1, d2, d3] }
  | _ => none }
def StorySaysWrongFalsely : Prop := storySaysRow.holds Tryd.pinned (OpenSpec.ofChange storySaysWrong)

/-- 'greatseallaw.WorldParts': WHATEVER THE INPUT: true; the input reads as it did. -/
def worldPartsSpec : ChangeSpec := { name := "worldParts", fn := fun _ => fun
  | [d1, d2, d3] => { results := [.lit (.bool true)], args := [d1, d2, d3] }
  | _ => none }
def worldPartsRow : OpenClaim := { program := "ytdolapjfihjmgaadoor", sum := "f7b0eb5bac8a6bf5f0f527351083941261e1102024ab8647fb63496a1b904f00", func := "greatseal/greatseallaw.WorldParts", spec := "worldParts", unfollowed := true, recurses := true, named := ["internal/strconv.uint64pow10", "math/bits.deBruijn32tab", "math/bits.deBruijn64tab"], apart := false, laid := [("math/bits.deBruijn32tab", laid_math_bits_deBruijn32tab), ("math/bits.deBruijn64tab", laid_math_bits_deBruijn64tab), ("internal/strconv.uint64pow10", laid_internal_strconv_uint64pow10)] }
def WorldPartsSaid : Prop := worldPartsRow.holds Tryd.pinned (OpenSpec.ofChange worldPartsSpec)

/-- ITS FALSE NEIGHBOUR: 'it returns false'. Refute it at one input. -/
def worldPartsWrong : ChangeSpec := { name := "worldParts", fn := fun _ => fun
  | [d1, d2, d3] => { results := [.lit (.bool false)], args := [d1, d2, d3] }
  | _ => none }
def WorldPartsWrongFalsely : Prop := worldPartsRow.holds Tryd.pinned (OpenSpec.ofChange worldPartsWrong)

/-- 'greatseallaw.StoryFollows': WHATEVER THE INPUT: true; the input reads as it did. -/
def storyFollowsSpec : ChangeSpec := { name := "storyFollows", fn := fun _ => fun
  | [d] => { results := [.lit (.bool true)], args := [d] }
  | _ => none }
def storyFollowsRow : OpenClaim := { program := "ytdolapjfihjmgaadoor", sum := "f7b0eb5bac8a6bf5f0f527351083941261e1102024ab8647fb63496a1b904f00", func := "greatseal/greatseallaw.StoryFollows", spec := "storyFollows", unfollowed := true, recurses := true, named := ["internal/strconv.uint64pow10", "math/bits.deBruijn32tab", "math/bits.deBruijn64tab"], apart := false, laid := [("math/bits.deBruijn32tab", laid_math_bits_deBruijn32tab), ("math/bits.deBruijn64tab", laid_math_bits_deBruijn64tab), ("internal/strconv.uint64pow10", laid_internal_strconv_uint64pow10)] }
def StoryFollowsSaid : Prop := storyFollowsRow.holds Tryd.pinned (OpenSpec.ofChange storyFollowsSpec)

/-- ITS FALSE NEIGHBOUR: 'it returns false'. Refute it at one input. -/
def storyFollowsWrong : ChangeSpec := { name := "storyFollows", fn := fun _ => fun
  | [d] => { results := [.lit (.bool false)], args := [d] }
  | _ => none }
def StoryFollowsWrongFalsely : Prop := storyFollowsRow.holds Tryd.pinned (OpenSpec.ofChange storyFollowsWrong)

/- THE SECOND FORM. 'bulk': how many values and letters a reading holds, each counted each time it is reached (what is shared counts as often as it is met; a slice's spare places count too). A statement '..UptoSaid' is the law's where the arguments, and the package variables that the reading takes, are together of bulk at most 1048576: NARROWER than '..Said'. Prove '..Said' where nothing that the law and all that it calls make is longer than what came in: it says more and counts as full. Else prove '..UptoSaid'. A law counts once. -/
mutual
def uptoBulk {H : Type} : DataW H → Nat
  | .lit (.string bytes) => bytes.length + 1
  | .lit _ => 1
  | .nil => 1
  | .ptr d => uptoBulk d + 1
  | .slice elems spare => uptoBulkAll elems + uptoBulkAll spare + 1
  | .agg parts => uptoBulkAll parts + 1
  | .iface _ d => uptoBulk d + 1
  | .map entries => uptoBulkEntries entries + 1
  | .held _ => 1
def uptoBulkAll {H : Type} : List (DataW H) → Nat
  | [] => 0
  | d :: r => uptoBulk d + uptoBulkAll r
def uptoBulkEntries {H : Type} : List (Lit × DataW H) → Nat
  | [] => 0
  | x :: r => uptoBulkEntry x + uptoBulkEntries r
def uptoBulkEntry {H : Type} : Lit × DataW H → Nat
  | (.string bytes, d) => bytes.length + uptoBulk d + 1
  | (_, d) => uptoBulk d + 1
 end
def uptoSmall : (H : Type) → List (DataW H) → Bool := fun _ ds => decide (uptoBulkAll ds ≤ 1048576)
def OpenSpec.upto (s : _root_.Go.ChangeSpec) : _root_.Go.OpenSpec := { _root_.Go.OpenSpec.ofChange s with cond := some uptoSmall }

/-- 'greatseallaw.StoryCaught', WHERE WHAT IT READS IS OF BULK AT MOST 1048576: true; the input reads as it did. -/
def storyCaughtUptoRow : OpenClaim := { program := "ytdolapjfihjmgaadoor", sum := "f7b0eb5bac8a6bf5f0f527351083941261e1102024ab8647fb63496a1b904f00", func := "greatseal/greatseallaw.StoryCaught", spec := "storyCaught", unfollowed := true, recurses := true, named := ["internal/strconv.uint64pow10", "math/bits.deBruijn32tab", "math/bits.deBruijn64tab"], apart := false, laid := [("math/bits.deBruijn32tab", laid_math_bits_deBruijn32tab), ("math/bits.deBruijn64tab", laid_math_bits_deBruijn64tab), ("internal/strconv.uint64pow10", laid_internal_strconv_uint64pow10)], narrowed := true }
def StoryCaughtUptoSaid : Prop := storyCaughtUptoRow.holds Tryd.pinned (OpenSpec.upto storyCaughtSpec)

/-- 'greatseallaw.WorldRuns', WHERE WHAT IT READS IS OF BULK AT MOST 1048576: true; the input reads as it did. -/
def worldRunsUptoRow : OpenClaim := { program := "ytdolapjfihjmgaadoor", sum := "f7b0eb5bac8a6bf5f0f527351083941261e1102024ab8647fb63496a1b904f00", func := "greatseal/greatseallaw.WorldRuns", spec := "worldRuns", unfollowed := true, recurses := true, named := ["internal/strconv.uint64pow10", "math/bits.deBruijn32tab", "math/bits.deBruijn64tab"], apart := false, laid := [("math/bits.deBruijn32tab", laid_math_bits_deBruijn32tab), ("math/bits.deBruijn64tab", laid_math_bits_deBruijn64tab), ("internal/strconv.uint64pow10", laid_internal_strconv_uint64pow10)], narrowed := true }
def WorldRunsUptoSaid : Prop := worldRunsUptoRow.holds Tryd.pinned (OpenSpec.upto worldRunsSpec)

/-- 'greatseallaw.WorldKeeps', WHERE WHAT IT READS IS OF BULK AT MOST 1048576: true; the input reads as it did. -/
def worldKeepsUptoRow : OpenClaim := { program := "ytdolapjfihjmgaadoor", sum := "f7b0eb5bac8a6bf5f0f527351083941261e1102024ab8647fb63496a1b904f00", func := "greatseal/greatseallaw.WorldKeeps", spec := "worldKeeps", unfollowed := true, recurses := true, named := ["internal/strconv.uint64pow10", "math/bits.deBruijn32tab", "math/bits.deBruijn64tab"], apart := false, laid := [("math/bits.deBruijn32tab", laid_math_bits_deBruijn32tab), ("math/bits.deBruijn64tab", laid_math_bits_deBruijn64tab), ("internal/strconv.uint64pow10", laid_internal_strconv_uint64pow10)], narrowed := true }
def WorldKeepsUptoSaid : Prop := worldKeepsUptoRow.holds Tryd.pinned (OpenSpec.upto worldKeepsSpec)

/-- 'greatseallaw.WorldDoes', WHERE WHAT IT READS IS OF BULK AT MOST 1048576: true; the input reads as it did. -/
def worldDoesUptoRow : OpenClaim := { program := "ytdolapjfihjmgaadoor", sum := "f7b0eb5bac8a6bf5f0f527351083941261e1102024ab8647fb63496a1b904f00", func := "greatseal/greatseallaw.WorldDoes", spec := "worldDoes", unfollowed := true, recurses := true, named := ["internal/strconv.uint64pow10", "math/bits.deBruijn32tab", "math/bits.deBruijn64tab"], apart := false, laid := [("math/bits.deBruijn32tab", laid_math_bits_deBruijn32tab), ("math/bits.deBruijn64tab", laid_math_bits_deBruijn64tab), ("internal/strconv.uint64pow10", laid_internal_strconv_uint64pow10)], narrowed := true }
def WorldDoesUptoSaid : Prop := worldDoesUptoRow.holds Tryd.pinned (OpenSpec.upto worldDoesSpec)

/-- 'greatseallaw.StoryFork', WHERE WHAT IT READS IS OF BULK AT MOST 1048576: true; the input reads as it did. -/
def storyForkUptoRow : OpenClaim := { program := "ytdolapjfihjmgaadoor", sum := "f7b0eb5bac8a6bf5f0f527351083941261e1102024ab8647fb63496a1b904f00", func := "greatseal/greatseallaw.StoryFork", spec := "storyFork", unfollowed := true, recurses := true, named := ["internal/strconv.uint64pow10", "math/bits.deBruijn32tab", "math/bits.deBruijn64tab"], apart := false, laid := [("math/bits.deBruijn32tab", laid_math_bits_deBruijn32tab), ("math/bits.deBruijn64tab", laid_math_bits_deBruijn64tab), ("internal/strconv.uint64pow10", laid_internal_strconv_uint64pow10)], narrowed := true }
def StoryForkUptoSaid : Prop := storyForkUptoRow.holds Tryd.pinned (OpenSpec.upto storyForkSpec)

/-- 'greatseallaw.StoryHonest', WHERE WHAT IT READS IS OF BULK AT MOST 1048576: true; the input reads as it did. -/
def storyHonestUptoRow : OpenClaim := { program := "ytdolapjfihjmgaadoor", sum := "f7b0eb5bac8a6bf5f0f527351083941261e1102024ab8647fb63496a1b904f00", func := "greatseal/greatseallaw.StoryHonest", spec := "storyHonest", unfollowed := true, recurses := true, named := ["internal/strconv.uint64pow10", "math/bits.deBruijn32tab", "math/bits.deBruijn64tab"], apart := false, laid := [("math/bits.deBruijn32tab", laid_math_bits_deBruijn32tab), ("math/bits.deBruijn64tab", laid_math_bits_deBruijn64tab), ("internal/strconv.uint64pow10", laid_internal_strconv_uint64pow10)], narrowed := true }
def StoryHonestUptoSaid : Prop := storyHonestUptoRow.holds Tryd.pinned (OpenSpec.upto storyHonestSpec)

/-- 'greatseallaw.StorySays', WHERE WHAT IT READS IS OF BULK AT MOST 1048576: true; the input reads as it did. -/
def storySaysUptoRow : OpenClaim := { program := "ytdolapjfihjmgaadoor", sum := "f7b0eb5bac8a6bf5f0f527351083941261e1102024ab8647fb63496a1b904f00", func := "greatseal/greatseallaw.StorySays", spec := "storySays", unfollowed := true, recurses := true, named := ["internal/strconv.uint64pow10", "math/bits.deBruijn32tab", "math/bits.deBruijn64tab"], apart := false, laid := [("math/bits.deBruijn32tab", laid_math_bits_deBruijn32tab), ("math/bits.deBruijn64tab", laid_math_bits_deBruijn64tab), ("internal/strconv.uint64pow10", laid_internal_strconv_uint64pow10)], narrowed := true }
def StorySaysUptoSaid : Prop := storySaysUptoRow.holds Tryd.pinned (OpenSpec.upto storySaysSpec)

/-- 'greatseallaw.WorldParts', WHERE WHAT IT READS IS OF BULK AT MOST 1048576: true; the input reads as it did. -/
def worldPartsUptoRow : OpenClaim := { program := "ytdolapjfihjmgaadoor", sum := "f7b0eb5bac8a6bf5f0f527351083941261e1102024ab8647fb63496a1b904f00", func := "greatseal/greatseallaw.WorldParts", spec := "worldParts", unfollowed := true, recurses := true, named := ["internal/strconv.uint64pow10", "math/bits.deBruijn32tab", "math/bits.deBruijn64tab"], apart := false, laid := [("math/bits.deBruijn32tab", laid_math_bits_deBruijn32tab), ("math/bits.deBruijn64tab", laid_math_bits_deBruijn64tab), ("internal/strconv.uint64pow10", laid_internal_strconv_uint64pow10)], narrowed := true }
def WorldPartsUptoSaid : Prop := worldPartsUptoRow.holds Tryd.pinned (OpenSpec.upto worldPartsSpec)

/-- 'greatseallaw.StoryFollows', WHERE WHAT IT READS IS OF BULK AT MOST 1048576: true; the input reads as it did. -/
def storyFollowsUptoRow : OpenClaim := { program := "ytdolapjfihjmgaadoor", sum := "f7b0eb5bac8a6bf5f0f527351083941261e1102024ab8647fb63496a1b904f00", func := "greatseal/greatseallaw.StoryFollows", spec := "storyFollows", unfollowed := true, recurses := true, named := ["internal/strconv.uint64pow10", "math/bits.deBruijn32tab", "math/bits.deBruijn64tab"], apart := false, laid := [("math/bits.deBruijn32tab", laid_math_bits_deBruijn32tab), ("math/bits.deBruijn64tab", laid_math_bits_deBruijn64tab), ("internal/strconv.uint64pow10", laid_internal_strconv_uint64pow10)], narrowed := true }
def StoryFollowsUptoSaid : Prop := storyFollowsUptoRow.holds Tryd.pinned (OpenSpec.upto storyFollowsSpec)

end Rows
end Go.Proofs.YtdolapjfihjmgaaDoor

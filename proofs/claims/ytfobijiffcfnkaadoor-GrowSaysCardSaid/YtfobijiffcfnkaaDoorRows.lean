/-
  NARROWER THAN 'FOR EVERY INPUT', by the rows' own cells (each row's printed sentence says how): TreeSays: laid · TreeOne: laid · TrieTrue: maps, laid · TrieSays: maps, laid · TrieEach: maps, laid · TrieOne: maps, laid · PathTrue: laid · PathOther: laid · GrowTrue: laid · GrowOn: laid · PathSays: laid · GrowSays: laid.
  DERIVED. THE GIVEN ROWS OF THIS SEAT. 12 by the template 'for every input the law returns true; each argument reads behind the call as it read before'; 0 by the template 'total and deterministic' (their statements: YtfobijiffcfnkaaDoorTotals.lean).
  GIVEN WITH THE SEED: the statements are not yours to turn. If you find one false, say at which input.
  Laid BY PROGRAM, IN A SANDBOX (cutbox-rows.mjs): the forced cells as the released guide's own fill.sh prints them over the translation 866859d0c0885083… (all of the seat's roots in one cut). By AI agents, Wed Nov 11 2026. No macro, syntax, notation, axiom, sorry.
-/
import Derived.Test.YtfobijiffcfnkaaDoorChecked
import GoSem.Claim
import GoSem.ClaimJoined
import GoSem.ClaimMapViews
import Derived.JoinedTies
import Derived.KernelRfl
namespace Go.Proofs.YtfobijiffcfnkaaDoor
/- THE CELL 'sum', in the pinned program and in every row, IS THE sha256 OF THE DUMP (.gsa) THAT YtfobijiffcfnkaaDoorProg.lean LOADS. Nothing in Lean hashes anything: it is a label: what it is worth is what the hold of that sum in a sandbox is worth. -/
noncomputable def Tryd.pinned : Pinned := { name := "ytfobijiffcfnkaadoor", sum := "866859d0c08850835de6242a720fbdb9346ca2563108f5f18b73fcd473e636b9", checked := Tryd.checked }
namespace Rows
def none {H : Type} : Left H := { results := [], args := [] }

/- WHAT THE LISTED PACKAGE-LEVEL VARIABLES READ AS WHEN THE CALL BEGINS. Each datum BY PROGRAM (the guide's laid-datum.mjs) off the statement by which the dump's own 'gosem.cut.vars' lays the variable. In a bare row this is a premise. The card (YtfobijiffcfnkaaDoorCards.lean) ties it to the program's text. -/
def laid_math_bits_deBruijn32tab {H : Type} : DataW H := .agg [.lit (.int .u8 0), .lit (.int .u8 1), .lit (.int .u8 28), .lit (.int .u8 2), .lit (.int .u8 29), .lit (.int .u8 14), .lit (.int .u8 24), .lit (.int .u8 3), .lit (.int .u8 30), .lit (.int .u8 22), .lit (.int .u8 20), .lit (.int .u8 15), .lit (.int .u8 25), .lit (.int .u8 17), .lit (.int .u8 4), .lit (.int .u8 8), .lit (.int .u8 31), .lit (.int .u8 27), .lit (.int .u8 13), .lit (.int .u8 23), .lit (.int .u8 21), .lit (.int .u8 19), .lit (.int .u8 16), .lit (.int .u8 7), .lit (.int .u8 26), .lit (.int .u8 12), .lit (.int .u8 18), .lit (.int .u8 6), .lit (.int .u8 11), .lit (.int .u8 5), .lit (.int .u8 10), .lit (.int .u8 9)]
def laid_math_bits_deBruijn64tab {H : Type} : DataW H := .agg [.lit (.int .u8 0), .lit (.int .u8 1), .lit (.int .u8 56), .lit (.int .u8 2), .lit (.int .u8 57), .lit (.int .u8 49), .lit (.int .u8 28), .lit (.int .u8 3), .lit (.int .u8 61), .lit (.int .u8 58), .lit (.int .u8 42), .lit (.int .u8 50), .lit (.int .u8 38), .lit (.int .u8 29), .lit (.int .u8 17), .lit (.int .u8 4), .lit (.int .u8 62), .lit (.int .u8 47), .lit (.int .u8 59), .lit (.int .u8 36), .lit (.int .u8 45), .lit (.int .u8 43), .lit (.int .u8 51), .lit (.int .u8 22), .lit (.int .u8 53), .lit (.int .u8 39), .lit (.int .u8 33), .lit (.int .u8 30), .lit (.int .u8 24), .lit (.int .u8 18), .lit (.int .u8 12), .lit (.int .u8 5), .lit (.int .u8 63), .lit (.int .u8 55), .lit (.int .u8 48), .lit (.int .u8 27), .lit (.int .u8 60), .lit (.int .u8 41), .lit (.int .u8 37), .lit (.int .u8 16), .lit (.int .u8 46), .lit (.int .u8 35), .lit (.int .u8 44), .lit (.int .u8 21), .lit (.int .u8 52), .lit (.int .u8 32), .lit (.int .u8 23), .lit (.int .u8 11), .lit (.int .u8 54), .lit (.int .u8 26), .lit (.int .u8 40), .lit (.int .u8 15), .lit (.int .u8 34), .lit (.int .u8 20), .lit (.int .u8 31), .lit (.int .u8 10), .lit (.int .u8 25), .lit (.int .u8 14), .lit (.int .u8 19), .lit (.int .u8 9), .lit (.int .u8 13), .lit (.int .u8 8), .lit (.int .u8 7), .lit (.int .u8 6)]
def laid_internal_strconv_uint64pow10 {H : Type} : DataW H := .agg [.lit (.int .u64 1), .lit (.int .u64 10), .lit (.int .u64 100), .lit (.int .u64 1000), .lit (.int .u64 10000), .lit (.int .u64 100000), .lit (.int .u64 1000000), .lit (.int .u64 10000000), .lit (.int .u64 100000000), .lit (.int .u64 1000000000), .lit (.int .u64 10000000000), .lit (.int .u64 100000000000), .lit (.int .u64 1000000000000), .lit (.int .u64 10000000000000), .lit (.int .u64 100000000000000), .lit (.int .u64 1000000000000000), .lit (.int .u64 10000000000000000), .lit (.int .u64 100000000000000000), .lit (.int .u64 1000000000000000000), .lit (.int .u64 10000000000000000000)]

/-- 'greatseallaw.TreeSays': WHATEVER THE INPUT: true; the input reads as it did. -/
def treeSaysSpec : ChangeSpec := { name := "treeSays", fn := fun _ => fun
  | [d1, d2] => { results := [.lit (.bool true)], args := [d1, d2] }
  | _ => none }
def treeSaysRow : OpenClaim := { program := "ytfobijiffcfnkaadoor", sum := "866859d0c08850835de6242a720fbdb9346ca2563108f5f18b73fcd473e636b9", func := "greatseal/greatseallaw.TreeSays", spec := "treeSays", unfollowed := true, recurses := true, named := ["internal/strconv.uint64pow10", "math/bits.deBruijn32tab", "math/bits.deBruijn64tab"], apart := false, laid := [("math/bits.deBruijn32tab", laid_math_bits_deBruijn32tab), ("math/bits.deBruijn64tab", laid_math_bits_deBruijn64tab), ("internal/strconv.uint64pow10", laid_internal_strconv_uint64pow10)] }
def TreeSaysSaid : Prop := treeSaysRow.holds Tryd.pinned (OpenSpec.ofChange treeSaysSpec)

/-- ITS FALSE NEIGHBOUR: 'it returns false'. Refute it at one input. -/
def treeSaysWrong : ChangeSpec := { name := "treeSays", fn := fun _ => fun
  | [d1, d2] => { results := [.lit (.bool false)], args := [d1, d2] }
  | _ => none }
def TreeSaysWrongFalsely : Prop := treeSaysRow.holds Tryd.pinned (OpenSpec.ofChange treeSaysWrong)

/-- 'greatseallaw.TreeOne': WHATEVER THE INPUT: true; the input reads as it did. -/
def treeOneSpec : ChangeSpec := { name := "treeOne", fn := fun _ => fun
  | [d1, d2, d3, d4] => { results := [.lit (.bool true)], args := [d1, d2, d3, d4] }
  | _ => none }
def treeOneRow : OpenClaim := { program := "ytfobijiffcfnkaadoor", sum := "866859d0c08850835de6242a720fbdb9346ca2563108f5f18b73fcd473e636b9", func := "greatseal/greatseallaw.TreeOne", spec := "treeOne", recurses := true, named := ["internal/strconv.uint64pow10", "math/bits.deBruijn32tab", "math/bits.deBruijn64tab"], apart := false, laid := [("math/bits.deBruijn32tab", laid_math_bits_deBruijn32tab), ("math/bits.deBruijn64tab", laid_math_bits_deBruijn64tab), ("internal/strconv.uint64pow10", laid_internal_strconv_uint64pow10)] }
def TreeOneSaid : Prop := treeOneRow.holds Tryd.pinned (OpenSpec.ofChange treeOneSpec)

/-- ITS FALSE NEIGHBOUR: 'it returns false'. Refute it at one input. -/
def treeOneWrong : ChangeSpec := { name := "treeOne", fn := fun _ => fun
  | [d1, d2, d3, d4] => { results := [.lit (.bool false)], args := [d1, d2, d3, d4] }
  | _ => none }
def TreeOneWrongFalsely : Prop := treeOneRow.holds Tryd.pinned (OpenSpec.ofChange treeOneWrong)

/-- 'greatseallaw.TrieTrue': WHATEVER THE INPUT: true; the input reads as it did. -/
def trieTrueSpec : ChangeSpec := { name := "trieTrue", fn := fun _ => fun
  | [d1, d2, d3, d4, d5] => { results := [.lit (.bool true)], args := [d1, d2, d3, d4, d5] }
  | _ => none }
def trieTrueRow : OpenClaim := { program := "ytfobijiffcfnkaadoor", sum := "866859d0c08850835de6242a720fbdb9346ca2563108f5f18b73fcd473e636b9", func := "greatseal/greatseallaw.TrieTrue", spec := "trieTrue", recurses := true, named := ["internal/strconv.uint64pow10", "math/bits.deBruijn32tab", "math/bits.deBruijn64tab"], maps := true, apart := false, laid := [("math/bits.deBruijn32tab", laid_math_bits_deBruijn32tab), ("math/bits.deBruijn64tab", laid_math_bits_deBruijn64tab), ("internal/strconv.uint64pow10", laid_internal_strconv_uint64pow10)] }
def TrieTrueSaid : Prop := trieTrueRow.holds Tryd.pinned (OpenSpec.ofChange trieTrueSpec)

/-- ITS FALSE NEIGHBOUR: 'it returns false'. Refute it at one input. -/
def trieTrueWrong : ChangeSpec := { name := "trieTrue", fn := fun _ => fun
  | [d1, d2, d3, d4, d5] => { results := [.lit (.bool false)], args := [d1, d2, d3, d4, d5] }
  | _ => none }
def TrieTrueWrongFalsely : Prop := trieTrueRow.holds Tryd.pinned (OpenSpec.ofChange trieTrueWrong)

/-- 'greatseallaw.TrieSays': WHATEVER THE INPUT: true; the input reads as it did. -/
def trieSaysSpec : ChangeSpec := { name := "trieSays", fn := fun _ => fun
  | [d1, d2, d3, d4, d5, d6] => { results := [.lit (.bool true)], args := [d1, d2, d3, d4, d5, d6] }
  | _ => none }
def trieSaysRow : OpenClaim := { program := "ytfobijiffcfnkaadoor", sum := "866859d0c08850835de6242a720fbdb9346ca2563108f5f18b73fcd473e636b9", func := "greatseal/greatseallaw.TrieSays", spec := "trieSays", recurses := true, named := ["internal/strconv.uint64pow10", "math/bits.deBruijn32tab", "math/bits.deBruijn64tab"], maps := true, apart := false, laid := [("math/bits.deBruijn32tab", laid_math_bits_deBruijn32tab), ("math/bits.deBruijn64tab", laid_math_bits_deBruijn64tab), ("internal/strconv.uint64pow10", laid_internal_strconv_uint64pow10)] }
def TrieSaysSaid : Prop := trieSaysRow.holds Tryd.pinned (OpenSpec.ofChange trieSaysSpec)

/-- ITS FALSE NEIGHBOUR: 'it returns false'. Refute it at one input. -/
def trieSaysWrong : ChangeSpec := { name := "trieSays", fn := fun _ => fun
  | [d1, d2, d3, d4, d5, d6] => { results := [.lit (.bool false)], args := [d1, d2, d3, d4, d5, d6] }
  | _ => none }
def TrieSaysWrongFalsely : Prop := trieSaysRow.holds Tryd.pinned (OpenSpec.ofChange trieSaysWrong)

/-- 'greatseallaw.TrieEach': WHATEVER THE INPUT: true; the input reads as it did. -/
def trieEachSpec : ChangeSpec := { name := "trieEach", fn := fun _ => fun
  | [d1, d2, d3] => { results := [.lit (.bool true)], args := [d1, d2, d3] }
  | _ => none }
def trieEachRow : OpenClaim := { program := "ytfobijiffcfnkaadoor", sum := "866859d0c08850835de6242a720fbdb9346ca2563108f5f18b73fcd473e636b9", func := "greatseal/greatseallaw.TrieEach", spec := "trieEach", recurses := true, named := ["internal/strconv.uint64pow10", "math/bits.deBruijn32tab", "math/bits.deBruijn64tab"], maps := true, apart := false, laid := [("math/bits.deBruijn32tab", laid_math_bits_deBruijn32tab), ("math/bits.deBruijn64tab", laid_math_bits_deBruijn64tab), ("internal/strconv.uint64pow10", laid_internal_strconv_uint64pow10)] }
def TrieEachSaid : Prop := trieEachRow.holds Tryd.pinned (OpenSpec.ofChange trieEachSpec)

/-- ITS FALSE NEIGHBOUR: 'it returns false'. Refute it at one input. -/
def trieEachWrong : ChangeSpec := { name := "trieEach", fn := fun _ => fun
  | [d1, d2, d3] => { results := [.lit (.bool false)], args := [d1, d2, d3] }
  | _ => none }
def TrieEachWrongFalsely : Prop := trieEachRow.holds Tryd.pinned (OpenSpec.ofChange trieEachWrong)

/-- 'greatseallaw.TrieOne': WHATEVER THE INPUT: true; the input reads as it did. -/
def trieOneSpec : ChangeSpec := { name := "trieOne", fn := fun _ => fun
  | [d1, d2, d3, d4] => { results := [.lit (.bool true)], args := [d1, d2, d3, d4] }
  | _ => none }
def trieOneRow : OpenClaim := { program := "ytfobijiffcfnkaadoor", sum := "866859d0c08850835de6242a720fbdb9346ca2563108f5f18b73fcd473e636b9", func := "greatseal/greatseallaw.TrieOne", spec := "trieOne", recurses := true, named := ["internal/strconv.uint64pow10", "math/bits.deBruijn32tab", "math/bits.deBruijn64tab"], maps := true, apart := false, laid := [("math/bits.deBruijn32tab", laid_math_bits_deBruijn32tab), ("math/bits.deBruijn64tab", laid_math_bits_deBruijn64tab), ("internal/strconv.uint64pow10", laid_internal_strconv_uint64pow10)] }
def TrieOneSaid : Prop := trieOneRow.holds Tryd.pinned (OpenSpec.ofChange trieOneSpec)

/-- ITS FALSE NEIGHBOUR: 'it returns false'. Refute it at one input. -/
def trieOneWrong : ChangeSpec := { name := "trieOne", fn := fun _ => fun
  | [d1, d2, d3, d4] => { results := [.lit (.bool false)], args := [d1, d2, d3, d4] }
  | _ => none }
def TrieOneWrongFalsely : Prop := trieOneRow.holds Tryd.pinned (OpenSpec.ofChange trieOneWrong)

/-- 'greatseallaw.PathTrue': WHATEVER THE INPUT: true; the input reads as it did. -/
def pathTrueSpec : ChangeSpec := { name := "pathTrue", fn := fun _ => fun
  | [d1, d2, d3, d4] => { results := [.lit (.bool true)], args := [d1, d2, d3, d4] }
  | _ => none }
def pathTrueRow : OpenClaim := { program := "ytfobijiffcfnkaadoor", sum := "866859d0c08850835de6242a720fbdb9346ca2563108f5f18b73fcd473e636b9", func := "greatseal/greatseallaw.PathTrue", spec := "pathTrue", recurses := true, named := ["internal/strconv.uint64pow10", "math/bits.deBruijn32tab", "math/bits.deBruijn64tab"], apart := false, laid := [("math/bits.deBruijn32tab", laid_math_bits_deBruijn32tab), ("math/bits.deBruijn64tab", laid_math_bits_deBruijn64tab), ("internal/strconv.uint64pow10", laid_internal_strconv_uint64pow10)] }
def PathTrueSaid : Prop := pathTrueRow.holds Tryd.pinned (OpenSpec.ofChange pathTrueSpec)

/-- ITS FALSE NEIGHBOUR: 'it returns false'. Refute it at one input. -/
def pathTrueWrong : ChangeSpec := { name := "pathTrue", fn := fun _ => fun
  | [d1, d2, d3, d4] => { results := [.lit (.bool false)], args := [d1, d2, d3, d4] }
  | _ => none }
def PathTrueWrongFalsely : Prop := pathTrueRow.holds Tryd.pinned (OpenSpec.ofChange pathTrueWrong)

/-- 'greatseallaw.PathOther': WHATEVER THE INPUT: true; the input reads as it did. -/
def pathOtherSpec : ChangeSpec := { name := "pathOther", fn := fun _ => fun
  | [d1, d2, d3] => { results := [.lit (.bool true)], args := [d1, d2, d3] }
  | _ => none }
def pathOtherRow : OpenClaim := { program := "ytfobijiffcfnkaadoor", sum := "866859d0c08850835de6242a720fbdb9346ca2563108f5f18b73fcd473e636b9", func := "greatseal/greatseallaw.PathOther", spec := "pathOther", recurses := true, named := ["internal/strconv.uint64pow10", "math/bits.deBruijn32tab", "math/bits.deBruijn64tab"], apart := false, laid := [("math/bits.deBruijn32tab", laid_math_bits_deBruijn32tab), ("math/bits.deBruijn64tab", laid_math_bits_deBruijn64tab), ("internal/strconv.uint64pow10", laid_internal_strconv_uint64pow10)] }
def PathOtherSaid : Prop := pathOtherRow.holds Tryd.pinned (OpenSpec.ofChange pathOtherSpec)

/-- ITS FALSE NEIGHBOUR: 'it returns false'. Refute it at one input. -/
def pathOtherWrong : ChangeSpec := { name := "pathOther", fn := fun _ => fun
  | [d1, d2, d3] => { results := [.lit (.bool false)], args := [d1, d2, d3] }
  | _ => none }
def PathOtherWrongFalsely : Prop := pathOtherRow.holds Tryd.pinned (OpenSpec.ofChange pathOtherWrong)

/-- 'greatseallaw.GrowTrue': WHATEVER THE INPUT: true; the input reads as it did. -/
def growTrueSpec : ChangeSpec := { name := "growTrue", fn := fun _ => fun
  | [d1, d2, d3, d4] => { results := [.lit (.bool true)], args := [d1, d2, d3, d4] }
  | _ => none }
def growTrueRow : OpenClaim := { program := "ytfobijiffcfnkaadoor", sum := "866859d0c08850835de6242a720fbdb9346ca2563108f5f18b73fcd473e636b9", func := "greatseal/greatseallaw.GrowTrue", spec := "growTrue", recurses := true, named := ["internal/strconv.uint64pow10", "math/bits.deBruijn32tab", "math/bits.deBruijn64tab"], apart := false, laid := [("math/bits.deBruijn32tab", laid_math_bits_deBruijn32tab), ("math/bits.deBruijn64tab", laid_math_bits_deBruijn64tab), ("internal/strconv.uint64pow10", laid_internal_strconv_uint64pow10)] }
def GrowTrueSaid : Prop := growTrueRow.holds Tryd.pinned (OpenSpec.ofChange growTrueSpec)

/-- ITS FALSE NEIGHBOUR: 'it returns false'. Refute it at one input. -/
def growTrueWrong : ChangeSpec := { name := "growTrue", fn := fun _ => fun
  | [d1, d2, d3, d4] => { results := [.lit (.bool false)], args := [d1, d2, d3, d4] }
  | _ => none }
def GrowTrueWrongFalsely : Prop := growTrueRow.holds Tryd.pinned (OpenSpec.ofChange growTrueWrong)

/-- 'greatseallaw.GrowOn': WHATEVER THE INPUT: true; the input reads as it did. -/
def growOnSpec : ChangeSpec := { name := "growOn", fn := fun _ => fun
  | [d1, d2, d3] => { results := [.lit (.bool true)], args := [d1, d2, d3] }
  | _ => none }
def growOnRow : OpenClaim := { program := "ytfobijiffcfnkaadoor", sum := "866859d0c08850835de6242a720fbdb9346ca2563108f5f18b73fcd473e636b9", func := "greatseal/greatseallaw.GrowOn", spec := "growOn", recurses := true, named := ["internal/strconv.uint64pow10", "math/bits.deBruijn32tab", "math/bits.deBruijn64tab"], apart := false, laid := [("math/bits.deBruijn32tab", laid_math_bits_deBruijn32tab), ("math/bits.deBruijn64tab", laid_math_bits_deBruijn64tab), ("internal/strconv.uint64pow10", laid_internal_strconv_uint64pow10)] }
def GrowOnSaid : Prop := growOnRow.holds Tryd.pinned (OpenSpec.ofChange growOnSpec)

/-- ITS FALSE NEIGHBOUR: 'it returns false'. Refute it at one input. -/
def growOnWrong : ChangeSpec := { name := "growOn", fn := fun _ => fun
  | [d1, d2, d3] => { results := [.lit (.bool false)], args := [d1, d2, d3] }
  | _ => none }
def GrowOnWrongFalsely : Prop := growOnRow.holds Tryd.pinned (OpenSpec.ofChange growOnWrong)

/-- 'greatseallaw.PathSays': WHATEVER THE INPUT: true; the input reads as it did. -/
def pathSaysSpec : ChangeSpec := { name := "pathSays", fn := fun _ => fun
  | [d1, d2, d3, d4, d5, d6] => { results := [.lit (.bool true)], args := [d1, d2, d3, d4, d5, d6] }
  | _ => none }
def pathSaysRow : OpenClaim := { program := "ytfobijiffcfnkaadoor", sum := "866859d0c08850835de6242a720fbdb9346ca2563108f5f18b73fcd473e636b9", func := "greatseal/greatseallaw.PathSays", spec := "pathSays", unfollowed := true, recurses := true, named := ["internal/strconv.uint64pow10", "math/bits.deBruijn32tab", "math/bits.deBruijn64tab"], apart := false, laid := [("math/bits.deBruijn32tab", laid_math_bits_deBruijn32tab), ("math/bits.deBruijn64tab", laid_math_bits_deBruijn64tab), ("internal/strconv.uint64pow10", laid_internal_strconv_uint64pow10)] }
def PathSaysSaid : Prop := pathSaysRow.holds Tryd.pinned (OpenSpec.ofChange pathSaysSpec)

/-- ITS FALSE NEIGHBOUR: 'it returns false'. Refute it at one input. -/
def pathSaysWrong : ChangeSpec := { name := "pathSays", fn := fun _ => fun
  | [d1, d2, d3, d4, d5, d6] => { results := [.lit (.bool false)], args := [d1, d2, d3, d4, d5, d6] }
  | _ => none }
def PathSaysWrongFalsely : Prop := pathSaysRow.holds Tryd.pinned (OpenSpec.ofChange pathSaysWrong)

/-- 'greatseallaw.GrowSays': WHATEVER THE INPUT: true; the input reads as it did. -/
def growSaysSpec : ChangeSpec := { name := "growSays", fn := fun _ => fun
  | [d1, d2, d3, d4, d5, d6] => { results := [.lit (.bool true)], args := [d1, d2, d3, d4, d5, d6] }
  | _ => none }
def growSaysRow : OpenClaim := { program := "ytfobijiffcfnkaadoor", sum := "866859d0c08850835de6242a720fbdb9346ca2563108f5f18b73fcd473e636b9", func := "greatseal/greatseallaw.GrowSays", spec := "growSays", unfollowed := true, recurses := true, named := ["internal/strconv.uint64pow10", "math/bits.deBruijn32tab", "math/bits.deBruijn64tab"], apart := false, laid := [("math/bits.deBruijn32tab", laid_math_bits_deBruijn32tab), ("math/bits.deBruijn64tab", laid_math_bits_deBruijn64tab), ("internal/strconv.uint64pow10", laid_internal_strconv_uint64pow10)] }
def GrowSaysSaid : Prop := growSaysRow.holds Tryd.pinned (OpenSpec.ofChange growSaysSpec)

/-- ITS FALSE NEIGHBOUR: 'it returns false'. Refute it at one input. -/
def growSaysWrong : ChangeSpec := { name := "growSays", fn := fun _ => fun
  | [d1, d2, d3, d4, d5, d6] => { results := [.lit (.bool false)], args := [d1, d2, d3, d4, d5, d6] }
  | _ => none }
def GrowSaysWrongFalsely : Prop := growSaysRow.holds Tryd.pinned (OpenSpec.ofChange growSaysWrong)

/- THE SECOND FORM. 'bulk': how many values and letters a reading holds, each counted each time it is reached (what is shared counts as often as it is met; a slice's spare places count too). A statement '..UptoSaid' is the law's where the arguments, and the package variables that the reading takes, are together of bulk at most 1048576: NARROWER than '..Said'. Prove '..Said' where nothing that the law and all that it calls make is longer than what came in: it says more and counts as full. Else prove '..UptoSaid'. A law counts once. -/
mutual
def uptoBulk {H : Type} : DataW H → Nat
  | .lit (.string bytes) => bytes.length + 1
  | .lit _ => 1
  | .nil => 1
  | .ptr d => uptoBulk d + 1
  | .slice elems spare => uptoBulkAll elems + uptoBulkAll spare + 1
  | .agg parts => uptoBulkAll parts + 1
  | .iface _ d => uptoBulk d + 1
  | .map entries => uptoBulkEntries entries + 1
  | .held _ => 1
def uptoBulkAll {H : Type} : List (DataW H) → Nat
  | [] => 0
  | d :: r => uptoBulk d + uptoBulkAll r
def uptoBulkEntries {H : Type} : List (Lit × DataW H) → Nat
  | [] => 0
  | x :: r => uptoBulkEntry x + uptoBulkEntries r
def uptoBulkEntry {H : Type} : Lit × DataW H → Nat
  | (.string bytes, d) => bytes.length + uptoBulk d + 1
  | (_, d) => uptoBulk d + 1
 end
def uptoSmall : (H : Type) → List (DataW H) → Bool := fun _ ds => decide (uptoBulkAll ds ≤ 1048576)
def OpenSpec.upto (s : _root_.Go.ChangeSpec) : _root_.Go.OpenSpec := { _root_.Go.OpenSpec.ofChange s with cond := some uptoSmall }

/-- 'greatseallaw.TreeSays', WHERE WHAT IT READS IS OF BULK AT MOST 1048576: true; the input reads as it did. -/
def treeSaysUptoRow : OpenClaim := { program := "ytfobijiffcfnkaadoor", sum := "866859d0c08850835de6242a720fbdb9346ca2563108f5f18b73fcd473e636b9", func := "greatseal/greatseallaw.TreeSays", spec := "treeSays", unfollowed := true, recurses := true, named := ["internal/strconv.uint64pow10", "math/bits.deBruijn32tab", "math/bits.deBruijn64tab"], apart := false, laid := [("math/bits.deBruijn32tab", laid_math_bits_deBruijn32tab), ("math/bits.deBruijn64tab", laid_math_bits_deBruijn64tab), ("internal/strconv.uint64pow10", laid_internal_strconv_uint64pow10)], narrowed := true }
def TreeSaysUptoSaid : Prop := treeSaysUptoRow.holds Tryd.pinned (OpenSpec.upto treeSaysSpec)

/-- 'greatseallaw.TreeOne', WHERE WHAT IT READS IS OF BULK AT MOST 1048576: true; the input reads as it did. -/
def treeOneUptoRow : OpenClaim := { program := "ytfobijiffcfnkaadoor", sum := "866859d0c08850835de6242a720fbdb9346ca2563108f5f18b73fcd473e636b9", func := "greatseal/greatseallaw.TreeOne", spec := "treeOne", recurses := true, named := ["internal/strconv.uint64pow10", "math/bits.deBruijn32tab", "math/bits.deBruijn64tab"], apart := false, laid := [("math/bits.deBruijn32tab", laid_math_bits_deBruijn32tab), ("math/bits.deBruijn64tab", laid_math_bits_deBruijn64tab), ("internal/strconv.uint64pow10", laid_internal_strconv_uint64pow10)], narrowed := true }
def TreeOneUptoSaid : Prop := treeOneUptoRow.holds Tryd.pinned (OpenSpec.upto treeOneSpec)

/-- 'greatseallaw.TrieTrue', WHERE WHAT IT READS IS OF BULK AT MOST 1048576: true; the input reads as it did. -/
def trieTrueUptoRow : OpenClaim := { program := "ytfobijiffcfnkaadoor", sum := "866859d0c08850835de6242a720fbdb9346ca2563108f5f18b73fcd473e636b9", func := "greatseal/greatseallaw.TrieTrue", spec := "trieTrue", recurses := true, named := ["internal/strconv.uint64pow10", "math/bits.deBruijn32tab", "math/bits.deBruijn64tab"], maps := true, apart := false, laid := [("math/bits.deBruijn32tab", laid_math_bits_deBruijn32tab), ("math/bits.deBruijn64tab", laid_math_bits_deBruijn64tab), ("internal/strconv.uint64pow10", laid_internal_strconv_uint64pow10)], narrowed := true }
def TrieTrueUptoSaid : Prop := trieTrueUptoRow.holds Tryd.pinned (OpenSpec.upto trieTrueSpec)

/-- 'greatseallaw.TrieSays', WHERE WHAT IT READS IS OF BULK AT MOST 1048576: true; the input reads as it did. -/
def trieSaysUptoRow : OpenClaim := { program := "ytfobijiffcfnkaadoor", sum := "866859d0c08850835de6242a720fbdb9346ca2563108f5f18b73fcd473e636b9", func := "greatseal/greatseallaw.TrieSays", spec := "trieSays", recurses := true, named := ["internal/strconv.uint64pow10", "math/bits.deBruijn32tab", "math/bits.deBruijn64tab"], maps := true, apart := false, laid := [("math/bits.deBruijn32tab", laid_math_bits_deBruijn32tab), ("math/bits.deBruijn64tab", laid_math_bits_deBruijn64tab), ("internal/strconv.uint64pow10", laid_internal_strconv_uint64pow10)], narrowed := true }
def TrieSaysUptoSaid : Prop := trieSaysUptoRow.holds Tryd.pinned (OpenSpec.upto trieSaysSpec)

/-- 'greatseallaw.TrieEach', WHERE WHAT IT READS IS OF BULK AT MOST 1048576: true; the input reads as it did. -/
def trieEachUptoRow : OpenClaim := { program := "ytfobijiffcfnkaadoor", sum := "866859d0c08850835de6242a720fbdb9346ca2563108f5f18b73fcd473e636b9", func := "greatseal/greatseallaw.TrieEach", spec := "trieEach", recurses := true, named := ["internal/strconv.uint64pow10", "math/bits.deBruijn32tab", "math/bits.deBruijn64tab"], maps := true, apart := false, laid := [("math/bits.deBruijn32tab", laid_math_bits_deBruijn32tab), ("math/bits.deBruijn64tab", laid_math_bits_deBruijn64tab), ("internal/strconv.uint64pow10", laid_internal_strconv_uint64pow10)], narrowed := true }
def TrieEachUptoSaid : Prop := trieEachUptoRow.holds Tryd.pinned (OpenSpec.upto trieEachSpec)

/-- 'greatseallaw.TrieOne', WHERE WHAT IT READS IS OF BULK AT MOST 1048576: true; the input reads as it did. -/
def trieOneUptoRow : OpenClaim := { program := "ytfobijiffcfnkaadoor", sum := "866859d0c08850835de6242a720fbdb9346ca2563108f5f18b73fcd473e636b9", func := "greatseal/greatseallaw.TrieOne", spec := "trieOne", recurses := true, named := ["internal/strconv.uint64pow10", "math/bits.deBruijn32tab", "math/bits.deBruijn64tab"], maps := true, apart := false, laid := [("math/bits.deBruijn32tab", laid_math_bits_deBruijn32tab), ("math/bits.deBruijn64tab", laid_math_bits_deBruijn64tab), ("internal/strconv.uint64pow10", laid_internal_strconv_uint64pow10)], narrowed := true }
def TrieOneUptoSaid : Prop := trieOneUptoRow.holds Tryd.pinned (OpenSpec.upto trieOneSpec)

/-- 'greatseallaw.PathTrue', WHERE WHAT IT READS IS OF BULK AT MOST 1048576: true; the input reads as it did. -/
def pathTrueUptoRow : OpenClaim := { program := "ytfobijiffcfnkaadoor", sum := "866859d0c08850835de6242a720fbdb9346ca2563108f5f18b73fcd473e636b9", func := "greatseal/greatseallaw.PathTrue", spec := "pathTrue", recurses := true, named := ["internal/strconv.uint64pow10", "math/bits.deBruijn32tab", "math/bits.deBruijn64tab"], apart := false, laid := [("math/bits.deBruijn32tab", laid_math_bits_deBruijn32tab), ("math/bits.deBruijn64tab", laid_math_bits_deBruijn64tab), ("internal/strconv.uint64pow10", laid_internal_strconv_uint64pow10)], narrowed := true }
def PathTrueUptoSaid : Prop := pathTrueUptoRow.holds Tryd.pinned (OpenSpec.upto pathTrueSpec)

/-- 'greatseallaw.PathOther', WHERE WHAT IT READS IS OF BULK AT MOST 1048576: true; the input reads as it did. -/
def pathOtherUptoRow : OpenClaim := { program := "ytfobijiffcfnkaadoor", sum := "866859d0c08850835de6242a720fbdb9346ca2563108f5f18b73fcd473e636b9", func := "greatseal/greatseallaw.PathOther", spec := "pathOther", recurses := true, named := ["internal/strconv.uint64pow10", "math/bits.deBruijn32tab", "math/bits.deBruijn64tab"], apart := false, laid := [("math/bits.deBruijn32tab", laid_math_bits_deBruijn32tab), ("math/bits.deBruijn64tab", laid_math_bits_deBruijn64tab), ("internal/strconv.uint64pow10", laid_internal_strconv_uint64pow10)], narrowed := true }
def PathOtherUptoSaid : Prop := pathOtherUptoRow.holds Tryd.pinned (OpenSpec.upto pathOtherSpec)

/-- 'greatseallaw.GrowTrue', WHERE WHAT IT READS IS OF BULK AT MOST 1048576: true; the input reads as it did. -/
def growTrueUptoRow : OpenClaim := { program := "ytfobijiffcfnkaadoor", sum := "866859d0c08850835de6242a720fbdb9346ca2563108f5f18b73fcd473e636b9", func := "greatseal/greatseallaw.GrowTrue", spec := "growTrue", recurses := true, named := ["internal/strconv.uint64pow10", "math/bits.deBruijn32tab", "math/bits.deBruijn64tab"], apart := false, laid := [("math/bits.deBruijn32tab", laid_math_bits_deBruijn32tab), ("math/bits.deBruijn64tab", laid_math_bits_deBruijn64tab), ("internal/strconv.uint64pow10", laid_internal_strconv_uint64pow10)], narrowed := true }
def GrowTrueUptoSaid : Prop := growTrueUptoRow.holds Tryd.pinned (OpenSpec.upto growTrueSpec)

/-- 'greatseallaw.GrowOn', WHERE WHAT IT READS IS OF BULK AT MOST 1048576: true; the input reads as it did. -/
def growOnUptoRow : OpenClaim := { program := "ytfobijiffcfnkaadoor", sum := "866859d0c08850835de6242a720fbdb9346ca2563108f5f18b73fcd473e636b9", func := "greatseal/greatseallaw.GrowOn", spec := "growOn", recurses := true, named := ["internal/strconv.uint64pow10", "math/bits.deBruijn32tab", "math/bits.deBruijn64tab"], apart := false, laid := [("math/bits.deBruijn32tab", laid_math_bits_deBruijn32tab), ("math/bits.deBruijn64tab", laid_math_bits_deBruijn64tab), ("internal/strconv.uint64pow10", laid_internal_strconv_uint64pow10)], narrowed := true }
def GrowOnUptoSaid : Prop := growOnUptoRow.holds Tryd.pinned (OpenSpec.upto growOnSpec)

/-- 'greatseallaw.PathSays', WHERE WHAT IT READS IS OF BULK AT MOST 1048576: true; the input reads as it did. -/
def pathSaysUptoRow : OpenClaim := { program := "ytfobijiffcfnkaadoor", sum := "866859d0c08850835de6242a720fbdb9346ca2563108f5f18b73fcd473e636b9", func := "greatseal/greatseallaw.PathSays", spec := "pathSays", unfollowed := true, recurses := true, named := ["internal/strconv.uint64pow10", "math/bits.deBruijn32tab", "math/bits.deBruijn64tab"], apart := false, laid := [("math/bits.deBruijn32tab", laid_math_bits_deBruijn32tab), ("math/bits.deBruijn64tab", laid_math_bits_deBruijn64tab), ("internal/strconv.uint64pow10", laid_internal_strconv_uint64pow10)], narrowed := true }
def PathSaysUptoSaid : Prop := pathSaysUptoRow.holds Tryd.pinned (OpenSpec.upto pathSaysSpec)

/-- 'greatseallaw.GrowSays', WHERE WHAT IT READS IS OF BULK AT MOST 1048576: true; the input reads as it did. -/
def growSaysUptoRow : OpenClaim := { program := "ytfobijiffcfnkaadoor", sum := "866859d0c08850835de6242a720fbdb9346ca2563108f5f18b73fcd473e636b9", func := "greatseal/greatseallaw.GrowSays", spec := "growSays", unfollowed := true, recurses := true, named := ["internal/strconv.uint64pow10", "math/bits.deBruijn32tab", "math/bits.deBruijn64tab"], apart := false, laid := [("math/bits.deBruijn32tab", laid_math_bits_deBruijn32tab), ("math/bits.deBruijn64tab", laid_math_bits_deBruijn64tab), ("internal/strconv.uint64pow10", laid_internal_strconv_uint64pow10)], narrowed := true }
def GrowSaysUptoSaid : Prop := growSaysUptoRow.holds Tryd.pinned (OpenSpec.upto growSaysSpec)

end Rows
end Go.Proofs.YtfobijiffcfnkaaDoor

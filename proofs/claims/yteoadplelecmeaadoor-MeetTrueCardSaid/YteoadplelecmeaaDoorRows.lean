/-
  NARROWER THAN 'FOR EVERY INPUT', by the rows' own cells (each row's printed sentence says how): BookOne: laid · BookBegins: laid · BookSays: laid · ShowSays: laid · MeetSays: laid · MeetTrue: laid · ShowTrue: laid · ClientFollows: laid · ClientSays: laid · ClientTrue: laid · ClientAsks: laid.
  DERIVED. THE GIVEN ROWS OF THIS SEAT. 11 by the template 'for every input the law returns true; each argument reads behind the call as it read before'; 0 by the template 'total and deterministic' (their statements: YteoadplelecmeaaDoorTotals.lean).
  GIVEN WITH THE SEED: the statements are not yours to turn. If you find one false, say at which input.
  Laid BY PROGRAM, IN A SANDBOX (cutbox-rows.mjs): the forced cells as the released guide's own fill.sh prints them over the translation a5d8e48ac0ec7ca3… (all of the seat's roots in one cut). By AI agents, Wed Nov 11 2026. No macro, syntax, notation, axiom, sorry.
-/
import Derived.Test.YteoadplelecmeaaDoorChecked
import GoSem.Claim
import GoSem.ClaimJoined
import GoSem.ClaimMapViews
import Derived.JoinedTies
import Derived.KernelRfl
namespace Go.Proofs.YteoadplelecmeaaDoor
/- THE CELL 'sum', in the pinned program and in every row, IS THE sha256 OF THE DUMP (.gsa) THAT YteoadplelecmeaaDoorProg.lean LOADS. Nothing in Lean hashes anything: it is a label: what it is worth is what the hold of that sum in a sandbox is worth. -/
noncomputable def Tryd.pinned : Pinned := { name := "yteoadplelecmeaadoor", sum := "a5d8e48ac0ec7ca3fce08aa304e677f5a3d2d7830d722442bc7713b7a04c1fe0", checked := Tryd.checked }
namespace Rows
def none {H : Type} : Left H := { results := [], args := [] }

/- WHAT THE LISTED PACKAGE-LEVEL VARIABLES READ AS WHEN THE CALL BEGINS. Each datum BY PROGRAM (the guide's laid-datum.mjs) off the statement by which the dump's own 'gosem.cut.vars' lays the variable. In a bare row this is a premise. The card (YteoadplelecmeaaDoorCards.lean) ties it to the program's text. -/
def laid_math_bits_deBruijn32tab {H : Type} : DataW H := .agg [.lit (.int .u8 0), .lit (.int .u8 1), .lit (.int .u8 28), .lit (.int .u8 2), .lit (.int .u8 29), .lit (.int .u8 14), .lit (.int .u8 24), .lit (.int .u8 3), .lit (.int .u8 30), .lit (.int .u8 22), .lit (.int .u8 20), .lit (.int .u8 15), .lit (.int .u8 25), .lit (.int .u8 17), .lit (.int .u8 4), .lit (.int .u8 8), .lit (.int .u8 31), .lit (.int .u8 27), .lit (.int .u8 13), .lit (.int .u8 23), .lit (.int .u8 21), .lit (.int .u8 19), .lit (.int .u8 16), .lit (.int .u8 7), .lit (.int .u8 26), .lit (.int .u8 12), .lit (.int .u8 18), .lit (.int .u8 6), .lit (.int .u8 11), .lit (.int .u8 5), .lit (.int .u8 10), .lit (.int .u8 9)]
def laid_math_bits_deBruijn64tab {H : Type} : DataW H := .agg [.lit (.int .u8 0), .lit (.int .u8 1), .lit (.int .u8 56), .lit (.int .u8 2), .lit (.int .u8 57), .lit (.int .u8 49), .lit (.int .u8 28), .lit (.int .u8 3), .lit (.int .u8 61), .lit (.int .u8 58), .lit (.int .u8 42), .lit (.int .u8 50), .lit (.int .u8 38), .lit (.int .u8 29), .lit (.int .u8 17), .lit (.int .u8 4), .lit (.int .u8 62), .lit (.int .u8 47), .lit (.int .u8 59), .lit (.int .u8 36), .lit (.int .u8 45), .lit (.int .u8 43), .lit (.int .u8 51), .lit (.int .u8 22), .lit (.int .u8 53), .lit (.int .u8 39), .lit (.int .u8 33), .lit (.int .u8 30), .lit (.int .u8 24), .lit (.int .u8 18), .lit (.int .u8 12), .lit (.int .u8 5), .lit (.int .u8 63), .lit (.int .u8 55), .lit (.int .u8 48), .lit (.int .u8 27), .lit (.int .u8 60), .lit (.int .u8 41), .lit (.int .u8 37), .lit (.int .u8 16), .lit (.int .u8 46), .lit (.int .u8 35), .lit (.int .u8 44), .lit (.int .u8 21), .lit (.int .u8 52), .lit (.int .u8 32), .lit (.int .u8 23), .lit (.int .u8 11), .lit (.int .u8 54), .lit (.int .u8 26), .lit (.int .u8 40), .lit (.int .u8 15), .lit (.int .u8 34), .lit (.int .u8 20), .lit (.int .u8 31), .lit (.int .u8 10), .lit (.int .u8 25), .lit (.int .u8 14), .lit (.int .u8 19), .lit (.int .u8 9), .lit (.int .u8 13), .lit (.int .u8 8), .lit (.int .u8 7), .lit (.int .u8 6)]
def laid_internal_strconv_uint64pow10 {H : Type} : DataW H := .agg [.lit (.int .u64 1), .lit (.int .u64 10), .lit (.int .u64 100), .lit (.int .u64 1000), .lit (.int .u64 10000), .lit (.int .u64 100000), .lit (.int .u64 1000000), .lit (.int .u64 10000000), .lit (.int .u64 100000000), .lit (.int .u64 1000000000), .lit (.int .u64 10000000000), .lit (.int .u64 100000000000), .lit (.int .u64 1000000000000), .lit (.int .u64 10000000000000), .lit (.int .u64 100000000000000), .lit (.int .u64 1000000000000000), .lit (.int .u64 10000000000000000), .lit (.int .u64 100000000000000000), .lit (.int .u64 1000000000000000000), .lit (.int .u64 10000000000000000000)]

/-- 'greatseallaw.BookOne': WHATEVER THE INPUT: true; the input reads as it did. -/
def bookOneSpec : ChangeSpec := { name := "bookOne", fn := fun _ => fun
  | [d1, d2, d3] => { results := [.lit (.bool true)], args := [d1, d2, d3] }
  | _ => none }
def bookOneRow : OpenClaim := { program := "yteoadplelecmeaadoor", sum := "a5d8e48ac0ec7ca3fce08aa304e677f5a3d2d7830d722442bc7713b7a04c1fe0", func := "greatseal/greatseallaw.BookOne", spec := "bookOne", recurses := true, named := ["internal/strconv.uint64pow10", "math/bits.deBruijn32tab", "math/bits.deBruijn64tab"], apart := false, laid := [("math/bits.deBruijn32tab", laid_math_bits_deBruijn32tab), ("math/bits.deBruijn64tab", laid_math_bits_deBruijn64tab), ("internal/strconv.uint64pow10", laid_internal_strconv_uint64pow10)] }
def BookOneSaid : Prop := bookOneRow.holds Tryd.pinned (OpenSpec.ofChange bookOneSpec)

/-- ITS FALSE NEIGHBOUR: 'it returns false'. Refute it at one input. -/
def bookOneWrong : ChangeSpec := { name := "bookOne", fn := fun _ => fun
  | [d1, d2, d3] => { results := [.lit (.bool false)], args := [d1, d2, d3] }
  | _ => none }
def BookOneWrongFalsely : Prop := bookOneRow.holds Tryd.pinned (OpenSpec.ofChange bookOneWrong)

/-- 'greatseallaw.BookBegins': WHATEVER THE INPUT: true; the input reads as it did. -/
def bookBeginsSpec : ChangeSpec := { name := "bookBegins", fn := fun _ => fun
  | [d] => { results := [.lit (.bool true)], args := [d] }
  | _ => none }
def bookBeginsRow : OpenClaim := { program := "yteoadplelecmeaadoor", sum := "a5d8e48ac0ec7ca3fce08aa304e677f5a3d2d7830d722442bc7713b7a04c1fe0", func := "greatseal/greatseallaw.BookBegins", spec := "bookBegins", recurses := true, named := ["internal/strconv.uint64pow10", "math/bits.deBruijn32tab", "math/bits.deBruijn64tab"], apart := false, laid := [("math/bits.deBruijn32tab", laid_math_bits_deBruijn32tab), ("math/bits.deBruijn64tab", laid_math_bits_deBruijn64tab), ("internal/strconv.uint64pow10", laid_internal_strconv_uint64pow10)] }
def BookBeginsSaid : Prop := bookBeginsRow.holds Tryd.pinned (OpenSpec.ofChange bookBeginsSpec)

/-- ITS FALSE NEIGHBOUR: 'it returns false'. Refute it at one input. -/
def bookBeginsWrong : ChangeSpec := { name := "bookBegins", fn := fun _ => fun
  | [d] => { results := [.lit (.bool false)], args := [d] }
  | _ => none }
def BookBeginsWrongFalsely : Prop := bookBeginsRow.holds Tryd.pinned (OpenSpec.ofChange bookBeginsWrong)

/-- 'greatseallaw.BookSays': WHATEVER THE INPUT: true; the input reads as it did. -/
def bookSaysSpec : ChangeSpec := { name := "bookSays", fn := fun _ => fun
  | [d1, d2] => { results := [.lit (.bool true)], args := [d1, d2] }
  | _ => none }
def bookSaysRow : OpenClaim := { program := "yteoadplelecmeaadoor", sum := "a5d8e48ac0ec7ca3fce08aa304e677f5a3d2d7830d722442bc7713b7a04c1fe0", func := "greatseal/greatseallaw.BookSays", spec := "bookSays", unfollowed := true, recurses := true, named := ["internal/strconv.uint64pow10", "math/bits.deBruijn32tab", "math/bits.deBruijn64tab"], apart := false, laid := [("math/bits.deBruijn32tab", laid_math_bits_deBruijn32tab), ("math/bits.deBruijn64tab", laid_math_bits_deBruijn64tab), ("internal/strconv.uint64pow10", laid_internal_strconv_uint64pow10)] }
def BookSaysSaid : Prop := bookSaysRow.holds Tryd.pinned (OpenSpec.ofChange bookSaysSpec)

/-- ITS FALSE NEIGHBOUR: 'it returns false'. Refute it at one input. -/
def bookSaysWrong : ChangeSpec := { name := "bookSays", fn := fun _ => fun
  | [d1, d2] => { results := [.lit (.bool false)], args := [d1, d2] }
  | _ => none }
def BookSaysWrongFalsely : Prop := bookSaysRow.holds Tryd.pinned (OpenSpec.ofChange bookSaysWrong)

/-- 'greatseallaw.ShowSays': WHATEVER THE INPUT: true; the input reads as it did. -/
def showSaysSpec : ChangeSpec := { name := "showSays", fn := fun _ => fun
  | [d1, d2, d3] => { results := [.lit (.bool true)], args := [d1, d2, d3] }
  | _ => none }
def showSaysRow : OpenClaim := { program := "yteoadplelecmeaadoor", sum := "a5d8e48ac0ec7ca3fce08aa304e677f5a3d2d7830d722442bc7713b7a04c1fe0", func := "greatseal/greatseallaw.ShowSays", spec := "showSays", unfollowed := true, recurses := true, named := ["internal/strconv.uint64pow10", "math/bits.deBruijn32tab", "math/bits.deBruijn64tab"], apart := false, laid := [("math/bits.deBruijn32tab", laid_math_bits_deBruijn32tab), ("math/bits.deBruijn64tab", laid_math_bits_deBruijn64tab), ("internal/strconv.uint64pow10", laid_internal_strconv_uint64pow10)] }
def ShowSaysSaid : Prop := showSaysRow.holds Tryd.pinned (OpenSpec.ofChange showSaysSpec)

/-- ITS FALSE NEIGHBOUR: 'it returns false'. Refute it at one input. -/
def showSaysWrong : ChangeSpec := { name := "showSays", fn := fun _ => fun
  | [d1, d2, d3] => { results := [.lit (.bool false)], args := [d1, d2, d3] }
  | _ => none }
def ShowSaysWrongFalsely : Prop := showSaysRow.holds Tryd.pinned (OpenSpec.ofChange showSaysWrong)

/-- 'greatseallaw.MeetSays': WHATEVER THE INPUT: true; the input reads as it did. -/
def meetSaysSpec : ChangeSpec := { name := "meetSays", fn := fun _ => fun
  | [d1, d2, d3] => { results := [.lit (.bool true)], args := [d1, d2, d3] }
  | _ => none }
def meetSaysRow : OpenClaim := { program := "yteoadplelecmeaadoor", sum := "a5d8e48ac0ec7ca3fce08aa304e677f5a3d2d7830d722442bc7713b7a04c1fe0", func := "greatseal/greatseallaw.MeetSays", spec := "meetSays", recurses := true, named := ["internal/strconv.uint64pow10", "math/bits.deBruijn32tab", "math/bits.deBruijn64tab"], apart := false, laid := [("math/bits.deBruijn32tab", laid_math_bits_deBruijn32tab), ("math/bits.deBruijn64tab", laid_math_bits_deBruijn64tab), ("internal/strconv.uint64pow10", laid_internal_strconv_uint64pow10)] }
def MeetSaysSaid : Prop := meetSaysRow.holds Tryd.pinned (OpenSpec.ofChange meetSaysSpec)

/-- ITS FALSE NEIGHBOUR: 'it returns false'. Refute it at one input. -/
def meetSaysWrong : ChangeSpec := { name := "meetSays", fn := fun _ => fun
  | [d1, d2, d3] => { results := [.lit (.bool false)], args := [d1, d2, d3] }
  | _ => none }
def MeetSaysWrongFalsely : Prop := meetSaysRow.holds Tryd.pinned (OpenSpec.ofChange meetSaysWrong)

/-- 'greatseallaw.MeetTrue': WHATEVER THE INPUT: true; the input reads as it did. -/
def meetTrueSpec : ChangeSpec := { name := "meetTrue", fn := fun _ => fun
  | [d1, d2, d3, d4] => { results := [.lit (.bool true)], args := [d1, d2, d3, d4] }
  | _ => none }
def meetTrueRow : OpenClaim := { program := "yteoadplelecmeaadoor", sum := "a5d8e48ac0ec7ca3fce08aa304e677f5a3d2d7830d722442bc7713b7a04c1fe0", func := "greatseal/greatseallaw.MeetTrue", spec := "meetTrue", recurses := true, named := ["internal/strconv.uint64pow10", "math/bits.deBruijn32tab", "math/bits.deBruijn64tab"], apart := false, laid := [("math/bits.deBruijn32tab", laid_math_bits_deBruijn32tab), ("math/bits.deBruijn64tab", laid_math_bits_deBruijn64tab), ("internal/strconv.uint64pow10", laid_internal_strconv_uint64pow10)] }
def MeetTrueSaid : Prop := meetTrueRow.holds Tryd.pinned (OpenSpec.ofChange meetTrueSpec)

/-- ITS FALSE NEIGHBOUR: 'it returns false'. Refute it at one input. -/
def meetTrueWrong : ChangeSpec := { name := "meetTrue", fn := fun _ => fun
  | [d1, d2, d3, d4] => { results := [.lit (.bool false)], args := [d1, d2, d3, d4] }
  | _ => none }
def MeetTrueWrongFalsely : Prop := meetTrueRow.holds Tryd.pinned (OpenSpec.ofChange meetTrueWrong)

/-- 'greatseallaw.ShowTrue': WHATEVER THE INPUT: true; the input reads as it did. -/
def showTrueSpec : ChangeSpec := { name := "showTrue", fn := fun _ => fun
  | [d1, d2, d3] => { results := [.lit (.bool true)], args := [d1, d2, d3] }
  | _ => none }
def showTrueRow : OpenClaim := { program := "yteoadplelecmeaadoor", sum := "a5d8e48ac0ec7ca3fce08aa304e677f5a3d2d7830d722442bc7713b7a04c1fe0", func := "greatseal/greatseallaw.ShowTrue", spec := "showTrue", recurses := true, named := ["internal/strconv.uint64pow10", "math/bits.deBruijn32tab", "math/bits.deBruijn64tab"], apart := false, laid := [("math/bits.deBruijn32tab", laid_math_bits_deBruijn32tab), ("math/bits.deBruijn64tab", laid_math_bits_deBruijn64tab), ("internal/strconv.uint64pow10", laid_internal_strconv_uint64pow10)] }
def ShowTrueSaid : Prop := showTrueRow.holds Tryd.pinned (OpenSpec.ofChange showTrueSpec)

/-- ITS FALSE NEIGHBOUR: 'it returns false'. Refute it at one input. -/
def showTrueWrong : ChangeSpec := { name := "showTrue", fn := fun _ => fun
  | [d1, d2, d3] => { results := [.lit (.bool false)], args := [d1, d2, d3] }
  | _ => none }
def ShowTrueWrongFalsely : Prop := showTrueRow.holds Tryd.pinned (OpenSpec.ofChange showTrueWrong)

/-- 'greatseallaw.ClientFollows': WHATEVER THE INPUT: true; the input reads as it did. -/
def clientFollowsSpec : ChangeSpec := { name := "clientFollows", fn := fun _ => fun
  | [d1, d2] => { results := [.lit (.bool true)], args := [d1, d2] }
  | _ => none }
def clientFollowsRow : OpenClaim := { program := "yteoadplelecmeaadoor", sum := "a5d8e48ac0ec7ca3fce08aa304e677f5a3d2d7830d722442bc7713b7a04c1fe0", func := "greatseal/greatseallaw.ClientFollows", spec := "clientFollows", recurses := true, named := ["internal/strconv.uint64pow10", "math/bits.deBruijn32tab", "math/bits.deBruijn64tab"], apart := false, laid := [("math/bits.deBruijn32tab", laid_math_bits_deBruijn32tab), ("math/bits.deBruijn64tab", laid_math_bits_deBruijn64tab), ("internal/strconv.uint64pow10", laid_internal_strconv_uint64pow10)] }
def ClientFollowsSaid : Prop := clientFollowsRow.holds Tryd.pinned (OpenSpec.ofChange clientFollowsSpec)

/-- ITS FALSE NEIGHBOUR: 'it returns false'. Refute it at one input. -/
def clientFollowsWrong : ChangeSpec := { name := "clientFollows", fn := fun _ => fun
  | [d1, d2] => { results := [.lit (.bool false)], args := [d1, d2] }
  | _ => none }
def ClientFollowsWrongFalsely : Prop := clientFollowsRow.holds Tryd.pinned (OpenSpec.ofChange clientFollowsWrong)

/-- 'greatseallaw.ClientSays': WHATEVER THE INPUT: true; the input reads as it did. -/
def clientSaysSpec : ChangeSpec := { name := "clientSays", fn := fun _ => fun
  | [d1, d2, d3, d4, d5, d6, d7] => { results := [.lit (.bool true)], args := [d1, d2, d3, d4, d5, d6, d7] }
  | _ => none }
def clientSaysRow : OpenClaim := { program := "yteoadplelecmeaadoor", sum := "a5d8e48ac0ec7ca3fce08aa304e677f5a3d2d7830d722442bc7713b7a04c1fe0", func := "greatseal/greatseallaw.ClientSays", spec := "clientSays", recurses := true, named := ["internal/strconv.uint64pow10", "math/bits.deBruijn32tab", "math/bits.deBruijn64tab"], apart := false, laid := [("math/bits.deBruijn32tab", laid_math_bits_deBruijn32tab), ("math/bits.deBruijn64tab", laid_math_bits_deBruijn64tab), ("internal/strconv.uint64pow10", laid_internal_strconv_uint64pow10)] }
def ClientSaysSaid : Prop := clientSaysRow.holds Tryd.pinned (OpenSpec.ofChange clientSaysSpec)

/-- ITS FALSE NEIGHBOUR: 'it returns false'. Refute it at one input. -/
def clientSaysWrong : ChangeSpec := { name := "clientSays", fn := fun _ => fun
  | [d1, d2, d3, d4, d5, d6, d7] => { results := [.lit (.bool false)], args := [d1, d2, d3, d4, d5, d6, d7] }
  | _ => none }
def ClientSaysWrongFalsely : Prop := clientSaysRow.holds Tryd.pinned (OpenSpec.ofChange clientSaysWrong)

/-- 'greatseallaw.ClientTrue': WHATEVER THE INPUT: true; the input reads as it did. -/
def clientTrueSpec : ChangeSpec := { name := "clientTrue", fn := fun _ => fun
  | [d1, d2, d3, d4, d5, d6, d7] => { results := [.lit (.bool true)], args := [d1, d2, d3, d4, d5, d6, d7] }
  | _ => none }
def clientTrueRow : OpenClaim := { program := "yteoadplelecmeaadoor", sum := "a5d8e48ac0ec7ca3fce08aa304e677f5a3d2d7830d722442bc7713b7a04c1fe0", func := "greatseal/greatseallaw.ClientTrue", spec := "clientTrue", recurses := true, named := ["internal/strconv.uint64pow10", "math/bits.deBruijn32tab", "math/bits.deBruijn64tab"], apart := false, laid := [("math/bits.deBruijn32tab", laid_math_bits_deBruijn32tab), ("math/bits.deBruijn64tab", laid_math_bits_deBruijn64tab), ("internal/strconv.uint64pow10", laid_internal_strconv_uint64pow10)] }
def ClientTrueSaid : Prop := clientTrueRow.holds Tryd.pinned (OpenSpec.ofChange clientTrueSpec)

/-- ITS FALSE NEIGHBOUR: 'it returns false'. Refute it at one input. -/
def clientTrueWrong : ChangeSpec := { name := "clientTrue", fn := fun _ => fun
  | [d1, d2, d3, d4, d5, d6, d7] => { results := [.lit (.bool false)], args := [d1, d2, d3, d4, d5, d6, d7] }
  | _ => none }
def ClientTrueWrongFalsely : Prop := clientTrueRow.holds Tryd.pinned (OpenSpec.ofChange clientTrueWrong)

/-- 'greatseallaw.ClientAsks': WHATEVER THE INPUT: true; the input reads as it did. -/
def clientAsksSpec : ChangeSpec := { name := "clientAsks", fn := fun _ => fun
  | [d1, d2, d3, d4] => { results := [.lit (.bool true)], args := [d1, d2, d3, d4] }
  | _ => none }
def clientAsksRow : OpenClaim := { program := "yteoadplelecmeaadoor", sum := "a5d8e48ac0ec7ca3fce08aa304e677f5a3d2d7830d722442bc7713b7a04c1fe0", func := "greatseal/greatseallaw.ClientAsks", spec := "clientAsks", recurses := true, named := ["internal/strconv.uint64pow10", "math/bits.deBruijn32tab", "math/bits.deBruijn64tab"], apart := false, laid := [("math/bits.deBruijn32tab", laid_math_bits_deBruijn32tab), ("math/bits.deBruijn64tab", laid_math_bits_deBruijn64tab), ("internal/strconv.uint64pow10", laid_internal_strconv_uint64pow10)] }
def ClientAsksSaid : Prop := clientAsksRow.holds Tryd.pinned (OpenSpec.ofChange clientAsksSpec)

/-- ITS FALSE NEIGHBOUR: 'it returns false'. Refute it at one input. -/
def clientAsksWrong : ChangeSpec := { name := "clientAsks", fn := fun _ => fun
  | [d1, d2, d3, d4] => { results := [.lit (.bool false)], args := [d1, d2, d3, d4] }
  | _ => none }
def ClientAsksWrongFalsely : Prop := clientAsksRow.holds Tryd.pinned (OpenSpec.ofChange clientAsksWrong)

/- THE SECOND FORM. 'bulk': how many values and letters a reading holds, each counted each time it is reached (what is shared counts as often as it is met; a slice's spare places count too). A statement '..UptoSaid' is the law's where the arguments, and the package variables that the reading takes, are together of bulk at most 1048576: NARROWER than '..Said'. Prove '..Said' where nothing that the law and all that it calls make is longer than what came in: it says more and counts as full. Else prove '..UptoSaid'. A law counts once. -/
mutual
def uptoBulk {H : Type} : DataW H → Nat
  | .lit (.string bytes) => bytes.length + 1
  | .lit _ => 1
  | .nil => 1
  | .ptr d => uptoBulk d + 1
  | .slice elems spare => uptoBulkAll elems + uptoBulkAll spare + 1
  | .agg parts => uptoBulkAll parts + 1
  | .iface _ d => uptoBulk d + 1
  | .map entries => uptoBulkEntries entries + 1
  | .held _ => 1
def uptoBulkAll {H : Type} : List (DataW H) → Nat
  | [] => 0
  | d :: r => uptoBulk d + uptoBulkAll r
def uptoBulkEntries {H : Type} : List (Lit × DataW H) → Nat
  | [] => 0
  | x :: r => uptoBulkEntry x + uptoBulkEntries r
def uptoBulkEntry {H : Type} : Lit × DataW H → Nat
  | (.string bytes, d) => bytes.length + uptoBulk d + 1
  | (_, d) => uptoBulk d + 1
 end
def uptoSmall : (H : Type) → List (DataW H) → Bool := fun _ ds => decide (uptoBulkAll ds ≤ 1048576)
def OpenSpec.upto (s : _root_.Go.ChangeSpec) : _root_.Go.OpenSpec := { _root_.Go.OpenSpec.ofChange s with cond := some uptoSmall }

/-- 'greatseallaw.BookOne', WHERE WHAT IT READS IS OF BULK AT MOST 1048576: true; the input reads as it did. -/
def bookOneUptoRow : OpenClaim := { program := "yteoadplelecmeaadoor", sum := "a5d8e48ac0ec7ca3fce08aa304e677f5a3d2d7830d722442bc7713b7a04c1fe0", func := "greatseal/greatseallaw.BookOne", spec := "bookOne", recurses := true, named := ["internal/strconv.uint64pow10", "math/bits.deBruijn32tab", "math/bits.deBruijn64tab"], apart := false, laid := [("math/bits.deBruijn32tab", laid_math_bits_deBruijn32tab), ("math/bits.deBruijn64tab", laid_math_bits_deBruijn64tab), ("internal/strconv.uint64pow10", laid_internal_strconv_uint64pow10)], narrowed := true }
def BookOneUptoSaid : Prop := bookOneUptoRow.holds Tryd.pinned (OpenSpec.upto bookOneSpec)

/-- 'greatseallaw.BookBegins', WHERE WHAT IT READS IS OF BULK AT MOST 1048576: true; the input reads as it did. -/
def bookBeginsUptoRow : OpenClaim := { program := "yteoadplelecmeaadoor", sum := "a5d8e48ac0ec7ca3fce08aa304e677f5a3d2d7830d722442bc7713b7a04c1fe0", func := "greatseal/greatseallaw.BookBegins", spec := "bookBegins", recurses := true, named := ["internal/strconv.uint64pow10", "math/bits.deBruijn32tab", "math/bits.deBruijn64tab"], apart := false, laid := [("math/bits.deBruijn32tab", laid_math_bits_deBruijn32tab), ("math/bits.deBruijn64tab", laid_math_bits_deBruijn64tab), ("internal/strconv.uint64pow10", laid_internal_strconv_uint64pow10)], narrowed := true }
def BookBeginsUptoSaid : Prop := bookBeginsUptoRow.holds Tryd.pinned (OpenSpec.upto bookBeginsSpec)

/-- 'greatseallaw.BookSays', WHERE WHAT IT READS IS OF BULK AT MOST 1048576: true; the input reads as it did. -/
def bookSaysUptoRow : OpenClaim := { program := "yteoadplelecmeaadoor", sum := "a5d8e48ac0ec7ca3fce08aa304e677f5a3d2d7830d722442bc7713b7a04c1fe0", func := "greatseal/greatseallaw.BookSays", spec := "bookSays", unfollowed := true, recurses := true, named := ["internal/strconv.uint64pow10", "math/bits.deBruijn32tab", "math/bits.deBruijn64tab"], apart := false, laid := [("math/bits.deBruijn32tab", laid_math_bits_deBruijn32tab), ("math/bits.deBruijn64tab", laid_math_bits_deBruijn64tab), ("internal/strconv.uint64pow10", laid_internal_strconv_uint64pow10)], narrowed := true }
def BookSaysUptoSaid : Prop := bookSaysUptoRow.holds Tryd.pinned (OpenSpec.upto bookSaysSpec)

/-- 'greatseallaw.ShowSays', WHERE WHAT IT READS IS OF BULK AT MOST 1048576: true; the input reads as it did. -/
def showSaysUptoRow : OpenClaim := { program := "yteoadplelecmeaadoor", sum := "a5d8e48ac0ec7ca3fce08aa304e677f5a3d2d7830d722442bc7713b7a04c1fe0", func := "greatseal/greatseallaw.ShowSays", spec := "showSays", unfollowed := true, recurses := true, named := ["internal/strconv.uint64pow10", "math/bits.deBruijn32tab", "math/bits.deBruijn64tab"], apart := false, laid := [("math/bits.deBruijn32tab", laid_math_bits_deBruijn32tab), ("math/bits.deBruijn64tab", laid_math_bits_deBruijn64tab), ("internal/strconv.uint64pow10", laid_internal_strconv_uint64pow10)], narrowed := true }
def ShowSaysUptoSaid : Prop := showSaysUptoRow.holds Tryd.pinned (OpenSpec.upto showSaysSpec)

/-- 'greatseallaw.MeetSays', WHERE WHAT IT READS IS OF BULK AT MOST 1048576: true; the input reads as it did. -/
def meetSaysUptoRow : OpenClaim := { program := "yteoadplelecmeaadoor", sum := "a5d8e48ac0ec7ca3fce08aa304e677f5a3d2d7830d722442bc7713b7a04c1fe0", func := "greatseal/greatseallaw.MeetSays", spec := "meetSays", recurses := true, named := ["internal/strconv.uint64pow10", "math/bits.deBruijn32tab", "math/bits.deBruijn64tab"], apart := false, laid := [("math/bits.deBruijn32tab", laid_math_bits_deBruijn32tab), ("math/bits.deBruijn64tab", laid_math_bits_deBruijn64tab), ("internal/strconv.uint64pow10", laid_internal_strconv_uint64pow10)], narrowed := true }
def MeetSaysUptoSaid : Prop := meetSaysUptoRow.holds Tryd.pinned (OpenSpec.upto meetSaysSpec)

/-- 'greatseallaw.MeetTrue', WHERE WHAT IT READS IS OF BULK AT MOST 1048576: true; the input reads as it did. -/
def meetTrueUptoRow : OpenClaim := { program := "yteoadplelecmeaadoor", sum := "a5d8e48ac0ec7ca3fce08aa304e677f5a3d2d7830d722442bc7713b7a04c1fe0", func := "greatseal/greatseallaw.MeetTrue", spec := "meetTrue", recurses := true, named := ["internal/strconv.uint64pow10", "math/bits.deBruijn32tab", "math/bits.deBruijn64tab"], apart := false, laid := [("math/bits.deBruijn32tab", laid_math_bits_deBruijn32tab), ("math/bits.deBruijn64tab", laid_math_bits_deBruijn64tab), ("internal/strconv.uint64pow10", laid_internal_strconv_uint64pow10)], narrowed := true }
def MeetTrueUptoSaid : Prop := meetTrueUptoRow.holds Tryd.pinned (OpenSpec.upto meetTrueSpec)

/-- 'greatseallaw.ShowTrue', WHERE WHAT IT READS IS OF BULK AT MOST 1048576: true; the input reads as it did. -/
def showTrueUptoRow : OpenClaim := { program := "yteoadplelecmeaadoor", sum := "a5d8e48ac0ec7ca3fce08aa304e677f5a3d2d7830d722442bc7713b7a04c1fe0", func := "greatseal/greatseallaw.ShowTrue", spec := "showTrue", recurses := true, named := ["internal/strconv.uint64pow10", "math/bits.deBruijn32tab", "math/bits.deBruijn64tab"], apart := false, laid := [("math/bits.deBruijn32tab", laid_math_bits_deBruijn32tab), ("math/bits.deBruijn64tab", laid_math_bits_deBruijn64tab), ("internal/strconv.uint64pow10", laid_internal_strconv_uint64pow10)], narrowed := true }
def ShowTrueUptoSaid : Prop := showTrueUptoRow.holds Tryd.pinned (OpenSpec.upto showTrueSpec)

/-- 'greatseallaw.ClientFollows', WHERE WHAT IT READS IS OF BULK AT MOST 1048576: true; the input reads as it did. -/
def clientFollowsUptoRow : OpenClaim := { program := "yteoadplelecmeaadoor", sum := "a5d8e48ac0ec7ca3fce08aa304e677f5a3d2d7830d722442bc7713b7a04c1fe0", func := "greatseal/greatseallaw.ClientFollows", spec := "clientFollows", recurses := true, named := ["internal/strconv.uint64pow10", "math/bits.deBruijn32tab", "math/bits.deBruijn64tab"], apart := false, laid := [("math/bits.deBruijn32tab", laid_math_bits_deBruijn32tab), ("math/bits.deBruijn64tab", laid_math_bits_deBruijn64tab), ("internal/strconv.uint64pow10", laid_internal_strconv_uint64pow10)], narrowed := true }
def ClientFollowsUptoSaid : Prop := clientFollowsUptoRow.holds Tryd.pinned (OpenSpec.upto clientFollowsSpec)

/-- 'greatseallaw.ClientSays', WHERE WHAT IT READS IS OF BULK AT MOST 1048576: true; the input reads as it did. -/
def clientSaysUptoRow : OpenClaim := { program := "yteoadplelecmeaadoor", sum := "a5d8e48ac0ec7ca3fce08aa304e677f5a3d2d7830d722442bc7713b7a04c1fe0", func := "greatseal/greatseallaw.ClientSays", spec := "clientSays", recurses := true, named := ["internal/strconv.uint64pow10", "math/bits.deBruijn32tab", "math/bits.deBruijn64tab"], apart := false, laid := [("math/bits.deBruijn32tab", laid_math_bits_deBruijn32tab), ("math/bits.deBruijn64tab", laid_math_bits_deBruijn64tab), ("internal/strconv.uint64pow10", laid_internal_strconv_uint64pow10)], narrowed := true }
def ClientSaysUptoSaid : Prop := clientSaysUptoRow.holds Tryd.pinned (OpenSpec.upto clientSaysSpec)

/-- 'greatseallaw.ClientTrue', WHERE WHAT IT READS IS OF BULK AT MOST 1048576: true; the input reads as it did. -/
def clientTrueUptoRow : OpenClaim := { program := "yteoadplelecmeaadoor", sum := "a5d8e48ac0ec7ca3fce08aa304e677f5a3d2d7830d722442bc7713b7a04c1fe0", func := "greatseal/greatseallaw.ClientTrue", spec := "clientTrue", recurses := true, named := ["internal/strconv.uint64pow10", "math/bits.deBruijn32tab", "math/bits.deBruijn64tab"], apart := false, laid := [("math/bits.deBruijn32tab", laid_math_bits_deBruijn32tab), ("math/bits.deBruijn64tab", laid_math_bits_deBruijn64tab), ("internal/strconv.uint64pow10", laid_internal_strconv_uint64pow10)], narrowed := true }
def ClientTrueUptoSaid : Prop := clientTrueUptoRow.holds Tryd.pinned (OpenSpec.upto clientTrueSpec)

/-- 'greatseallaw.ClientAsks', WHERE WHAT IT READS IS OF BULK AT MOST 1048576: true; the input reads as it did. -/
def clientAsksUptoRow : OpenClaim := { program := "yteoadplelecmeaadoor", sum := "a5d8e48ac0ec7ca3fce08aa304e677f5a3d2d7830d722442bc7713b7a04c1fe0", func := "greatseal/greatseallaw.ClientAsks", spec := "clientAsks", recurses := true, named := ["internal/strconv.uint64pow10", "math/bits.deBruijn32tab", "math/bits.deBruijn64tab"], apart := false, laid := [("math/bits.deBruijn32tab", laid_math_bits_deBruijn32tab), ("math/bits.deBruijn64tab", laid_math_bits_deBruijn64tab), ("internal/strconv.uint64pow10", laid_internal_strconv_uint64pow10)], narrowed := true }
def ClientAsksUptoSaid : Prop := clientAsksUptoRow.holds Tryd.pinned (OpenSpec.upto clientAsksSpec)

end Rows
end Go.Proofs.YteoadplelecmeaaDoor

/- What a proof of PathTrue leans on (5): The types' table of this program, its functions' numbers; DERIVED: THE SHELF's CONTRACTS AT THIS DUMP, IN PLAIN WORDS (tools/lay-plain.mjs out of 'TrydShelf.lean', which tools/lay-shelf.mjs wrote): THE SAME DECLARATIONS UNDER THE SAME NAMES: 'import', 'namespace', 'open', 'def', 'theorem' AND NOTHING ELSE: no command of the shelf's: FOR A HAND-IN. Each laying: the table of numbers ('.._ren') and one theorem, a field a fact of the dump's own or the kernel's comparison; each contract: ONE APPLICATION.; Contracts of the library's functions, as contracts here; What the runs come to; The seals and the lists' seals, in plain words; Contracts: seals, halves, lists; Contracts: the seal of a list, by; no condition. -/
import Derived.Test.YtfobijiffcfnkaaDoorZPathTrueD
import Derived.Test.YtfobijiffcfnkaaDoorProg
import Derived.Shelf.Strconv.Itoa0
import Derived.Shelf.Strconv.Itoa1
import Derived.Shelf.LaysM
import Derived.Shelf.Strconv.Itoa2
import Derived.Shelf.Strconv.Itoa3
import Derived.Ground.Names2Prog
import Derived.Shelf.Slices.Clone
import Derived.Ground.SlgnProg
import Derived.Shelf.SlicesE.Clone
import Derived.Lib.ItoaNum
namespace Go.Ab
open Go.Proofs
set_option maxRecDepth 100000
def tyL : List (Option TI) := [
  none,
  some ⟨.scalar (.func), 1, 8, [.func]⟩,
  some ⟨.scalar (.int .i64), 1, 8, [.int .i64]⟩,
  some ⟨.scalar (.int .i64), 1, 8, [.int .i64]⟩,
  some ⟨.scalar (.bool), 1, 1, [.bool]⟩,
  some ⟨.scalar (.int .u8), 1, 1, [.int .u8]⟩,
  some ⟨.scalar (.int .u8), 1, 1, [.int .u8]⟩,
  some ⟨.struct [(0, 2), (1, 3), (2, 4), (3, 6)], 4, 24, [.int .i64, .int .i64, .bool, .int .u8]⟩,
  some ⟨.struct [(0, 2), (1, 3), (2, 4), (3, 6)], 4, 24, [.int .i64, .int .i64, .bool, .int .u8]⟩,
  some ⟨.scalar (.str), 1, 16, [.str]⟩,
  some ⟨.scalar (.str), 1, 16, [.str]⟩,
  some ⟨.scalar (.str), 1, 16, [.str]⟩,
  some ⟨.scalar (.int .u64), 1, 8, [.int .u64]⟩,
  none,
  none,
  some ⟨.scalar (.ptr), 1, 8, [.ptr]⟩,
  some ⟨.scalar (.ptr), 1, 8, [.ptr]⟩,
  some ⟨.scalar (.ptr), 1, 8, [.ptr]⟩,
  none,
  none,
  some ⟨.scalar (.iface), 1, 16, [.iface]⟩,
  some ⟨.scalar (.int .i32), 1, 4, [.int .i32]⟩,
  some ⟨.slice 9, 1, 24, [.sl 1]⟩,
  some ⟨.scalar (.int .i64), 1, 8, [.int .i64]⟩,
  none,
  some ⟨.scalar (.func), 1, 8, [.func]⟩,
  none,
  some ⟨.scalar (.func), 1, 8, [.func]⟩,
  some ⟨.scalar (.func), 1, 8, [.func]⟩,
  some ⟨.scalar (.func), 1, 8, [.func]⟩,
  some ⟨.scalar (.func), 1, 8, [.func]⟩,
  some ⟨.scalar (.func), 1, 8, [.func]⟩,
  some ⟨.scalar (.func), 1, 8, [.func]⟩,
  some ⟨.scalar (.func), 1, 8, [.func]⟩,
  some ⟨.scalar (.func), 1, 8, [.func]⟩,
  some ⟨.map 3 9, 1, 8, [.mp]⟩,
  some ⟨.scalar (.func), 1, 8, [.func]⟩,
  none,
  some ⟨.scalar (.func), 1, 8, [.func]⟩,
  none,
  some ⟨.scalar (.func), 1, 8, [.func]⟩,
  some ⟨.scalar (.func), 1, 8, [.func]⟩,
  some ⟨.scalar (.func), 1, 8, [.func]⟩,
  some ⟨.slice 22, 1, 24, [.sl 1]⟩,
  some ⟨.scalar (.func), 1, 8, [.func]⟩,
  some ⟨.scalar (.func), 1, 8, [.func]⟩,
  some ⟨.scalar (.func), 1, 8, [.func]⟩,
  some ⟨.scalar (.func), 1, 8, [.func]⟩,
  some ⟨.scalar (.func), 1, 8, [.func]⟩,
  some ⟨.scalar (.func), 1, 8, [.func]⟩,
  some ⟨.slice 57, 1, 24, [.sl 2]⟩,
  some ⟨.scalar (.func), 1, 8, [.func]⟩,
  none,
  some ⟨.scalar (.func), 1, 8, [.func]⟩,
  some ⟨.scalar (.func), 1, 8, [.func]⟩,
  some ⟨.scalar (.func), 1, 8, [.func]⟩,
  some ⟨.struct [(0, 4), (1, 9)], 2, 24, [.bool, .str]⟩,
  some ⟨.struct [(0, 4), (1, 9)], 2, 24, [.bool, .str]⟩,
  some ⟨.scalar (.func), 1, 8, [.func]⟩,
  some ⟨.scalar (.func), 1, 8, [.func]⟩,
  some ⟨.scalar (.func), 1, 8, [.func]⟩,
  some ⟨.scalar (.func), 1, 8, [.func]⟩,
  some ⟨.scalar (.func), 1, 8, [.func]⟩,
  some ⟨.scalar (.func), 1, 8, [.func]⟩,
  some ⟨.scalar (.func), 1, 8, [.func]⟩,
  some ⟨.scalar (.func), 1, 8, [.func]⟩,
  some ⟨.scalar (.func), 1, 8, [.func]⟩,
  some ⟨.scalar (.func), 1, 8, [.func]⟩,
  some ⟨.scalar (.func), 1, 8, [.func]⟩,
  some ⟨.scalar (.func), 1, 8, [.func]⟩,
  some ⟨.slice 4, 1, 24, [.sl 1]⟩,
  some ⟨.scalar (.func), 1, 8, [.func]⟩,
  some ⟨.scalar (.ptr), 1, 8, [.ptr]⟩,
  some ⟨.struct [(0, 22), (1, 4)], 2, 32, [.sl 1, .bool]⟩,
  some ⟨.struct [(0, 22), (1, 4)], 2, 32, [.sl 1, .bool]⟩,
  none,
  some ⟨.scalar (.func), 1, 8, [.func]⟩,
  some ⟨.scalar (.func), 1, 8, [.func]⟩,
  some ⟨.slice 81, 1, 24, [.sl 2]⟩,
  some ⟨.scalar (.func), 1, 8, [.func]⟩,
  some ⟨.scalar (.func), 1, 8, [.func]⟩,
  some ⟨.arr 2 3, 2, 16, [.int .i64, .int .i64]⟩,
  none,
  some ⟨.scalar (.func), 1, 8, [.func]⟩,
  some ⟨.scalar (.func), 1, 8, [.func]⟩,
  some ⟨.scalar (.func), 1, 8, [.func]⟩,
  some ⟨.scalar (.func), 1, 8, [.func]⟩,
  some ⟨.arr 24 5, 24, 24, [.int .u8, .int .u8, .int .u8, .int .u8, .int .u8, .int .u8, .int .u8, .int .u8, .int .u8, .int .u8, .int .u8, .int .u8, .int .u8, .int .u8, .int .u8, .int .u8, .int .u8, .int .u8, .int .u8, .int .u8, .int .u8, .int .u8, .int .u8, .int .u8]⟩,
  some ⟨.scalar (.int .u64), 1, 8, [.int .u64]⟩,
  some ⟨.scalar (.func), 1, 8, [.func]⟩,
  some ⟨.scalar (.func), 1, 8, [.func]⟩,
  some ⟨.slice 5, 1, 24, [.sl 1]⟩,
  none,
  some ⟨.scalar (.func), 1, 8, [.func]⟩,
  some ⟨.scalar (.func), 1, 8, [.func]⟩,
  some ⟨.arr 20 88, 20, 160, [.int .u64, .int .u64, .int .u64, .int .u64, .int .u64, .int .u64, .int .u64, .int .u64, .int .u64, .int .u64, .int .u64, .int .u64, .int .u64, .int .u64, .int .u64, .int .u64, .int .u64, .int .u64, .int .u64, .int .u64]⟩,
  some ⟨.scalar (.int .u32), 1, 4, [.int .u32]⟩,
  some ⟨.arr 65 5, 65, 65, [.int .u8, .int .u8, .int .u8, .int .u8, .int .u8, .int .u8, .int .u8, .int .u8, .int .u8, .int .u8, .int .u8, .int .u8, .int .u8, .int .u8, .int .u8, .int .u8, .int .u8, .int .u8, .int .u8, .int .u8, .int .u8, .int .u8, .int .u8, .int .u8, .int .u8, .int .u8, .int .u8, .int .u8, .int .u8, .int .u8, .int .u8, .int .u8, .int .u8, .int .u8, .int .u8, .int .u8, .int .u8, .int .u8, .int .u8, .int .u8, .int .u8, .int .u8, .int .u8, .int .u8, .int .u8, .int .u8, .int .u8, .int .u8, .int .u8, .int .u8, .int .u8, .int .u8, .int .u8, .int .u8, .int .u8, .int .u8, .int .u8, .int .u8, .int .u8, .int .u8, .int .u8, .int .u8, .int .u8, .int .u8, .int .u8]⟩,
  some ⟨.scalar (.func), 1, 8, [.func]⟩,
  some ⟨.scalar (.int .u64), 1, 8, [.int .u64]⟩,
  some ⟨.scalar (.func), 1, 8, [.func]⟩,
  some ⟨.scalar (.func), 1, 8, [.func]⟩,
  some ⟨.arr 32 5, 32, 32, [.int .u8, .int .u8, .int .u8, .int .u8, .int .u8, .int .u8, .int .u8, .int .u8, .int .u8, .int .u8, .int .u8, .int .u8, .int .u8, .int .u8, .int .u8, .int .u8, .int .u8, .int .u8, .int .u8, .int .u8, .int .u8, .int .u8, .int .u8, .int .u8, .int .u8, .int .u8, .int .u8, .int .u8, .int .u8, .int .u8, .int .u8, .int .u8]⟩,
  some ⟨.arr 64 5, 64, 64, [.int .u8, .int .u8, .int .u8, .int .u8, .int .u8, .int .u8, .int .u8, .int .u8, .int .u8, .int .u8, .int .u8, .int .u8, .int .u8, .int .u8, .int .u8, .int .u8, .int .u8, .int .u8, .int .u8, .int .u8, .int .u8, .int .u8, .int .u8, .int .u8, .int .u8, .int .u8, .int .u8, .int .u8, .int .u8, .int .u8, .int .u8, .int .u8, .int .u8, .int .u8, .int .u8, .int .u8, .int .u8, .int .u8, .int .u8, .int .u8, .int .u8, .int .u8, .int .u8, .int .u8, .int .u8, .int .u8, .int .u8, .int .u8, .int .u8, .int .u8, .int .u8, .int .u8, .int .u8, .int .u8, .int .u8, .int .u8, .int .u8, .int .u8, .int .u8, .int .u8, .int .u8, .int .u8, .int .u8, .int .u8]⟩,
  none,
  none,
  some ⟨.arr 0 16, 0, 0, []⟩,
  none,
  none,
  some ⟨.scalar (.func), 1, 8, [.func]⟩,
  some ⟨.scalar (.int .u8), 1, 1, [.int .u8]⟩,
  some ⟨.scalar (.int .u8), 1, 1, [.int .u8]⟩,
  some ⟨.scalar (.func), 1, 8, [.func]⟩,
  some ⟨.scalar (.ptr), 1, 8, [.ptr]⟩,
  some ⟨.scalar (.int .i32), 1, 4, [.int .i32]⟩,
  some ⟨.scalar (.int .i32), 1, 4, [.int .i32]⟩,
  none,
  none,
  none]
abbrev ty : Tab := tabOfL tyL
noncomputable abbrev PG : Program := Tryd.prog
theorem prOk : ProgOk PG ty := progOk_of (by kernel_rfl) (by kernel_rfl) (by kernel_rfl)
abbrev nG : Nat := 3
abbrev f_main_main : Nat := 0
abbrev f_gosem_cut : Nat := 1
abbrev f_gosem_cut_init : Nat := 2
abbrev f_greatseallaw_TreeSays : Nat := 3
abbrev f_greatseallaw_TreeOne : Nat := 4
abbrev f_greatseallaw_TrieTrue : Nat := 5
abbrev f_greatseallaw_TrieSays : Nat := 6
abbrev f_greatseallaw_TrieEach : Nat := 7
abbrev f_greatseallaw_TrieOne : Nat := 8
abbrev f_greatseallaw_PathTrue : Nat := 9
abbrev f_greatseallaw_PathOther : Nat := 10
abbrev f_greatseallaw_GrowTrue : Nat := 11
abbrev f_greatseallaw_GrowOn : Nat := 12
abbrev f_greatseallaw_PathSays : Nat := 13
abbrev f_greatseallaw_GrowSays : Nat := 14
abbrev f_tree_Root : Nat := 15
abbrev f_tree_Half : Nat := 16
abbrev f_greatsealref_RootOf : Nat := 17
abbrev f_greatseallaw_planted : Nat := 18
abbrev f_greatsealref_HalfOf : Nat := 19
abbrev f_slices_Equal_string : Nat := 20
abbrev f_greatseallaw_at : Nat := 21
abbrev f_slices_Clone_string : Nat := 22
abbrev f_trie_Root : Nat := 23
abbrev f_greatseallaw_rooted : Nat := 24
abbrev f_trie_Shows : Nat := 25
abbrev f_trie_Path : Nat := 26
abbrev f_greatsealref_CheckMap : Nat := 27
abbrev f_trie_Check : Nat := 28
abbrev f_greatsealref_MapShows : Nat := 29
abbrev f_greatsealref_MapRoots : Nat := 30
abbrev f_greatsealref_MapPath : Nat := 31
abbrev f_maps_Equal_string : Nat := 32
abbrev f_greatseallaw_pathed : Nat := 33
abbrev f_path_Shows : Nat := 34
abbrev f_path_Of : Nat := 35
abbrev f_slices_Equal_Step : Nat := 36
abbrev f_greatseallaw_grown : Nat := 37
abbrev f_grow_Shows : Nat := 38
abbrev f_grow_Of : Nat := 39
abbrev f_greatsealref_PathOf : Nat := 40
abbrev f_greatsealref_PathShows : Nat := 41
abbrev f_greatsealref_GrowthOf : Nat := 42
abbrev f_greatsealref_GrowthShows : Nat := 43
abbrev f_seal_None : Nat := 44
abbrev f_seal_Leaf : Nat := 45
abbrev f_seal_Node : Nat := 46
abbrev f_greatsealref_RootOf_c1 : Nat := 47
abbrev f_greatsealref_LeafOf : Nat := 48
abbrev f_greatsealref_NodeOf : Nat := 49
abbrev f_trie_root : Nat := 50
abbrev f_greatsealref_in : Nat := 51
abbrev f_path_turns : Nat := 52
abbrev f_path_of : Nat := 53
abbrev f_greatseal_grow_shower_both : Nat := 54
abbrev f_grow_of : Nat := 55
abbrev f_greatsealref_spans : Nat := 56
abbrev f_slices_Reverse_pair : Nat := 57
abbrev f_greatsealref_parts : Nat := 58
abbrev f_strconv_Itoa : Nat := 59
abbrev f_greatseal_grow_shower_last : Nat := 60
abbrev f_greatseal_grow_shower_node : Nat := 61
abbrev f_internal_strconv_Itoa : Nat := 62
abbrev f_internal_strconv_FormatInt : Nat := 63
abbrev f_internal_strconv_small : Nat := 64
abbrev f_internal_strconv_numDigits : Nat := 65
abbrev f_internal_strconv_formatBase10 : Nat := 66
abbrev f_internal_strconv_formatBits : Nat := 67
abbrev f_internal_strconv_log10Pow2 : Nat := 68
abbrev f_math_bits_Len64 : Nat := 69
abbrev f_internal_strconv_bool2_int : Nat := 70
abbrev f_internal_strconv_isPowerOfTwo : Nat := 71
abbrev f_math_bits_TrailingZeros : Nat := 72
abbrev f_math_bits_TrailingZeros32 : Nat := 73
abbrev f_math_bits_TrailingZeros64 : Nat := 74
abbrev f_runtime_boundsError_Error : Nat := 75
abbrev f_runtime_boundsError_RuntimeError : Nat := 76
abbrev f_runtime_errorString_Error : Nat := 77
abbrev f_runtime_errorString_RuntimeError : Nat := 78
abbrev f_runtime_plainError_Error : Nat := 79
abbrev f_runtime_plainError_RuntimeError : Nat := 80
abbrev f_runtime_errorAddressString_Error : Nat := 81
abbrev f_runtime_errorAddressString_RuntimeError : Nat := 82
abbrev f_runtime_TypeAssertionError_Error : Nat := 83
abbrev f_runtime_TypeAssertionError_RuntimeError : Nat := 84
abbrev f_runtime_PanicNilError_Error : Nat := 85
abbrev f_runtime_PanicNilError_RuntimeError : Nat := 86
abbrev f_internal_abi_Type_Align : Nat := 87
abbrev f_internal_runtime_maps_unhashableTypeError_Error : Nat := 88
abbrev f_internal_runtime_maps_unhashableTypeError_RuntimeError : Nat := 89
abbrev f_internal_abi_Kind_String : Nat := 90
abbrev f_gosem_cut_vars : Nat := 96
end Go.Ab

namespace Go.Proofs
open Go.Shelf
def Tryd.lays129_ren : Go.Shelf.Ren := ⟨fun | 129 => 69 | n => n, fun | 53 => 88 | 3 => 3 | 4 => 4 | 46 => 99 | 5 => 5 | 9 => 9 | n => n, fun | n => n⟩
theorem Tryd.lays129 : Go.Proofs.Lays.n129 Tryd.prog Tryd.lays129_ren := {
  mixed := by kernel_rfl
  f129 := Tryd.func69.trans (congrArg some (by kernel_rfl))
  t3 := Tryd.underlying3
  a3 := Tryd.isAgg3
  z3 := Tryd.sizeOf3
  v3 := Tryd.zeroValue3
  t4 := Tryd.underlying4
  a4 := Tryd.isAgg4
  z4 := Tryd.sizeOf4
  v4 := Tryd.zeroValue4
  t5 := Tryd.underlying5
  a5 := Tryd.isAgg5
  z5 := Tryd.sizeOf5
  v5 := Tryd.zeroValue5
  t9 := Tryd.underlying9
  a9 := Tryd.isAgg9
  z9 := Tryd.sizeOf9
  v9 := Tryd.zeroValue9
  t46 := Tryd.underlying99
  a46 := Tryd.isAgg99
  z46 := Tryd.sizeOf99
  v46 := Tryd.zeroValue99
  t53 := Tryd.underlying88
  a53 := Tryd.isAgg88
  z53 := Tryd.sizeOf88
  v53 := Tryd.zeroValue88 }
theorem Tryd.bits_Len64 (x : Int) (w : World) (h0 : 0 ≤ x) (h1 : x ≤ 18446744073709551615) :
    Calls Tryd.prog 69 #[.int .u64 x] w fun e w' => e = .returned (.int .i64 (Lib.bitLen x.toNat)) ∧ w' = w := Any.bits_Len64 Tryd.lays129 x w h0 h1
def Tryd.lays317_ren : Go.Shelf.Ren := ⟨fun | 317 => 68 | n => n, fun | 3 => 3 | 46 => 99 | n => n, fun | n => n⟩
theorem Tryd.lays317 : Go.Proofs.Lays.n317 Tryd.prog Tryd.lays317_ren := {
  mixed := by kernel_rfl
  f317 := Tryd.func68.trans (congrArg some (by kernel_rfl))
  t3 := Tryd.underlying3
  a3 := Tryd.isAgg3
  z3 := Tryd.sizeOf3
  v3 := Tryd.zeroValue3
  t46 := Tryd.underlying99
  a46 := Tryd.isAgg99
  z46 := Tryd.sizeOf99
  v46 := Tryd.zeroValue99 }
open Go.Lib in
theorem Tryd.internal_strconv_log10Pow2 (x : Nat) (h : x ≤ 64) (w : World) :
    Calls Tryd.prog 68 #[.int .i64 x] w fun e w' => e = .returned (.int .i64 (Lib.l10 x)) ∧ w' = w := Any.internal_strconv_log10Pow2 Tryd.lays317 x h w
def Tryd.lays318_ren : Go.Shelf.Ren := ⟨fun | 318 => 70 | n => n, fun | 3 => 3 | 4 => 4 | n => n, fun | n => n⟩
theorem Tryd.lays318 : Go.Proofs.Lays.n318 Tryd.prog Tryd.lays318_ren := {
  mixed := by kernel_rfl
  f318 := Tryd.func70.trans (congrArg some (by kernel_rfl))
  t3 := Tryd.underlying3
  a3 := Tryd.isAgg3
  z3 := Tryd.sizeOf3
  v3 := Tryd.zeroValue3
  t4 := Tryd.underlying4
  a4 := Tryd.isAgg4
  z4 := Tryd.sizeOf4
  v4 := Tryd.zeroValue4 }
open Go.Lib in
theorem Tryd.internal_strconv_bool2_int (b : Bool) (w : World) :
    Calls Tryd.prog 70 #[.bool b] w fun e w' => e = .returned (.int .i64 (if b then 1 else 0)) ∧ w' = w := Any.internal_strconv_bool2_int Tryd.lays318 b w
def Tryd.lays283_ren : Go.Shelf.Ren := ⟨fun | 283 => 64 | n => n, fun | 3 => 3 | 9 => 9 | 4 => 4 | n => n, fun | n => n⟩
theorem Tryd.lays283 : Go.Proofs.Lays.n283 Tryd.prog Tryd.lays283_ren := {
  mixed := by kernel_rfl
  f283 := Tryd.func64.trans (congrArg some (by kernel_rfl))
  t3 := Tryd.underlying3
  a3 := Tryd.isAgg3
  z3 := Tryd.sizeOf3
  v3 := Tryd.zeroValue3
  t4 := Tryd.underlying4
  a4 := Tryd.isAgg4
  z4 := Tryd.sizeOf4
  v4 := Tryd.zeroValue4
  t9 := Tryd.underlying9
  a9 := Tryd.isAgg9
  z9 := Tryd.sizeOf9
  v9 := Tryd.zeroValue9 }
open Go.Lib in
theorem Tryd.internal_strconv_small (i : Nat) (h : i < 100) (w : World) :
    Calls Tryd.prog 64 #[.int .i64 i] w fun e w' => e = .returned (.string ⟨(Lib.decDigits i).toArray⟩) ∧ w' = w := Any.internal_strconv_small Tryd.lays283 i h w
def Tryd.laysM284_ren : Go.Shelf.Ren := ⟨fun | 284 => 65 | 129 => 69 | 317 => 68 | 318 => 70 | n => n, fun | 53 => 88 | 3 => 3 | 212 => 95 | 0 => 0 | 4 => 4 | 46 => 99 | 5 => 5 | 9 => 9 | n => n, fun | 17 => 0 | n => n⟩
theorem Tryd.laysM284 : Go.Proofs.LaysM.n284 Tryd.prog Tryd.laysM284_ren := {
  mixed := by kernel_rfl
  f129 := Tryd.func69.trans (congrArg some (by kernel_rfl))
  f284 := Tryd.func65.trans (congrArg some (by kernel_rfl))
  f317 := Tryd.func68.trans (congrArg some (by kernel_rfl))
  f318 := Tryd.func70.trans (congrArg some (by kernel_rfl))
  t0 := Tryd.underlying0
  a0 := Tryd.isAgg0
  z0 := Tryd.sizeOf0
  v0 := Tryd.zeroValue0
  t3 := Tryd.underlying3
  a3 := Tryd.isAgg3
  z3 := Tryd.sizeOf3
  v3 := Tryd.zeroValue3
  t4 := Tryd.underlying4
  a4 := Tryd.isAgg4
  z4 := Tryd.sizeOf4
  v4 := Tryd.zeroValue4
  t5 := Tryd.underlying5
  a5 := Tryd.isAgg5
  z5 := Tryd.sizeOf5
  v5 := Tryd.zeroValue5
  t9 := Tryd.underlying9
  a9 := Tryd.isAgg9
  z9 := Tryd.sizeOf9
  v9 := Tryd.zeroValue9
  t46 := Tryd.underlying99
  a46 := Tryd.isAgg99
  z46 := Tryd.sizeOf99
  v46 := Tryd.zeroValue99
  t53 := Tryd.underlying88
  a53 := Tryd.isAgg88
  z53 := Tryd.sizeOf88
  v53 := Tryd.zeroValue88
  t212 := Tryd.underlying95
  a212 := Tryd.isAgg95
  z212 := Tryd.sizeOf95
  v212 := Tryd.zeroValue95
  g17 := by kernel_rfl
  i0 := by kernel_rfl
  i3 := by kernel_rfl
  i4 := by kernel_rfl
  i5 := by kernel_rfl
  i9 := by kernel_rfl
  i46 := by kernel_rfl
  i53 := by kernel_rfl
  i212 := by kernel_rfl
  m17 := by kernel_rfl }
open Go.Lib in
/-- internal/strconv.numDigits, at a d that is not 0: THE NUMBER OF d's DECIMAL DIGITS. The world is as it was. (LAID: no walk: one application.) -/
theorem Tryd.internal_strconv_numDigits (u : Nat) (h1 : 1 ≤ u) (h2 : u < 18446744073709551616) (w : World) (htab : Lib.TabIs Tryd.prog w "internal/strconv.uint64pow10" .u64 Lib.pow10Tab) :
    Calls Tryd.prog 65 #[.int .u64 u] w fun e w' => e = .returned (.int .i64 (Lib.nDigits u)) ∧ w' = w := Any.internal_strconv_numDigits Tryd.laysM284 u h1 h2 w htab
def Tryd.lays285_ren : Go.Shelf.Ren := ⟨fun | 285 => 66 | n => n, fun | 37 => 91 | 53 => 88 | 3 => 3 | 4 => 4 | 51 => 96 | 9 => 9 | 5 => 5 | 0 => 0 | n => n, fun | n => n⟩
theorem Tryd.lays285 : Go.Proofs.Lays.n285 Tryd.prog Tryd.lays285_ren := {
  mixed := by kernel_rfl
  f285 := Tryd.func66.trans (congrArg some (by kernel_rfl))
  t0 := Tryd.underlying0
  a0 := Tryd.isAgg0
  z0 := Tryd.sizeOf0
  v0 := Tryd.zeroValue0
  t3 := Tryd.underlying3
  a3 := Tryd.isAgg3
  z3 := Tryd.sizeOf3
  v3 := Tryd.zeroValue3
  t4 := Tryd.underlying4
  a4 := Tryd.isAgg4
  z4 := Tryd.sizeOf4
  v4 := Tryd.zeroValue4
  t5 := Tryd.underlying5
  a5 := Tryd.isAgg5
  z5 := Tryd.sizeOf5
  v5 := Tryd.zeroValue5
  t9 := Tryd.underlying9
  a9 := Tryd.isAgg9
  z9 := Tryd.sizeOf9
  v9 := Tryd.zeroValue9
  t37 := Tryd.underlying91
  a37 := Tryd.isAgg91
  z37 := Tryd.sizeOf91
  v37 := Tryd.zeroValue91
  t51 := Tryd.underlying96
  a51 := Tryd.isAgg96
  z51 := Tryd.sizeOf96
  v51 := Tryd.zeroValue96
  t53 := Tryd.underlying88
  a53 := Tryd.isAgg88
  z53 := Tryd.sizeOf88
  v53 := Tryd.zeroValue88 }
open Go.RowKit Go.Sort Go.Lib in
theorem Tryd.internal_strconv_formatBase10 (blk off cap : Nat) (u : Nat) (d : Array UInt8) (w : World) (hH : Holds (fun (b : UInt8) => Value.int .u8 (b.toNat : Int)) w blk off d) (hu : u < 10 ^ d.size) (hu64 : u < 18446744073709551616) (hsz : d.size < 4611686018427387904) :
    Calls Tryd.prog 66 #[.slice (some ⟨blk, off, none⟩) d.size cap, .int .u64 u] w fun e w' =>
      e = .returned (.tuple #[]) ∧ ∃ (n v' : Nat) (dk : Array UInt8), w' = (putRow (fun (b : UInt8) => Value.int .u8 (b.toNat : Int)) w blk off dk).drewN n ∧ FmtInv d.size u 0 v' dk := Any.internal_strconv_formatBase10 Tryd.lays285 blk off cap u d w hH hu hu64 hsz
def Tryd.laysM246_ren : Go.Shelf.Ren := ⟨fun | 246 => 63 | 283 => 64 | 284 => 65 | 285 => 66 | 286 => 67 | 129 => 69 | 317 => 68 | 318 => 70 | 319 => 71 | 320 => 72 | 337 => 73 | 338 => 74 | n => n, fun | 2 => 2 | 3 => 3 | 9 => 9 | 4 => 4 | 171 => 87 | 0 => 0 | 53 => 88 | 37 => 91 | 5 => 5 | 173 => 92 | 212 => 95 | 51 => 96 | 20 => 20 | 213 => 97 | 46 => 99 | 232 => 102 | 233 => 103 | n => n, fun | 17 => 0 | 18 => 1 | 19 => 2 | n => n⟩
theorem Tryd.laysM246 : Go.Proofs.LaysM.n246 Tryd.prog Tryd.laysM246_ren := {
  mixed := by kernel_rfl
  f129 := Tryd.func69.trans (congrArg some (by kernel_rfl))
  f246 := Tryd.func63.trans (congrArg some (by kernel_rfl))
  f283 := Tryd.func64.trans (congrArg some (by kernel_rfl))
  f284 := Tryd.func65.trans (congrArg some (by kernel_rfl))
  f285 := Tryd.func66.trans (congrArg some (by kernel_rfl))
  f286 := Tryd.func67.trans (congrArg some (by kernel_rfl))
  f317 := Tryd.func68.trans (congrArg some (by kernel_rfl))
  f318 := Tryd.func70.trans (congrArg some (by kernel_rfl))
  f319 := Tryd.func71.trans (congrArg some (by kernel_rfl))
  f320 := Tryd.func72.trans (congrArg some (by kernel_rfl))
  f337 := Tryd.func73.trans (congrArg some (by kernel_rfl))
  f338 := Tryd.func74.trans (congrArg some (by kernel_rfl))
  t0 := Tryd.underlying0
  a0 := Tryd.isAgg0
  z0 := Tryd.sizeOf0
  v0 := Tryd.zeroValue0
  t2 := Tryd.underlying2
  a2 := Tryd.isAgg2
  z2 := Tryd.sizeOf2
  v2 := Tryd.zeroValue2
  t3 := Tryd.underlying3
  a3 := Tryd.isAgg3
  z3 := Tryd.sizeOf3
  v3 := Tryd.zeroValue3
  t4 := Tryd.underlying4
  a4 := Tryd.isAgg4
  z4 := Tryd.sizeOf4
  v4 := Tryd.zeroValue4
  t5 := Tryd.underlying5
  a5 := Tryd.isAgg5
  z5 := Tryd.sizeOf5
  v5 := Tryd.zeroValue5
  t9 := Tryd.underlying9
  a9 := Tryd.isAgg9
  z9 := Tryd.sizeOf9
  v9 := Tryd.zeroValue9
  t20 := Tryd.underlying20
  a20 := Tryd.isAgg20
  z20 := Tryd.sizeOf20
  v20 := Tryd.zeroValue20
  t37 := Tryd.underlying91
  a37 := Tryd.isAgg91
  z37 := Tryd.sizeOf91
  v37 := Tryd.zeroValue91
  t46 := Tryd.underlying99
  a46 := Tryd.isAgg99
  z46 := Tryd.sizeOf99
  v46 := Tryd.zeroValue99
  t51 := Tryd.underlying96
  a51 := Tryd.isAgg96
  z51 := Tryd.sizeOf96
  v51 := Tryd.zeroValue96
  t53 := Tryd.underlying88
  a53 := Tryd.isAgg88
  z53 := Tryd.sizeOf88
  v53 := Tryd.zeroValue88
  t171 := Tryd.underlying87
  a171 := Tryd.isAgg87
  z171 := Tryd.sizeOf87
  v171 := Tryd.zeroValue87
  t173 := Tryd.underlying92
  a173 := Tryd.isAgg92
  z173 := Tryd.sizeOf92
  v173 := Tryd.zeroValue92
  t212 := Tryd.underlying95
  a212 := Tryd.isAgg95
  z212 := Tryd.sizeOf95
  v212 := Tryd.zeroValue95
  t213 := Tryd.underlying97
  a213 := Tryd.isAgg97
  z213 := Tryd.sizeOf97
  t232 := Tryd.underlying102
  a232 := Tryd.isAgg102
  z232 := Tryd.sizeOf102
  v232 := Tryd.zeroValue102
  t233 := Tryd.underlying103
  a233 := Tryd.isAgg103
  z233 := Tryd.sizeOf103
  v233 := Tryd.zeroValue103
  g17 := by kernel_rfl
  g18 := by kernel_rfl
  g19 := by kernel_rfl
  i0 := by kernel_rfl
  i2 := by kernel_rfl
  i3 := by kernel_rfl
  i4 := by kernel_rfl
  i5 := by kernel_rfl
  i9 := by kernel_rfl
  i20 := by kernel_rfl
  i37 := by kernel_rfl
  i46 := by kernel_rfl
  i51 := by kernel_rfl
  i53 := by kernel_rfl
  i171 := by kernel_rfl
  i173 := by kernel_rfl
  i212 := by kernel_rfl
  i232 := by kernel_rfl
  i233 := by kernel_rfl
  m17 := by kernel_rfl
  m18 := by kernel_rfl
  m19 := by kernel_rfl }
open Go.RowKit Go.Sort Go.Lib in
theorem Tryd.internal_strconv_FormatInt_10 (n : Int) (h0 : -9223372036854775808 ≤ n) (h1 : n ≤ 9223372036854775807) (w : World) (htab : Lib.TabIs Tryd.prog w "internal/strconv.uint64pow10" .u64 Lib.pow10Tab) :
    Calls Tryd.prog 63 #[.int .i64 n, .int .i64 10] w fun e w' => e = .returned (.string ⟨(Lib.itoa n).toArray⟩) ∧ ∃ k os, w' = grow (w.drewN k) os := Any.internal_strconv_FormatInt_10 Tryd.laysM246 n h0 h1 w htab
def Tryd.lays246_ren : Go.Shelf.Ren := ⟨fun | 246 => 63 | 283 => 64 | 284 => 65 | 285 => 66 | 286 => 67 | 129 => 69 | 317 => 68 | 318 => 70 | 319 => 71 | 320 => 72 | 337 => 73 | 338 => 74 | n => n, fun | 2 => 2 | 3 => 3 | 9 => 9 | 4 => 4 | 171 => 87 | 0 => 0 | 53 => 88 | 37 => 91 | 5 => 5 | 173 => 92 | 212 => 95 | 51 => 96 | 20 => 20 | 213 => 97 | 46 => 99 | 232 => 102 | 233 => 103 | n => n, fun | 17 => 0 | 18 => 1 | 19 => 2 | n => n⟩
theorem Tryd.lays246 : Go.Proofs.Lays.n246 Tryd.prog Tryd.lays246_ren := {
  mixed := by kernel_rfl
  f129 := Tryd.func69.trans (congrArg some (by kernel_rfl))
  f246 := Tryd.func63.trans (congrArg some (by kernel_rfl))
  f283 := Tryd.func64.trans (congrArg some (by kernel_rfl))
  f284 := Tryd.func65.trans (congrArg some (by kernel_rfl))
  f285 := Tryd.func66.trans (congrArg some (by kernel_rfl))
  f286 := Tryd.func67.trans (congrArg some (by kernel_rfl))
  f317 := Tryd.func68.trans (congrArg some (by kernel_rfl))
  f318 := Tryd.func70.trans (congrArg some (by kernel_rfl))
  f319 := Tryd.func71.trans (congrArg some (by kernel_rfl))
  f320 := Tryd.func72.trans (congrArg some (by kernel_rfl))
  f337 := Tryd.func73.trans (congrArg some (by kernel_rfl))
  f338 := Tryd.func74.trans (congrArg some (by kernel_rfl))
  t0 := Tryd.underlying0
  a0 := Tryd.isAgg0
  z0 := Tryd.sizeOf0
  v0 := Tryd.zeroValue0
  t2 := Tryd.underlying2
  a2 := Tryd.isAgg2
  z2 := Tryd.sizeOf2
  v2 := Tryd.zeroValue2
  t3 := Tryd.underlying3
  a3 := Tryd.isAgg3
  z3 := Tryd.sizeOf3
  v3 := Tryd.zeroValue3
  t4 := Tryd.underlying4
  a4 := Tryd.isAgg4
  z4 := Tryd.sizeOf4
  v4 := Tryd.zeroValue4
  t5 := Tryd.underlying5
  a5 := Tryd.isAgg5
  z5 := Tryd.sizeOf5
  v5 := Tryd.zeroValue5
  t9 := Tryd.underlying9
  a9 := Tryd.isAgg9
  z9 := Tryd.sizeOf9
  v9 := Tryd.zeroValue9
  t20 := Tryd.underlying20
  a20 := Tryd.isAgg20
  z20 := Tryd.sizeOf20
  v20 := Tryd.zeroValue20
  t37 := Tryd.underlying91
  a37 := Tryd.isAgg91
  z37 := Tryd.sizeOf91
  v37 := Tryd.zeroValue91
  t46 := Tryd.underlying99
  a46 := Tryd.isAgg99
  z46 := Tryd.sizeOf99
  v46 := Tryd.zeroValue99
  t51 := Tryd.underlying96
  a51 := Tryd.isAgg96
  z51 := Tryd.sizeOf96
  v51 := Tryd.zeroValue96
  t53 := Tryd.underlying88
  a53 := Tryd.isAgg88
  z53 := Tryd.sizeOf88
  v53 := Tryd.zeroValue88
  t171 := Tryd.underlying87
  a171 := Tryd.isAgg87
  z171 := Tryd.sizeOf87
  v171 := Tryd.zeroValue87
  t173 := Tryd.underlying92
  a173 := Tryd.isAgg92
  z173 := Tryd.sizeOf92
  v173 := Tryd.zeroValue92
  t212 := Tryd.underlying95
  a212 := Tryd.isAgg95
  z212 := Tryd.sizeOf95
  v212 := Tryd.zeroValue95
  t213 := Tryd.underlying97
  a213 := Tryd.isAgg97
  z213 := Tryd.sizeOf97
  t232 := Tryd.underlying102
  a232 := Tryd.isAgg102
  z232 := Tryd.sizeOf102
  v232 := Tryd.zeroValue102
  t233 := Tryd.underlying103
  a233 := Tryd.isAgg103
  z233 := Tryd.sizeOf103
  v233 := Tryd.zeroValue103
  g17 := by kernel_rfl
  g18 := by kernel_rfl
  g19 := by kernel_rfl }
open Go.RowKit Go.Sort Go.Lib in
/-- THE ROAD WITHOUT THE TABLE: 0 <= i < 100: two constants are read, nothing is laid: no premise on the world, and the world is as it was. (LAID: no walk: one application.) -/
theorem Tryd.internal_strconv_FormatInt_10_small (i : Nat) (hi : i < 100) (w : World) :
    Calls Tryd.prog 63 #[.int .i64 i, .int .i64 10] w fun e w' => e = .returned (.string ⟨(Lib.decDigits i).toArray⟩) ∧ w' = w := Any.internal_strconv_FormatInt_10_small Tryd.lays246 i hi w
def Tryd.laysM243_ren : Go.Shelf.Ren := ⟨fun | 243 => 62 | 246 => 63 | 283 => 64 | 284 => 65 | 285 => 66 | 286 => 67 | 129 => 69 | 317 => 68 | 318 => 70 | 319 => 71 | 320 => 72 | 337 => 73 | 338 => 74 | n => n, fun | 3 => 3 | 9 => 9 | 2 => 2 | 4 => 4 | 171 => 87 | 0 => 0 | 53 => 88 | 37 => 91 | 5 => 5 | 173 => 92 | 212 => 95 | 51 => 96 | 20 => 20 | 213 => 97 | 46 => 99 | 232 => 102 | 233 => 103 | n => n, fun | 17 => 0 | 18 => 1 | 19 => 2 | n => n⟩
theorem Tryd.laysM243 : Go.Proofs.LaysM.n243 Tryd.prog Tryd.laysM243_ren := {
  mixed := by kernel_rfl
  f129 := Tryd.func69.trans (congrArg some (by kernel_rfl))
  f243 := Tryd.func62.trans (congrArg some (by kernel_rfl))
  f246 := Tryd.func63.trans (congrArg some (by kernel_rfl))
  f283 := Tryd.func64.trans (congrArg some (by kernel_rfl))
  f284 := Tryd.func65.trans (congrArg some (by kernel_rfl))
  f285 := Tryd.func66.trans (congrArg some (by kernel_rfl))
  f286 := Tryd.func67.trans (congrArg some (by kernel_rfl))
  f317 := Tryd.func68.trans (congrArg some (by kernel_rfl))
  f318 := Tryd.func70.trans (congrArg some (by kernel_rfl))
  f319 := Tryd.func71.trans (congrArg some (by kernel_rfl))
  f320 := Tryd.func72.trans (congrArg some (by kernel_rfl))
  f337 := Tryd.func73.trans (congrArg some (by kernel_rfl))
  f338 := Tryd.func74.trans (congrArg some (by kernel_rfl))
  t0 := Tryd.underlying0
  a0 := Tryd.isAgg0
  z0 := Tryd.sizeOf0
  v0 := Tryd.zeroValue0
  t2 := Tryd.underlying2
  a2 := Tryd.isAgg2
  z2 := Tryd.sizeOf2
  v2 := Tryd.zeroValue2
  t3 := Tryd.underlying3
  a3 := Tryd.isAgg3
  z3 := Tryd.sizeOf3
  v3 := Tryd.zeroValue3
  t4 := Tryd.underlying4
  a4 := Tryd.isAgg4
  z4 := Tryd.sizeOf4
  v4 := Tryd.zeroValue4
  t5 := Tryd.underlying5
  a5 := Tryd.isAgg5
  z5 := Tryd.sizeOf5
  v5 := Tryd.zeroValue5
  t9 := Tryd.underlying9
  a9 := Tryd.isAgg9
  z9 := Tryd.sizeOf9
  v9 := Tryd.zeroValue9
  t20 := Tryd.underlying20
  a20 := Tryd.isAgg20
  z20 := Tryd.sizeOf20
  v20 := Tryd.zeroValue20
  t37 := Tryd.underlying91
  a37 := Tryd.isAgg91
  z37 := Tryd.sizeOf91
  v37 := Tryd.zeroValue91
  t46 := Tryd.underlying99
  a46 := Tryd.isAgg99
  z46 := Tryd.sizeOf99
  v46 := Tryd.zeroValue99
  t51 := Tryd.underlying96
  a51 := Tryd.isAgg96
  z51 := Tryd.sizeOf96
  v51 := Tryd.zeroValue96
  t53 := Tryd.underlying88
  a53 := Tryd.isAgg88
  z53 := Tryd.sizeOf88
  v53 := Tryd.zeroValue88
  t171 := Tryd.underlying87
  a171 := Tryd.isAgg87
  z171 := Tryd.sizeOf87
  v171 := Tryd.zeroValue87
  t173 := Tryd.underlying92
  a173 := Tryd.isAgg92
  z173 := Tryd.sizeOf92
  v173 := Tryd.zeroValue92
  t212 := Tryd.underlying95
  a212 := Tryd.isAgg95
  z212 := Tryd.sizeOf95
  v212 := Tryd.zeroValue95
  t213 := Tryd.underlying97
  a213 := Tryd.isAgg97
  z213 := Tryd.sizeOf97
  t232 := Tryd.underlying102
  a232 := Tryd.isAgg102
  z232 := Tryd.sizeOf102
  v232 := Tryd.zeroValue102
  t233 := Tryd.underlying103
  a233 := Tryd.isAgg103
  z233 := Tryd.sizeOf103
  v233 := Tryd.zeroValue103
  g17 := by kernel_rfl
  g18 := by kernel_rfl
  g19 := by kernel_rfl
  i0 := by kernel_rfl
  i2 := by kernel_rfl
  i3 := by kernel_rfl
  i4 := by kernel_rfl
  i5 := by kernel_rfl
  i9 := by kernel_rfl
  i20 := by kernel_rfl
  i37 := by kernel_rfl
  i46 := by kernel_rfl
  i51 := by kernel_rfl
  i53 := by kernel_rfl
  i171 := by kernel_rfl
  i173 := by kernel_rfl
  i212 := by kernel_rfl
  i232 := by kernel_rfl
  i233 := by kernel_rfl
  m17 := by kernel_rfl
  m18 := by kernel_rfl
  m19 := by kernel_rfl }
open Go.RowKit Go.Sort Go.Lib in
theorem Tryd.internal_strconv_Itoa (n : Int) (h0 : -9223372036854775808 ≤ n) (h1 : n ≤ 9223372036854775807) (w : World) (htab : Lib.TabIs Tryd.prog w "internal/strconv.uint64pow10" .u64 Lib.pow10Tab) :
    Calls Tryd.prog 62 #[.int .i64 n] w fun e w' => e = .returned (.string ⟨(Lib.itoa n).toArray⟩) ∧ ∃ k os, w' = grow (w.drewN k) os := Any.internal_strconv_Itoa Tryd.laysM243 n h0 h1 w htab
def Tryd.lays243_ren : Go.Shelf.Ren := ⟨fun | 243 => 62 | 246 => 63 | 283 => 64 | 284 => 65 | 285 => 66 | 286 => 67 | 129 => 69 | 317 => 68 | 318 => 70 | 319 => 71 | 320 => 72 | 337 => 73 | 338 => 74 | n => n, fun | 3 => 3 | 9 => 9 | 2 => 2 | 4 => 4 | 171 => 87 | 0 => 0 | 53 => 88 | 37 => 91 | 5 => 5 | 173 => 92 | 212 => 95 | 51 => 96 | 20 => 20 | 213 => 97 | 46 => 99 | 232 => 102 | 233 => 103 | n => n, fun | 17 => 0 | 18 => 1 | 19 => 2 | n => n⟩
theorem Tryd.lays243 : Go.Proofs.Lays.n243 Tryd.prog Tryd.lays243_ren := {
  mixed := by kernel_rfl
  f129 := Tryd.func69.trans (congrArg some (by kernel_rfl))
  f243 := Tryd.func62.trans (congrArg some (by kernel_rfl))
  f246 := Tryd.func63.trans (congrArg some (by kernel_rfl))
  f283 := Tryd.func64.trans (congrArg some (by kernel_rfl))
  f284 := Tryd.func65.trans (congrArg some (by kernel_rfl))
  f285 := Tryd.func66.trans (congrArg some (by kernel_rfl))
  f286 := Tryd.func67.trans (congrArg some (by kernel_rfl))
  f317 := Tryd.func68.trans (congrArg some (by kernel_rfl))
  f318 := Tryd.func70.trans (congrArg some (by kernel_rfl))
  f319 := Tryd.func71.trans (congrArg some (by kernel_rfl))
  f320 := Tryd.func72.trans (congrArg some (by kernel_rfl))
  f337 := Tryd.func73.trans (congrArg some (by kernel_rfl))
  f338 := Tryd.func74.trans (congrArg some (by kernel_rfl))
  t0 := Tryd.underlying0
  a0 := Tryd.isAgg0
  z0 := Tryd.sizeOf0
  v0 := Tryd.zeroValue0
  t2 := Tryd.underlying2
  a2 := Tryd.isAgg2
  z2 := Tryd.sizeOf2
  v2 := Tryd.zeroValue2
  t3 := Tryd.underlying3
  a3 := Tryd.isAgg3
  z3 := Tryd.sizeOf3
  v3 := Tryd.zeroValue3
  t4 := Tryd.underlying4
  a4 := Tryd.isAgg4
  z4 := Tryd.sizeOf4
  v4 := Tryd.zeroValue4
  t5 := Tryd.underlying5
  a5 := Tryd.isAgg5
  z5 := Tryd.sizeOf5
  v5 := Tryd.zeroValue5
  t9 := Tryd.underlying9
  a9 := Tryd.isAgg9
  z9 := Tryd.sizeOf9
  v9 := Tryd.zeroValue9
  t20 := Tryd.underlying20
  a20 := Tryd.isAgg20
  z20 := Tryd.sizeOf20
  v20 := Tryd.zeroValue20
  t37 := Tryd.underlying91
  a37 := Tryd.isAgg91
  z37 := Tryd.sizeOf91
  v37 := Tryd.zeroValue91
  t46 := Tryd.underlying99
  a46 := Tryd.isAgg99
  z46 := Tryd.sizeOf99
  v46 := Tryd.zeroValue99
  t51 := Tryd.underlying96
  a51 := Tryd.isAgg96
  z51 := Tryd.sizeOf96
  v51 := Tryd.zeroValue96
  t53 := Tryd.underlying88
  a53 := Tryd.isAgg88
  z53 := Tryd.sizeOf88
  v53 := Tryd.zeroValue88
  t171 := Tryd.underlying87
  a171 := Tryd.isAgg87
  z171 := Tryd.sizeOf87
  v171 := Tryd.zeroValue87
  t173 := Tryd.underlying92
  a173 := Tryd.isAgg92
  z173 := Tryd.sizeOf92
  v173 := Tryd.zeroValue92
  t212 := Tryd.underlying95
  a212 := Tryd.isAgg95
  z212 := Tryd.sizeOf95
  v212 := Tryd.zeroValue95
  t213 := Tryd.underlying97
  a213 := Tryd.isAgg97
  z213 := Tryd.sizeOf97
  t232 := Tryd.underlying102
  a232 := Tryd.isAgg102
  z232 := Tryd.sizeOf102
  v232 := Tryd.zeroValue102
  t233 := Tryd.underlying103
  a233 := Tryd.isAgg103
  z233 := Tryd.sizeOf103
  v233 := Tryd.zeroValue103
  g17 := by kernel_rfl
  g18 := by kernel_rfl
  g19 := by kernel_rfl }
open Go.RowKit Go.Sort Go.Lib in
/-- THE ROAD WITHOUT THE TABLE: 0 <= i < 100. (LAID: no walk: one application.) -/
theorem Tryd.internal_strconv_Itoa_small (i : Nat) (hi : i < 100) (w : World) :
    Calls Tryd.prog 62 #[.int .i64 i] w fun e w' => e = .returned (.string ⟨(Lib.decDigits i).toArray⟩) ∧ w' = w := Any.internal_strconv_Itoa_small Tryd.lays243 i hi w
def Tryd.laysM171_ren : Go.Shelf.Ren := ⟨fun | 171 => 59 | 243 => 62 | 246 => 63 | 283 => 64 | 284 => 65 | 285 => 66 | 286 => 67 | 129 => 69 | 317 => 68 | 318 => 70 | 319 => 71 | 320 => 72 | 337 => 73 | 338 => 74 | n => n, fun | 3 => 3 | 9 => 9 | 2 => 2 | 4 => 4 | 171 => 87 | 0 => 0 | 53 => 88 | 37 => 91 | 5 => 5 | 173 => 92 | 212 => 95 | 51 => 96 | 20 => 20 | 213 => 97 | 46 => 99 | 232 => 102 | 233 => 103 | n => n, fun | 17 => 0 | 18 => 1 | 19 => 2 | n => n⟩
theorem Tryd.laysM171 : Go.Proofs.LaysM.n171 Tryd.prog Tryd.laysM171_ren := {
  mixed := by kernel_rfl
  f129 := Tryd.func69.trans (congrArg some (by kernel_rfl))
  f171 := Tryd.func59.trans (congrArg some (by kernel_rfl))
  f243 := Tryd.func62.trans (congrArg some (by kernel_rfl))
  f246 := Tryd.func63.trans (congrArg some (by kernel_rfl))
  f283 := Tryd.func64.trans (congrArg some (by kernel_rfl))
  f284 := Tryd.func65.trans (congrArg some (by kernel_rfl))
  f285 := Tryd.func66.trans (congrArg some (by kernel_rfl))
  f286 := Tryd.func67.trans (congrArg some (by kernel_rfl))
  f317 := Tryd.func68.trans (congrArg some (by kernel_rfl))
  f318 := Tryd.func70.trans (congrArg some (by kernel_rfl))
  f319 := Tryd.func71.trans (congrArg some (by kernel_rfl))
  f320 := Tryd.func72.trans (congrArg some (by kernel_rfl))
  f337 := Tryd.func73.trans (congrArg some (by kernel_rfl))
  f338 := Tryd.func74.trans (congrArg some (by kernel_rfl))
  t0 := Tryd.underlying0
  a0 := Tryd.isAgg0
  z0 := Tryd.sizeOf0
  v0 := Tryd.zeroValue0
  t2 := Tryd.underlying2
  a2 := Tryd.isAgg2
  z2 := Tryd.sizeOf2
  v2 := Tryd.zeroValue2
  t3 := Tryd.underlying3
  a3 := Tryd.isAgg3
  z3 := Tryd.sizeOf3
  v3 := Tryd.zeroValue3
  t4 := Tryd.underlying4
  a4 := Tryd.isAgg4
  z4 := Tryd.sizeOf4
  v4 := Tryd.zeroValue4
  t5 := Tryd.underlying5
  a5 := Tryd.isAgg5
  z5 := Tryd.sizeOf5
  v5 := Tryd.zeroValue5
  t9 := Tryd.underlying9
  a9 := Tryd.isAgg9
  z9 := Tryd.sizeOf9
  v9 := Tryd.zeroValue9
  t20 := Tryd.underlying20
  a20 := Tryd.isAgg20
  z20 := Tryd.sizeOf20
  v20 := Tryd.zeroValue20
  t37 := Tryd.underlying91
  a37 := Tryd.isAgg91
  z37 := Tryd.sizeOf91
  v37 := Tryd.zeroValue91
  t46 := Tryd.underlying99
  a46 := Tryd.isAgg99
  z46 := Tryd.sizeOf99
  v46 := Tryd.zeroValue99
  t51 := Tryd.underlying96
  a51 := Tryd.isAgg96
  z51 := Tryd.sizeOf96
  v51 := Tryd.zeroValue96
  t53 := Tryd.underlying88
  a53 := Tryd.isAgg88
  z53 := Tryd.sizeOf88
  v53 := Tryd.zeroValue88
  t171 := Tryd.underlying87
  a171 := Tryd.isAgg87
  z171 := Tryd.sizeOf87
  v171 := Tryd.zeroValue87
  t173 := Tryd.underlying92
  a173 := Tryd.isAgg92
  z173 := Tryd.sizeOf92
  v173 := Tryd.zeroValue92
  t212 := Tryd.underlying95
  a212 := Tryd.isAgg95
  z212 := Tryd.sizeOf95
  v212 := Tryd.zeroValue95
  t213 := Tryd.underlying97
  a213 := Tryd.isAgg97
  z213 := Tryd.sizeOf97
  t232 := Tryd.underlying102
  a232 := Tryd.isAgg102
  z232 := Tryd.sizeOf102
  v232 := Tryd.zeroValue102
  t233 := Tryd.underlying103
  a233 := Tryd.isAgg103
  z233 := Tryd.sizeOf103
  v233 := Tryd.zeroValue103
  g17 := by kernel_rfl
  g18 := by kernel_rfl
  g19 := by kernel_rfl
  i0 := by kernel_rfl
  i2 := by kernel_rfl
  i3 := by kernel_rfl
  i4 := by kernel_rfl
  i5 := by kernel_rfl
  i9 := by kernel_rfl
  i20 := by kernel_rfl
  i37 := by kernel_rfl
  i46 := by kernel_rfl
  i51 := by kernel_rfl
  i53 := by kernel_rfl
  i171 := by kernel_rfl
  i173 := by kernel_rfl
  i212 := by kernel_rfl
  i232 := by kernel_rfl
  i233 := by kernel_rfl
  m17 := by kernel_rfl
  m18 := by kernel_rfl
  m19 := by kernel_rfl }
open Go.RowKit Go.Sort Go.Lib in
theorem Tryd.strconv_Itoa (n : Int) (h0 : -9223372036854775808 ≤ n) (h1 : n ≤ 9223372036854775807) (w : World) (htab : Lib.TabIs Tryd.prog w "internal/strconv.uint64pow10" .u64 Lib.pow10Tab) :
    Calls Tryd.prog 59 #[.int .i64 n] w fun e w' => e = .returned (.string ⟨(Lib.itoa n).toArray⟩) ∧ ∃ k os, w' = grow (w.drewN k) os := Any.strconv_Itoa Tryd.laysM171 n h0 h1 w htab
def Tryd.lays171_ren : Go.Shelf.Ren := ⟨fun | 171 => 59 | 243 => 62 | 246 => 63 | 283 => 64 | 284 => 65 | 285 => 66 | 286 => 67 | 129 => 69 | 317 => 68 | 318 => 70 | 319 => 71 | 320 => 72 | 337 => 73 | 338 => 74 | n => n, fun | 3 => 3 | 9 => 9 | 2 => 2 | 4 => 4 | 171 => 87 | 0 => 0 | 53 => 88 | 37 => 91 | 5 => 5 | 173 => 92 | 212 => 95 | 51 => 96 | 20 => 20 | 213 => 97 | 46 => 99 | 232 => 102 | 233 => 103 | n => n, fun | 17 => 0 | 18 => 1 | 19 => 2 | n => n⟩
theorem Tryd.lays171 : Go.Proofs.Lays.n171 Tryd.prog Tryd.lays171_ren := {
  mixed := by kernel_rfl
  f129 := Tryd.func69.trans (congrArg some (by kernel_rfl))
  f171 := Tryd.func59.trans (congrArg some (by kernel_rfl))
  f243 := Tryd.func62.trans (congrArg some (by kernel_rfl))
  f246 := Tryd.func63.trans (congrArg some (by kernel_rfl))
  f283 := Tryd.func64.trans (congrArg some (by kernel_rfl))
  f284 := Tryd.func65.trans (congrArg some (by kernel_rfl))
  f285 := Tryd.func66.trans (congrArg some (by kernel_rfl))
  f286 := Tryd.func67.trans (congrArg some (by kernel_rfl))
  f317 := Tryd.func68.trans (congrArg some (by kernel_rfl))
  f318 := Tryd.func70.trans (congrArg some (by kernel_rfl))
  f319 := Tryd.func71.trans (congrArg some (by kernel_rfl))
  f320 := Tryd.func72.trans (congrArg some (by kernel_rfl))
  f337 := Tryd.func73.trans (congrArg some (by kernel_rfl))
  f338 := Tryd.func74.trans (congrArg some (by kernel_rfl))
  t0 := Tryd.underlying0
  a0 := Tryd.isAgg0
  z0 := Tryd.sizeOf0
  v0 := Tryd.zeroValue0
  t2 := Tryd.underlying2
  a2 := Tryd.isAgg2
  z2 := Tryd.sizeOf2
  v2 := Tryd.zeroValue2
  t3 := Tryd.underlying3
  a3 := Tryd.isAgg3
  z3 := Tryd.sizeOf3
  v3 := Tryd.zeroValue3
  t4 := Tryd.underlying4
  a4 := Tryd.isAgg4
  z4 := Tryd.sizeOf4
  v4 := Tryd.zeroValue4
  t5 := Tryd.underlying5
  a5 := Tryd.isAgg5
  z5 := Tryd.sizeOf5
  v5 := Tryd.zeroValue5
  t9 := Tryd.underlying9
  a9 := Tryd.isAgg9
  z9 := Tryd.sizeOf9
  v9 := Tryd.zeroValue9
  t20 := Tryd.underlying20
  a20 := Tryd.isAgg20
  z20 := Tryd.sizeOf20
  v20 := Tryd.zeroValue20
  t37 := Tryd.underlying91
  a37 := Tryd.isAgg91
  z37 := Tryd.sizeOf91
  v37 := Tryd.zeroValue91
  t46 := Tryd.underlying99
  a46 := Tryd.isAgg99
  z46 := Tryd.sizeOf99
  v46 := Tryd.zeroValue99
  t51 := Tryd.underlying96
  a51 := Tryd.isAgg96
  z51 := Tryd.sizeOf96
  v51 := Tryd.zeroValue96
  t53 := Tryd.underlying88
  a53 := Tryd.isAgg88
  z53 := Tryd.sizeOf88
  v53 := Tryd.zeroValue88
  t171 := Tryd.underlying87
  a171 := Tryd.isAgg87
  z171 := Tryd.sizeOf87
  v171 := Tryd.zeroValue87
  t173 := Tryd.underlying92
  a173 := Tryd.isAgg92
  z173 := Tryd.sizeOf92
  v173 := Tryd.zeroValue92
  t212 := Tryd.underlying95
  a212 := Tryd.isAgg95
  z212 := Tryd.sizeOf95
  v212 := Tryd.zeroValue95
  t213 := Tryd.underlying97
  a213 := Tryd.isAgg97
  z213 := Tryd.sizeOf97
  t232 := Tryd.underlying102
  a232 := Tryd.isAgg102
  z232 := Tryd.sizeOf102
  v232 := Tryd.zeroValue102
  t233 := Tryd.underlying103
  a233 := Tryd.isAgg103
  z233 := Tryd.sizeOf103
  v233 := Tryd.zeroValue103
  g17 := by kernel_rfl
  g18 := by kernel_rfl
  g19 := by kernel_rfl }
open Go.RowKit Go.Sort Go.Lib in
/-- THE ROAD WITHOUT THE TABLE: 0 <= i < 100: NO PREMISE ON THE WORLD, AND THE WORLD IS AS IT WAS: a row that keeps its argument in that range need list no table ('laid = []'). (LAID: no walk: one application.) -/
theorem Tryd.strconv_Itoa_small (i : Nat) (hi : i < 100) (w : World) :
    Calls Tryd.prog 59 #[.int .i64 i] w fun e w' => e = .returned (.string ⟨(Lib.decDigits i).toArray⟩) ∧ w' = w := Any.strconv_Itoa_small Tryd.lays171 i hi w
def Tryd.laysNm216_ren : Go.Shelf.Ren := ⟨fun | 16 => 22 | n => n, fun | 24 => 22 | 9 => 9 | 4 => 4 | n => n, fun | n => n⟩
theorem Tryd.laysNm216 : Go.Proofs.Lays2.n16 Tryd.prog Tryd.laysNm216_ren := {
  mixed := by kernel_rfl
  f16 := Tryd.func22.trans (congrArg some (by kernel_rfl))
  t4 := Tryd.underlying4
  a4 := Tryd.isAgg4
  z4 := Tryd.sizeOf4
  v4 := Tryd.zeroValue4
  t9 := Tryd.underlying9
  a9 := Tryd.isAgg9
  z9 := Tryd.sizeOf9
  v9 := Tryd.zeroValue9
  t24 := Tryd.underlying22
  a24 := Tryd.isAgg22
  z24 := Tryd.sizeOf22
  v24 := Tryd.zeroValue22
  i9 := by kernel_rfl }
open Go.RowKit Go.Lib in
theorem Tryd.slices_Clone_string (b off n c : Nat) (zs : List ByteArray) (w : World) (hz : n ≤ zs.length) (hbig : n * 16 ≤ 140737488355328) (hc : ∀ j, j < zs.length → w.cell? ⟨b, off + j, none⟩ = some (.string (zs.getD j ByteArray.empty))) :
    Calls Tryd.prog 22 #[.slice (some ⟨b, off, none⟩) n c] w fun e w' => ∃ v', e = .returned v' ∧ w'.ownsRow w.heap.size 9 1 v' n ((zs.take n).map (Value.string)) ∧ v' ≠ .slice none 0 0 ∧ Below w.heap.size w w' := Any.slices_Clone_string Tryd.laysNm216 b off n c zs w hz hbig hc
open Go.RowKit Go.Lib in
/-- The same at nil: nil comes back; the world is as it was. (LAID: no walk: one application.) -/
theorem Tryd.slices_Clone_string_nil (n c : Nat) (w : World) :
    Calls Tryd.prog 22 #[.slice none n c] w fun e w' => e = .returned (.slice none 0 0) ∧ w' = w := Any.slices_Clone_string_nil Tryd.laysNm216 n c w
open Go.RowKit Go.Lib in
/-- The same at a slice of length 0 that is not nil, WHATEVER ITS ADDRESS (no cell is asked for): a slice that is not nil and owns nothing comes back. (LAID: no walk: one application.) -/
theorem Tryd.slices_Clone_string_zero (a : Addr) (c : Nat) (w : World) :
    Calls Tryd.prog 22 #[.slice (some a) 0 c] w fun e w' => ∃ v', e = .returned v' ∧ w'.ownsRow w.heap.size 9 1 v' 0 [] ∧ v' ≠ .slice none 0 0 ∧ Below w.heap.size w w' := Any.slices_Clone_string_zero Tryd.laysNm216 a c w
def Tryd.laysSlE041_f22_ren : Go.Shelf.Ren := ⟨fun | 41 => 22 | n => n, fun | 22 => 22 | 23 => 9 | 4 => 4 | n => n, fun | n => n⟩
theorem Tryd.laysSlE041_f22 : Go.Proofs.SlLaysE0.n41 Tryd.prog Tryd.laysSlE041_f22_ren := {
  mixed := by kernel_rfl
  f41 := ⟨Tryd.f22.name, by decide, Tryd.func22.trans (congrArg some (by kernel_rfl))⟩
  t4 := Tryd.underlying4
  a4 := Tryd.isAgg4
  z4 := Tryd.sizeOf4
  v4 := Tryd.zeroValue4
  t22 := Tryd.underlying22
  a22 := Tryd.isAgg22
  z22 := Tryd.sizeOf22
  v22 := Tryd.zeroValue22 }
open Go.RowKit Go.Lib in
theorem Tryd.slices_Clone (i0 : TypeInfo) (z : Value) (size bytes : Nat) (hi : Tryd.prog.info? 9 = some i0) (hz0 : i0.zero = some z) (hz1 : i0.size = size) (hz2 : i0.bytes = bytes) (hzs : z.cells.size = size) (hsz : 0 < size) (z23 : ∀ w, (Go.sizeOf 9).run Tryd.prog w = .ok size w) (b off n c : Nat) (news : List Value) (w : World) (hl : news.length = n * size) (hn : n ≤ maxLen) (hbig : n * bytes ≤ 140737488355328) (hc : ∀ j u, news[j]? = some u → w.cell? ⟨b, off + j, none⟩ = some u) (h1 : ∀ u ∈ news, u.oneCell' = true) :
    Calls Tryd.prog 22 #[.slice (some ⟨b, off, none⟩) n c] w fun e w' => ∃ v', e = .returned v' ∧ w'.ownsRow w.heap.size 9 size v' n news ∧ v' ≠ .slice none 0 0 ∧ Below w.heap.size w w' := AnyE.slices_Clone Tryd.laysSlE041_f22 i0 z size bytes hi hz0 hz1 hz2 hzs hsz z23 b off n c news w hl hn hbig hc h1
open Go.RowKit Go.Lib in
/-- The same at nil: nil comes back; the world is as it was; nothing is asked of the element's type. (LAID AT THE INSTANCE 'slices.Clone[[]string,string]': no walk: one application.) -/
theorem Tryd.slices_Clone_nil (n c : Nat) (w : World) :
    Calls Tryd.prog 22 #[.slice none n c] w fun e w' => e = .returned (.slice none 0 0) ∧ w' = w := AnyE.slices_Clone_nil Tryd.laysSlE041_f22 n c w
end Go.Proofs

namespace Go.Ab
open Go.Proofs

/-- What the first variable holds. -/
def GlobOk (G0 : Nat → Option Obj) : Prop := ∀ w : World, (∀ b, b < nG → w.heap[b]? = G0 b) → Lib.TabIs Tryd.prog w "internal/strconv.uint64pow10" .u64 Lib.pow10Tab

theorem good_lib {P : Program} {nG : Nat} {G0 : Nat → Option Obj} {f : FuncId} {args : List AV} {vals : List Value} {r : AV} {v : Value} (hb : hasB P f = true)
    (hargs : ∀ (K : KM) (S : Stb) (w : World) (us : List Value), VRs K S w args us → us = vals) (hr : ∀ (K : KM) (S : Stb) (w : World), VR K S w r v)
    (h : ∀ w : World, (∀ b, b < nG → w.heap[b]? = G0 b) → Calls P f vals.toArray w fun e w' => e = .returned v ∧ ∃ k os, w' = Sort.grow (w.drewN k) os) : Good P nG G0 f args [] r [] := by
  have hb' := hb
  unfold hasB at hb'
  split at hb'
  · rename_i fn hf
    simp only [Bool.and_eq_true, Bool.not_eq_true'] at hb'
    refine ⟨⟨fn, hf, hb'.1, hb'.2⟩, fun w K S us hrel hus => ?_⟩
    rw [hargs K S w us hus]
    refine (h w hrel.fix).mono fun e w' ⟨he, k, os, hw⟩ => ?_
    have hheap : w'.heap = w.heap ++ os := by rw [hw]; rfl
    have hsz : w.heap.size ≤ w'.heap.size := by rw [hheap]; simp
    obtain ⟨g1, g2⟩ := hrel.ext (n0 := 0) (S' := fun _ _ => False) (w' := w') (by rw [hw]; rfl) (by rw [hw]; rfl) (by rw [hw]; rfl) hsz (fun b hb => by rw [hheap, Array.getElem?_append_left hb]) (fun b off hs => hs.elim)
    exact ⟨v, K, _, he, g1, hr _ _ _, g2⟩
  · cases hb'

theorem good_itoa {G0 : Nat → Option Obj} (hG : GlobOk G0) (n : Int) (h0 : -9223372036854775808 ≤ n) (h1 : n ≤ 9223372036854775807) : Good PG nG G0 f_strconv_Itoa [.int .i64 n] [] (.str (Lib.itoa n)) [] := by
  refine good_lib (vals := [.int .i64 n]) (v := .string ⟨(Lib.itoa n).toArray⟩) (by kernel_rfl) (fun K S w us hus => ?_) (fun K S w => (PR.str _).vr) fun w hw => Tryd.strconv_Itoa n h0 h1 w (hG w hw)
  obtain ⟨hl, hv⟩ := hus
  match us, hl with
  | [u], _ =>
    have := VR_int (hv 0 _ u rfl rfl)
    rw [this]
end Go.Ab

namespace Go.Ab
open Go.Proofs
set_option maxRecDepth 100000

def an_tree_Root : FAnn := ⟨[], [], none, []⟩
def an_tree_Half : FAnn := ⟨[], [(0, [0, 4], [])], none, []⟩
def an_seal_None : FAnn := ⟨[], [], none, []⟩
def an_seal_Leaf : FAnn := ⟨[], [], none, []⟩
def an_seal_Node : FAnn := ⟨[], [], none, []⟩
def an_greatsealref_HalfOf : FAnn := ⟨[], [(0, [0, 3], [])], none, []⟩
def an_greatsealref_LeafOf : FAnn := ⟨[], [], none, []⟩
def an_greatsealref_NodeOf : FAnn := ⟨[], [], none, []⟩
def an_slices_Equal_string : FAnn := ⟨[], [(0, [0, 1, 12, 13], [])], none, []⟩
def an_greatseallaw_at : FAnn := ⟨[], [], none, []⟩
def an_greatseallaw_planted : FAnn := ⟨[], [], none, []⟩
def an_greatsealref_RootOf : FAnn := ⟨[(7, 3, ⟨[0, 1], [], []⟩)], [], none, []⟩
def an_greatsealref_RootOf_c1 : FAnn := ⟨[(4, 3, ⟨[0, 1], [], []⟩), (7, 3, ⟨[0, 1], [], []⟩)], [], none, []⟩
def an_slices_Clone_string : FAnn := ⟨[], [], some [2], []⟩
def an_greatsealref_in : FAnn := ⟨[], [], none, []⟩

theorem tree_Root_run (nll0 : Bool) (l0 : List (List AV)) (G0 : Nat → Option Go.Obj) (R : AV → List (Option Blk) → Prop) (h :
  ifK (decide ((↑(List.length l0) : Int) > (24 : Int))) (R (AV.tup [AV.str [], AV.int Go.IntKind.i64 (2 : Int)]) [])
  (ifK ((↑(List.length l0) : Int) == (0 : Int)) (∃ s0, Good PG nG G0 f_seal_None [] [] (AV.str s0) [] ∧ R (AV.tup [AV.str s0, AV.int Go.IntKind.i64 (0 : Int)]) [])
    (ifK ((↑(List.length l0) : Int) == (1 : Int))
      ((0 : Int) ≤ (0 : Int) ∧ ∃ s1, l0[(0 : Nat)]? = some [AV.str s1] ∧ ∃ s2 n3, Good PG nG G0 f_seal_Leaf [AV.str s1] [] (AV.tup [AV.str s2, AV.int Go.IntKind.i64 n3]) [] ∧ R (AV.tup [AV.str s2, AV.int Go.IntKind.i64 n3]) [])
      (∃ n4 n5,
        Good PG nG G0 f_tree_Half [AV.int Go.IntKind.i64 (↑(List.length l0) : Int)] [] (AV.tup [AV.int Go.IntKind.i64 n4, AV.int Go.IntKind.i64 n5]) [] ∧
          ifK (n5 != (0 : Int)) (R (AV.tup [AV.str [], AV.int Go.IntKind.i64 n5]) [])
            ((0 : Int) ≤ (0 : Int) ∧
              (0 : Int) ≤ n4 ∧
                n4 ≤ (↑(List.length l0) : Int) ∧
                  ∃ s6 n7,
                    Good PG nG G0 f_tree_Root [AV.sl (1 : Nat) nll0 none (List.drop (0 : Nat) (List.take (Int.toNat n4) l0))] [] (AV.tup [AV.str s6, AV.int Go.IntKind.i64 n7]) [] ∧
                      ifK (n7 != (0 : Int)) (R (AV.tup [AV.str [], AV.int Go.IntKind.i64 n7]) [])
                        ((0 : Int) ≤ n4 ∧
                          n4 ≤ (↑(List.length l0) : Int) ∧
                            (↑(List.length l0) : Int) ≤ (↑(List.length l0) : Int) ∧
                              ∃ s8 n9,
                                Good PG nG G0 f_tree_Root [AV.sl (1 : Nat) nll0 none (List.drop (Int.toNat n4) (List.take (Int.toNat (↑(List.length l0) : Int)) l0))] [] (AV.tup [AV.str s8, AV.int Go.IntKind.i64 n9]) [] ∧
                                  ifK (n9 != (0 : Int)) (R (AV.tup [AV.str [], AV.int Go.IntKind.i64 n9]) [])
                                    (∃ s10 n11, Good PG nG G0 f_seal_Node [AV.str s6, AV.str s8] [] (AV.tup [AV.str s10, AV.int Go.IntKind.i64 n11]) [] ∧ R (AV.tup [AV.str s10, AV.int Go.IntKind.i64 n11]) []))))))) :
  Hold (runF PG ty nG G0 an_tree_Root f_tree_Root [AV.sl (1 : Nat) nll0 none l0] [] R) := kshow h (by kernel_rfl)

theorem tree_Half_run (n0 : Int) (G0 : Nat → Option Go.Obj) (R : AV → List (Option Blk) → Prop) (h :
  ifK (decide (n0 < (2 : Int))) (R (AV.tup [AV.int Go.IntKind.i64 (0 : Int), AV.int Go.IntKind.i64 (3 : Int)]) [])
  (ifK (decide (n0 > (24 : Int))) (R (AV.tup [AV.int Go.IntKind.i64 (0 : Int), AV.int Go.IntKind.i64 (3 : Int)]) [])
    (Does PG nG G0 (fnOf PG f_tree_Half) (0 : Nat) (lp PG f_tree_Half (0 : Nat)) (mkT (18 : Nat) [((0 : Nat), AV.int Go.IntKind.i64 n0), ((4 : Nat), AV.int Go.IntKind.i64 (1 : Int))]) [] R))) :
  Hold (runF PG ty nG G0 an_tree_Half f_tree_Half [AV.int Go.IntKind.i64 n0] [] R) := kshow h (by kernel_rfl)

theorem tree_Half_l0_run (G0 : Nat → Option Obj) (n0 : Int) (n1 : Int) (R : AV → List (Option Blk) → Prop) (h :
  ifK (decide (Go.IntKind.wrap Go.IntKind.i64 ((2 : Int) * n1) < n0))
  (Does PG nG G0 (fnOf PG f_tree_Half) (0 : Nat) (lp PG f_tree_Half (0 : Nat)) (mkT (18 : Nat) [((0 : Nat), AV.int Go.IntKind.i64 n0), ((4 : Nat), AV.int Go.IntKind.i64 (Go.IntKind.wrap Go.IntKind.i64 (n1 * (2 : Int))))]) [] R)
  (R (AV.tup [AV.int Go.IntKind.i64 n1, AV.int Go.IntKind.i64 (0 : Int)]) [])) :
  Hold (runL PG ty nG G0 an_tree_Half f_tree_Half (0 : Nat) (0 : Nat) (mkT (18 : Nat) [((0 : Nat), AV.int Go.IntKind.i64 n0), ((4 : Nat), AV.int Go.IntKind.i64 n1)]) [] R) := kshow h (by kernel_rfl)

theorem seal_None_run (G0 : Nat → Option Go.Obj) (R : AV → List (Option Blk) → Prop) (h :
  R (AV.str [(69 : UInt8)]) []) :
  Hold (runF PG ty nG G0 an_seal_None f_seal_None [] [] R) := kshow h (by kernel_rfl)

theorem seal_Leaf_run (s0 : List UInt8) (G0 : Nat → Option Go.Obj) (R : AV → List (Option Blk) → Prop) (h :
  ifK (decide ((↑(List.length s0) : Int) > (20000 : Int))) (R (AV.tup [AV.str [], AV.int Go.IntKind.i64 (2 : Int)]) [])
  ((1 : Nat) + List.length s0 ≤ (9223372036854775807 : Nat) ∧ R (AV.tup [AV.str ([(76 : UInt8)] ++ s0), AV.int Go.IntKind.i64 (0 : Int)]) [])) :
  Hold (runF PG ty nG G0 an_seal_Leaf f_seal_Leaf [AV.str s0] [] R) := kshow h (by kernel_rfl)

theorem seal_Node_run (a0 : List UInt8) (b1 : List UInt8) (G0 : Nat → Option Go.Obj) (R : AV → List (Option Blk) → Prop) (h :
  ifK (decide ((↑(List.length a0) : Int) > (20000 : Int))) (R (AV.tup [AV.str [], AV.int Go.IntKind.i64 (2 : Int)]) [])
  (ifK (decide ((↑(List.length b1) : Int) > Go.IntKind.wrap Go.IntKind.i64 ((20000 : Int) - (↑(List.length a0) : Int)))) (R (AV.tup [AV.str [], AV.int Go.IntKind.i64 (2 : Int)]) [])
    (∃ s0,
      Good PG nG G0 f_strconv_Itoa [AV.int Go.IntKind.i64 (↑(List.length a0) : Int)] [] (AV.str s0) [] ∧
        (1 : Nat) + List.length s0 ≤ (9223372036854775807 : Nat) ∧
          List.length ([(78 : UInt8)] ++ s0) + (1 : Nat) ≤ (9223372036854775807 : Nat) ∧
            List.length ([(78 : UInt8)] ++ s0 ++ [(58 : UInt8)]) + List.length a0 ≤ (9223372036854775807 : Nat) ∧
              List.length ([(78 : UInt8)] ++ s0 ++ [(58 : UInt8)] ++ a0) + List.length b1 ≤ (9223372036854775807 : Nat) ∧ R (AV.tup [AV.str ([(78 : UInt8)] ++ s0 ++ [(58 : UInt8)] ++ a0 ++ b1), AV.int Go.IntKind.i64 (0 : Int)]) []))) :
  Hold (runF PG ty nG G0 an_seal_Node f_seal_Node [AV.str a0, AV.str b1] [] R) := kshow h (by kernel_rfl)

theorem greatsealref_HalfOf_run (n0 : Int) (G0 : Nat → Option Go.Obj) (R : AV → List (Option Blk) → Prop) (h :
  Does PG nG G0 (fnOf PG f_greatsealref_HalfOf) (0 : Nat) (lp PG f_greatsealref_HalfOf (0 : Nat)) (mkT (10 : Nat) [((0 : Nat), AV.int Go.IntKind.i64 n0), ((3 : Nat), AV.int Go.IntKind.i64 (16 : Int))]) [] R) :
  Hold (runF PG ty nG G0 an_greatsealref_HalfOf f_greatsealref_HalfOf [AV.int Go.IntKind.i64 n0] [] R) := kshow h (by kernel_rfl)

theorem greatsealref_HalfOf_l0_run (G0 : Nat → Option Obj) (n0 : Int) (n1 : Int) (R : AV → List (Option Blk) → Prop) (h :
  ifK (decide (n1 < n0)) (R (AV.int Go.IntKind.i64 n1) [])
  ((2 : Int) ≠ (0 : Int) ∧
    Does PG nG G0 (fnOf PG f_greatsealref_HalfOf) (0 : Nat) (lp PG f_greatsealref_HalfOf (0 : Nat)) (mkT (10 : Nat) [((0 : Nat), AV.int Go.IntKind.i64 n0), ((3 : Nat), AV.int Go.IntKind.i64 (Go.IntKind.wrap Go.IntKind.i64 (Int.tdiv n1 (2 : Int))))]) [] R)) :
  Hold (runL PG ty nG G0 an_greatsealref_HalfOf f_greatsealref_HalfOf (0 : Nat) (0 : Nat) (mkT (10 : Nat) [((0 : Nat), AV.int Go.IntKind.i64 n0), ((3 : Nat), AV.int Go.IntKind.i64 n1)]) [] R) := kshow h (by kernel_rfl)

theorem greatsealref_LeafOf_run (s0 : List UInt8) (G0 : Nat → Option Go.Obj) (R : AV → List (Option Blk) → Prop) (h :
  ifK (decide ((↑(List.length s0) : Int) > (20000 : Int))) (R (AV.tup [AV.str [], AV.int Go.IntKind.i64 (2 : Int)]) [])
  ((1 : Nat) + List.length s0 ≤ (9223372036854775807 : Nat) ∧ R (AV.tup [AV.str ([(76 : UInt8)] ++ s0), AV.int Go.IntKind.i64 (0 : Int)]) [])) :
  Hold (runF PG ty nG G0 an_greatsealref_LeafOf f_greatsealref_LeafOf [AV.str s0] [] R) := kshow h (by kernel_rfl)

theorem greatsealref_NodeOf_run (a0 : List UInt8) (b1 : List UInt8) (G0 : Nat → Option Go.Obj) (R : AV → List (Option Blk) → Prop) (h :
  ifK (decide (Go.IntKind.wrap Go.IntKind.i64 ((↑(List.length a0) : Int) + (↑(List.length b1) : Int)) > (20000 : Int))) (R (AV.tup [AV.str [], AV.int Go.IntKind.i64 (2 : Int)]) [])
  (∃ s0,
    Good PG nG G0 f_strconv_Itoa [AV.int Go.IntKind.i64 (↑(List.length a0) : Int)] [] (AV.str s0) [] ∧
      (1 : Nat) + List.length s0 ≤ (9223372036854775807 : Nat) ∧
        List.length ([(78 : UInt8)] ++ s0) + (1 : Nat) ≤ (9223372036854775807 : Nat) ∧
          List.length ([(78 : UInt8)] ++ s0 ++ [(58 : UInt8)]) + List.length a0 ≤ (9223372036854775807 : Nat) ∧
            List.length ([(78 : UInt8)] ++ s0 ++ [(58 : UInt8)] ++ a0) + List.length b1 ≤ (9223372036854775807 : Nat) ∧ R (AV.tup [AV.str ([(78 : UInt8)] ++ s0 ++ [(58 : UInt8)] ++ a0 ++ b1), AV.int Go.IntKind.i64 (0 : Int)]) [])) :
  Hold (runF PG ty nG G0 an_greatsealref_NodeOf f_greatsealref_NodeOf [AV.str a0, AV.str b1] [] R) := kshow h (by kernel_rfl)

theorem slices_Equal_string_run (nls10 : Bool) (s10 : List (List AV)) (nls21 : Bool) (s21 : List (List AV)) (G0 : Nat → Option Go.Obj) (R : AV → List (Option Blk) → Prop) (h :
  ifK ((↑(List.length s10) : Int) != (↑(List.length s21) : Int)) (R (AV.bool false) [])
  (Does PG nG G0 (fnOf PG f_slices_Equal_string) (0 : Nat) (lp PG f_slices_Equal_string (0 : Nat))
    (mkT (26 : Nat) [((0 : Nat), AV.sl (1 : Nat) nls10 none s10), ((1 : Nat), AV.sl (1 : Nat) nls21 none s21), ((12 : Nat), AV.int Go.IntKind.i64 (↑(List.length s10) : Int)), ((13 : Nat), AV.int Go.IntKind.i64 (0 : Int))]) [] R)) :
  Hold (runF PG ty nG G0 an_slices_Equal_string f_slices_Equal_string [AV.sl (1 : Nat) nls10 none s10, AV.sl (1 : Nat) nls21 none s21] [] R) := kshow h (by kernel_rfl)

theorem slices_Equal_string_l0_run (G0 : Nat → Option Obj) (b0 : Bool) (xs1 : List (List AV)) (b2 : Bool) (xs3 : List (List AV)) (n4 : Int) (n5 : Int) (R : AV → List (Option Blk) → Prop) (h :
  ifK (decide (n5 < n4))
  ((0 : Int) ≤ n5 ∧
    ∃ s6,
      xs1[Int.toNat n5]? = some [AV.str s6] ∧
        (0 : Int) ≤ n5 ∧
          ∃ s7,
            xs3[Int.toNat n5]? = some [AV.str s7] ∧
              ifK (!s6 == s7) (R (AV.bool false) [])
                (Does PG nG G0 (fnOf PG f_slices_Equal_string) (0 : Nat) (lp PG f_slices_Equal_string (0 : Nat))
                  (mkT (26 : Nat)
                    [((0 : Nat), AV.sl (1 : Nat) b0 none xs1), ((1 : Nat), AV.sl (1 : Nat) b2 none xs3), ((12 : Nat), AV.int Go.IntKind.i64 n4), ((13 : Nat), AV.int Go.IntKind.i64 (Go.IntKind.wrap Go.IntKind.i64 (n5 + (1 : Int))))])
                  [] R))
  (R (AV.bool true) [])) :
  Hold (runL PG ty nG G0 an_slices_Equal_string f_slices_Equal_string (0 : Nat) (0 : Nat)
  (mkT (26 : Nat) [((0 : Nat), AV.sl (1 : Nat) b0 none xs1), ((1 : Nat), AV.sl (1 : Nat) b2 none xs3), ((12 : Nat), AV.int Go.IntKind.i64 n4), ((13 : Nat), AV.int Go.IntKind.i64 n5)]) [] R) := kshow h (by kernel_rfl)

theorem greatseallaw_at_run (k0 : Int) (n1 : Int) (G0 : Nat → Option Go.Obj) (R : AV → List (Option Blk) → Prop) (h :
  n1 ≠ (0 : Int) ∧ ifK (decide (Int.tmod k0 n1 < (0 : Int))) (R (AV.int Go.IntKind.i64 (Go.IntKind.wrap Go.IntKind.i64 (Int.tmod k0 n1 + n1))) []) (R (AV.int Go.IntKind.i64 (Int.tmod k0 n1)) [])) :
  Hold (runF PG ty nG G0 an_greatseallaw_at f_greatseallaw_at [AV.int Go.IntKind.i64 k0, AV.int Go.IntKind.i64 n1] [] R) := kshow h (by kernel_rfl)

theorem greatseallaw_planted_run (G0 : Nat → Option Go.Obj) (R : AV → List (Option Blk) → Prop) (h :
  ∃ s0 n1,
  Good PG nG G0 f_tree_Root [AV.sl (1 : Nat) false none [[AV.str [(97 : UInt8)]], [AV.str [(98 : UInt8)]], [AV.str [(99 : UInt8)]]]] [] (AV.tup [AV.str s0, AV.int Go.IntKind.i64 n1]) [] ∧
    ∃ n2 n3,
      Good PG nG G0 f_tree_Half [AV.int Go.IntKind.i64 (5 : Int)] [] (AV.tup [AV.int Go.IntKind.i64 n2, AV.int Go.IntKind.i64 n3]) [] ∧
        ∃ n4 n5,
          Good PG nG G0 f_tree_Half [AV.int Go.IntKind.i64 (1 : Int)] [] (AV.tup [AV.int Go.IntKind.i64 n4, AV.int Go.IntKind.i64 n5]) [] ∧
            ∃ s6 n7,
              Good PG nG G0 f_tree_Root [AV.sl (1 : Nat) true none []] [] (AV.tup [AV.str s6, AV.int Go.IntKind.i64 n7]) [] ∧
                ifK (n1 == (0 : Int))
                  (ifK (n3 == (0 : Int))
                    (ifK (n5 == (3 : Int))
                      (ifK (n7 == (0 : Int))
                        (ifK (n2 == (4 : Int))
                          (ifK (s0 == [(78 : UInt8), (55 : UInt8), (58 : UInt8), (78 : UInt8), (50 : UInt8), (58 : UInt8), (76 : UInt8), (97 : UInt8), (76 : UInt8), (98 : UInt8), (76 : UInt8), (99 : UInt8)])
                            (R (AV.bool (s6 == [(69 : UInt8)])) []) (R (AV.bool false) []))
                          (R (AV.bool false) []))
                        (R (AV.bool false) []))
                      (R (AV.bool false) []))
                    (R (AV.bool false) []))
                  (R (AV.bool false) [])) :
  Hold (runF PG ty nG G0 an_greatseallaw_planted f_greatseallaw_planted [] [] R) := kshow h (by kernel_rfl)

theorem greatsealref_RootOf_run (nll0 : Bool) (l0 : List (List AV)) (G0 : Nat → Option Go.Obj) (R : AV → List (Option Blk) → Prop) (h :
  ifK (decide ((↑(List.length l0) : Int) > (24 : Int))) (R (AV.tup [AV.str [], AV.int Go.IntKind.i64 (2 : Int)]) [])
  (ifK ((↑(List.length l0) : Int) == (0 : Int)) (R (AV.tup [AV.str [(69 : UInt8)], AV.int Go.IntKind.i64 (0 : Int)]) [])
    (∃ s0 n1 b2 xs3,
      Good PG nG G0 f_greatsealref_RootOf_c1 [AV.int Go.IntKind.i64 (0 : Int), AV.int Go.IntKind.i64 (↑(List.length l0) : Int), AV.ref (0 : Nat) (0 : Nat), AV.ref (1 : Nat) (0 : Nat)]
          [some (Blk.var [AV.sl (1 : Nat) nll0 none l0]), some (Blk.var [AV.func f_greatsealref_RootOf_c1 [AV.ref (0 : Nat) (0 : Nat), AV.ref (1 : Nat) (0 : Nat)]])] (AV.tup [AV.str s0, AV.int Go.IntKind.i64 n1])
          [some (Blk.var [AV.sl (1 : Nat) b2 none xs3]), some (Blk.var [AV.func f_greatsealref_RootOf_c1 [AV.ref (0 : Nat) (0 : Nat), AV.ref (1 : Nat) (0 : Nat)]])] ∧
        R (AV.tup [AV.str s0, AV.int Go.IntKind.i64 n1]) []))) :
  Hold (runF PG ty nG G0 an_greatsealref_RootOf f_greatsealref_RootOf [AV.sl (1 : Nat) nll0 none l0] [] R) := kshow h (by kernel_rfl)

theorem greatsealref_RootOf_c1_run (f : Int) (t : Int) (nl : Bool) (xs : List (List AV)) (G0 : Nat → Option Go.Obj) (R : AV → List (Option Blk) → Prop) (h :
  ifK (Go.IntKind.wrap Go.IntKind.i64 (t - f) == (1 : Int))
  ((0 : Int) ≤ f ∧
    ∃ s0,
      xs[Int.toNat f]? = some [AV.str s0] ∧
        ∃ s1 n2,
          Good PG nG G0 f_greatsealref_LeafOf [AV.str s0] [] (AV.tup [AV.str s1, AV.int Go.IntKind.i64 n2]) [] ∧
            R (AV.tup [AV.str s1, AV.int Go.IntKind.i64 n2]) [some (Blk.var [AV.sl (1 : Nat) nl none xs]), some (Blk.var [AV.func f_greatsealref_RootOf_c1 [AV.ref (0 : Nat) (0 : Nat), AV.ref (1 : Nat) (0 : Nat)]])])
  (∃ n3,
    Good PG nG G0 f_greatsealref_HalfOf [AV.int Go.IntKind.i64 (Go.IntKind.wrap Go.IntKind.i64 (t - f))] [] (AV.int Go.IntKind.i64 n3) [] ∧
      ∃ s4 n5 b6 xs7,
        Good PG nG G0 f_greatsealref_RootOf_c1 [AV.int Go.IntKind.i64 f, AV.int Go.IntKind.i64 (Go.IntKind.wrap Go.IntKind.i64 (f + n3)), AV.ref (0 : Nat) (0 : Nat), AV.ref (1 : Nat) (0 : Nat)]
            [some (Blk.var [AV.sl (1 : Nat) nl none xs]), some (Blk.var [AV.func f_greatsealref_RootOf_c1 [AV.ref (0 : Nat) (0 : Nat), AV.ref (1 : Nat) (0 : Nat)]])] (AV.tup [AV.str s4, AV.int Go.IntKind.i64 n5])
            [some (Blk.var [AV.sl (1 : Nat) b6 none xs7]), some (Blk.var [AV.func f_greatsealref_RootOf_c1 [AV.ref (0 : Nat) (0 : Nat), AV.ref (1 : Nat) (0 : Nat)]])] ∧
          ifK (n5 != (0 : Int)) (R (AV.tup [AV.str [], AV.int Go.IntKind.i64 n5]) [some (Blk.var [AV.sl (1 : Nat) b6 none xs7]), some (Blk.var [AV.func f_greatsealref_RootOf_c1 [AV.ref (0 : Nat) (0 : Nat), AV.ref (1 : Nat) (0 : Nat)]])])
            (∃ s8 n9 b10 xs11,
              Good PG nG G0 f_greatsealref_RootOf_c1 [AV.int Go.IntKind.i64 (Go.IntKind.wrap Go.IntKind.i64 (f + n3)), AV.int Go.IntKind.i64 t, AV.ref (0 : Nat) (0 : Nat), AV.ref (1 : Nat) (0 : Nat)]
                  [some (Blk.var [AV.sl (1 : Nat) b6 none xs7]), some (Blk.var [AV.func f_greatsealref_RootOf_c1 [AV.ref (0 : Nat) (0 : Nat), AV.ref (1 : Nat) (0 : Nat)]])] (AV.tup [AV.str s8, AV.int Go.IntKind.i64 n9])
                  [some (Blk.var [AV.sl (1 : Nat) b10 none xs11]), some (Blk.var [AV.func f_greatsealref_RootOf_c1 [AV.ref (0 : Nat) (0 : Nat), AV.ref (1 : Nat) (0 : Nat)]])] ∧
                ifK (n9 != (0 : Int)) (R (AV.tup [AV.str [], AV.int Go.IntKind.i64 n9]) [some (Blk.var [AV.sl (1 : Nat) b10 none xs11]), some (Blk.var [AV.func f_greatsealref_RootOf_c1 [AV.ref (0 : Nat) (0 : Nat), AV.ref (1 : Nat) (0 : Nat)]])])
                  (∃ s12 n13,
                    Good PG nG G0 f_greatsealref_NodeOf [AV.str s4, AV.str s8] [] (AV.tup [AV.str s12, AV.int Go.IntKind.i64 n13]) [] ∧
                      R (AV.tup [AV.str s12, AV.int Go.IntKind.i64 n13]) [some (Blk.var [AV.sl (1 : Nat) b10 none xs11]), some (Blk.var [AV.func f_greatsealref_RootOf_c1 [AV.ref (0 : Nat) (0 : Nat), AV.ref (1 : Nat) (0 : Nat)]])])))) :
  Hold (runF PG ty nG G0 an_greatsealref_RootOf_c1 f_greatsealref_RootOf_c1 [AV.int Go.IntKind.i64 f, AV.int Go.IntKind.i64 t, AV.ref (0 : Nat) (0 : Nat), AV.ref (1 : Nat) (0 : Nat)]
  [some (Blk.var [AV.sl (1 : Nat) nl none xs]), some (Blk.var [AV.func f_greatsealref_RootOf_c1 [AV.ref (0 : Nat) (0 : Nat), AV.ref (1 : Nat) (0 : Nat)]])] R) := kshow h (by kernel_rfl)

theorem slices_Clone_string_run (nls0 : Bool) (s0 : List (List AV)) (G0 : Nat → Option Go.Obj) (R : AV → List (Option Blk) → Prop) (h :
  ifK nls0 (R (AV.sl (1 : Nat) true (some (0 : Nat)) []) [some (Blk.grow (1 : Nat) (0 : Nat))])
  (((0 : Nat) + List.length s0) * (16 : Nat) ≤ (140737488355328 : Nat) ∧ (0 : Nat) = (0 : Nat) ∧ R (AV.sl (1 : Nat) (false && List.isEmpty s0) (some (0 : Nat)) ([] ++ s0)) [some (Blk.grow (1 : Nat) ((0 : Nat) + List.length s0))])) :
  Hold (runF PG ty nG G0 an_slices_Clone_string f_slices_Clone_string [AV.sl (1 : Nat) nls0 none s0] [] R) := kshow h (by kernel_rfl)

theorem greatsealref_in_run (n0 : Int) (from1 : Int) (to2 : Int) (G0 : Nat → Option Go.Obj) (R : AV → List (Option Blk) → Prop) (h :
  ifK (decide (from1 ≤ n0)) (R (AV.bool (decide (n0 ≤ to2))) []) (R (AV.bool false) [])) :
  Hold (runF PG ty nG G0 an_greatsealref_in f_greatsealref_in [AV.int Go.IntKind.i64 n0, AV.int Go.IntKind.i64 from1, AV.int Go.IntKind.i64 to2] [] R) := kshow h (by kernel_rfl)

end Go.Ab

namespace Go.Gs

abbrev By := List UInt8

def tLeaf (s : By) : By × Int := if 20000 < s.length then ([], 2) else (76 :: s, 0)
def tNode (a b : By) : By × Int := if 20000 < a.length + b.length then ([], 2) else (78 :: (Lib.itoa a.length ++ 58 :: (a ++ b)), 0)

def halfN (n : Nat) : Nat := if n ≤ 2 then 1 else if n ≤ 4 then 2 else if n ≤ 8 then 4 else if n ≤ 16 then 8 else 16

theorem halfN_spec (n : Nat) : (halfN n = 1 ∧ n ≤ 2) ∨ (halfN n = 2 ∧ 2 < n ∧ n ≤ 4) ∨ (halfN n = 4 ∧ 4 < n ∧ n ≤ 8) ∨ (halfN n = 8 ∧ 8 < n ∧ n ≤ 16) ∨ (halfN n = 16 ∧ 16 < n) := by
  unfold halfN; split; omega; split; omega; split; omega; split <;> omega

theorem halfN_pos (n : Nat) : 0 < halfN n := by unfold halfN; split; omega; split; omega; split; omega; split <;> omega
theorem halfN_lt {n : Nat} (h : 2 ≤ n) : halfN n < n := by unfold halfN; split; omega; split; omega; split; omega; split <;> omega

/-- The seal of a list of no more than 24. -/
def tRoot (l : List By) : By × Int :=
  if _h0 : l.length = 0 then ([69], 0)
  else if _h1 : l.length = 1 then tLeaf (l.headD [])
  else
    if (tRoot (l.take (halfN l.length))).2 ≠ 0 then ([], (tRoot (l.take (halfN l.length))).2)
    else if (tRoot (l.drop (halfN l.length))).2 ≠ 0 then ([], (tRoot (l.drop (halfN l.length))).2)
    else tNode (tRoot (l.take (halfN l.length))).1 (tRoot (l.drop (halfN l.length))).1
  termination_by l.length
  decreasing_by
  all_goals
    have := halfN_pos l.length
    have := halfN_lt (n := l.length) (by omega)
    simp only [List.length_take, List.length_drop]
    omega

/-- The seal of any list. -/
def rootOf (l : List By) : By × Int := if 24 < l.length then ([], 2) else tRoot l

theorem decDigits_len (u : Nat) : (Lib.decDigits u).length ≤ u + 1 := by
  induction u using Nat.strongRecOn with
  | _ u ih =>
    rw [Lib.decDigits]
    split
    · simp
    · rename_i h
      have := ih (u / 10) (by omega)
      simp only [List.length_append, List.length_cons, List.length_nil]
      omega

theorem itoa_len (n : Nat) : (Lib.itoa n).length ≤ n + 1 := by
  unfold Lib.itoa
  rw [if_neg (by omega)]
  exact decDigits_len n

theorem tNode_len (a b : By) : (tNode a b).1.length ≤ 40100 := by
  unfold tNode
  have := itoa_len a.length
  split
  · simp
  · simp only [List.length_cons, List.length_append]; omega

theorem tRoot_zero {l : List By} (h : l.length = 0) : tRoot l = ([69], 0) := by rw [tRoot, dif_pos h]
theorem tRoot_one {l : List By} (h : l.length = 1) : tRoot l = tLeaf (l.headD []) := by rw [tRoot, dif_neg (by omega), dif_pos h]
theorem tRoot_two {l : List By} (h : 2 ≤ l.length) : tRoot l =
    if (tRoot (l.take (halfN l.length))).2 ≠ 0 then ([], (tRoot (l.take (halfN l.length))).2)
    else if (tRoot (l.drop (halfN l.length))).2 ≠ 0 then ([], (tRoot (l.drop (halfN l.length))).2)
    else tNode (tRoot (l.take (halfN l.length))).1 (tRoot (l.drop (halfN l.length))).1 := by
  rw [tRoot, dif_neg (by omega), dif_neg (by omega)]

theorem tLeaf_len (s : By) : (tLeaf s).1.length ≤ 20001 := by unfold tLeaf; split <;> simp; omega

theorem tRoot_len (l : List By) : (tRoot l).1.length ≤ 40100 := by
  rcases Nat.lt_or_ge l.length 2 with h | h
  · by_cases h0 : l.length = 0
    · rw [tRoot_zero h0]; simp
    · rw [tRoot_one (by omega)]; have := tLeaf_len (l.headD []); omega
  · rw [tRoot_two h]
    split
    · simp
    · split
      · simp
      · exact tNode_len _ _

/-- A number brought within bounds. -/
def atN (k : Int) (n : Nat) : Nat := (k % (n : Int)).toNat

theorem atN_lt (k : Int) {n : Nat} (h : 0 < n) : atN k n < n := by
  unfold atN
  have := Int.emod_nonneg k (b := (n : Int)) (by omega)
  have := Int.emod_lt_of_pos k (b := (n : Int)) (by omega)
  omega

theorem atN_cast (k : Int) {n : Nat} (h : 0 < n) : ((atN k n : Nat) : Int) = k % (n : Int) := by
  unfold atN
  have := Int.emod_nonneg k (b := (n : Int)) (by omega)
  omega
end Go.Gs

namespace Go.Ab
open Go.Proofs Go.Gs

theorem wrap64 {n : Int} (h0 : -9223372036854775808 ≤ n) (h1 : n ≤ 9223372036854775807) : IntKind.i64.wrap n = n := by
  rw [IntKind.wrap_i64]; omega

theorem ifT {A B : Prop} : ifK true A B = A := rfl
theorem ifF {A B : Prop} : ifK false A B = B := rfl

variable {G0 : Nat → Option Obj}

theorem good_None : Good PG nG G0 f_seal_None [] [] (.str [69]) [] := good_of_run prOk (by kernel_rfl) (seal_None_run G0 _ ⟨rfl, rfl⟩)

theorem good_Leaf (s : By) : Good PG nG G0 f_seal_Leaf [.str s] [] (.tup [.str (tLeaf s).1, .int .i64 (tLeaf s).2]) [] := by
  refine good_of_run prOk (by kernel_rfl) (seal_Leaf_run s G0 _ ?_)
  simp only [ifK_iff, decide_eq_true_eq, decide_eq_false_iff_not]
  unfold tLeaf
  refine ⟨fun h => ?_, fun h => ⟨by omega, ?_⟩⟩
  · rw [if_pos (by omega)]; exact ⟨rfl, trivial⟩
  · rw [if_neg (by omega)]; exact ⟨rfl, trivial⟩

theorem good_LeafOf (s : By) : Good PG nG G0 f_greatsealref_LeafOf [.str s] [] (.tup [.str (tLeaf s).1, .int .i64 (tLeaf s).2]) [] := by
  refine good_of_run prOk (by kernel_rfl) (greatsealref_LeafOf_run s G0 _ ?_)
  simp only [ifK_iff, decide_eq_true_eq, decide_eq_false_iff_not]
  unfold tLeaf
  refine ⟨fun h => ?_, fun h => ⟨by omega, ?_⟩⟩
  · rw [if_pos (by omega)]; exact ⟨rfl, trivial⟩
  · rw [if_neg (by omega)]; exact ⟨rfl, trivial⟩

theorem good_Node (hG : GlobOk G0) (a b : By) : Good PG nG G0 f_seal_Node [.str a, .str b] [] (.tup [.str (tNode a b).1, .int .i64 (tNode a b).2]) [] := by
  refine good_of_run prOk (by kernel_rfl) (seal_Node_run a b G0 _ ?_)
  simp only [ifK_iff, decide_eq_true_eq, decide_eq_false_iff_not]
  unfold tNode
  refine ⟨fun h => ?_, fun h => ⟨fun h2 => ?_, fun h2 => ?_⟩⟩
  · rw [if_pos (by omega)]; exact ⟨rfl, trivial⟩
  · rw [wrap64 (by omega) (by omega)] at h2
    rw [if_pos (by omega)]; exact ⟨rfl, trivial⟩
  · rw [wrap64 (by omega) (by omega)] at h2
    have := itoa_len a.length
    refine ⟨_, good_itoa hG _ (by omega) (by omega), by omega, ?_, ?_, ?_, ?_⟩
    · simp only [List.length_append, List.length_cons, List.length_nil]; omega
    · simp only [List.length_append, List.length_cons, List.length_nil]; omega
    · simp only [List.length_append, List.length_cons, List.length_nil]; omega
    · rw [if_neg (by omega)]; simp

theorem good_NodeOf (hG : GlobOk G0) (a b : By) (ha : a.length ≤ 4611686018427387903) (hb : b.length ≤ 4611686018427387903) : Good PG nG G0 f_greatsealref_NodeOf [.str a, .str b] [] (.tup [.str (tNode a b).1, .int .i64 (tNode a b).2]) [] := by
  refine good_of_run prOk (by kernel_rfl) (greatsealref_NodeOf_run a b G0 _ ?_)
  simp only [ifK_iff, decide_eq_true_eq, decide_eq_false_iff_not]
  unfold tNode
  rw [wrap64 (by omega) (by omega)]
  refine ⟨fun h => ?_, fun h => ?_⟩
  · rw [if_pos (by omega)]; exact ⟨rfl, trivial⟩
  · have := itoa_len a.length
    refine ⟨_, good_itoa hG _ (by omega) (by omega), by omega, ?_, ?_, ?_, ?_⟩
    · simp only [List.length_append, List.length_cons, List.length_nil]; omega
    · simp only [List.length_append, List.length_cons, List.length_nil]; omega
    · simp only [List.length_append, List.length_cons, List.length_nil]; omega
    · rw [if_neg (by omega)]; simp

theorem half_loop (n : Int) (R : AV → List (Option Blk) → Prop) (hn : 2 ≤ n) (hn2 : n ≤ 24) (k : Int) (hk : k = 1 ∨ k = 2 ∨ k = 4 ∨ k = 8 ∨ k = 16) (hkn : k < n)
    (hR : R (.tup [.int .i64 (halfN n.toNat), .int .i64 0]) []) : Does PG nG G0 (fnOf PG f_tree_Half) 0 (lp PG f_tree_Half 0) (mkT 18 [(0, .int .i64 n), (4, .int .i64 k)]) [] R := by
  have key : ∀ m : Nat, ∀ k : Int, (k = 1 ∨ k = 2 ∨ k = 4 ∨ k = 8 ∨ k = 16) → k < n → (32 - k).toNat ≤ m → Does PG nG G0 (fnOf PG f_tree_Half) 0 (lp PG f_tree_Half 0) (mkT 18 [(0, .int .i64 n), (4, .int .i64 k)]) [] R := by
    intro m
    induction m with
    | zero => intro k hk _ h; omega
    | succ m ih =>
      intro k hk hkn h
      refine does_of_run prOk (tree_Half_l0_run G0 n k R ?_)
      simp only [ifK_iff, decide_eq_true_eq, decide_eq_false_iff_not]
      rw [wrap64 (by omega) (by omega), wrap64 (by omega) (by omega)]
      refine ⟨fun h2 => ih _ (by omega) (by omega) (by omega), fun h2 => ?_⟩
      have hs := halfN_spec n.toNat
      have : (halfN n.toNat : Int) = k := by omega
      rw [← this]; exact hR
  exact key _ k hk hkn (Nat.le_refl _)

theorem good_Half (n : Int) : Good PG nG G0 f_tree_Half [.int .i64 n] [] (.tup [.int .i64 (if n < 2 ∨ 24 < n then 0 else halfN n.toNat), .int .i64 (if n < 2 ∨ 24 < n then 3 else 0)]) [] := by
  refine good_of_run prOk (by kernel_rfl) (tree_Half_run n G0 _ ?_)
  simp only [ifK_iff, decide_eq_true_eq, decide_eq_false_iff_not]
  refine ⟨fun h => ?_, fun h => ⟨fun h2 => ?_, fun h2 => ?_⟩⟩
  · rw [if_pos (.inl h), if_pos (.inl h)]; exact ⟨rfl, trivial⟩
  · rw [if_pos (.inr h2), if_pos (.inr h2)]; exact ⟨rfl, trivial⟩
  · rw [if_neg (by omega), if_neg (by omega)]
    exact half_loop n _ (by omega) (by omega) 1 (.inl rfl) (by omega) ⟨rfl, rfl⟩

theorem good_Half' (n : Nat) (h : 2 ≤ n) (h2 : n ≤ 24) : Good PG nG G0 f_tree_Half [.int .i64 n] [] (.tup [.int .i64 (halfN n), .int .i64 0]) [] := by
  have := good_Half (G0 := G0) n
  rw [if_neg (by omega), if_neg (by omega)] at this
  simpa using this

theorem good_HalfOf (n : Int) (h : 2 ≤ n) : Good PG nG G0 f_greatsealref_HalfOf [.int .i64 n] [] (.int .i64 (halfN n.toNat)) [] := by
  refine good_of_run prOk (by kernel_rfl) (greatsealref_HalfOf_run n G0 _ ?_)
  have key : ∀ m : Nat, ∀ k : Int, (k = 1 ∨ k = 2 ∨ k = 4 ∨ k = 8 ∨ k = 16) → k.toNat ≤ m → (halfN n.toNat : Int) ≤ k →
      Does PG nG G0 (fnOf PG f_greatsealref_HalfOf) 0 (lp PG f_greatsealref_HalfOf 0) (mkT 10 [(0, .int .i64 n), (3, .int .i64 k)]) [] fun r' H'' => r' = .int .i64 (halfN n.toNat) ∧ H'' = [] := by
    intro m
    induction m with
    | zero => intro k hk h _; omega
    | succ m ih =>
      intro k hk hm hle
      refine does_of_run prOk (greatsealref_HalfOf_l0_run G0 n k _ ?_)
      simp only [ifK_iff, decide_eq_true_eq, decide_eq_false_iff_not]
      have hs := halfN_spec n.toNat
      have hd : Int.tdiv k 2 = k / 2 := by rw [Int.tdiv_eq_ediv_of_nonneg (by omega)]
      rw [hd, wrap64 (by omega) (by omega)]
      refine ⟨fun h2 => ⟨?_, trivial⟩, fun h2 => ⟨by omega, ih _ (by omega) (by omega) (by omega)⟩⟩
      congr 1
      omega
  have hs := halfN_spec n.toNat
  exact key 16 16 (by omega) (by omega) (by omega)
end Go.Ab

namespace Go.Ab
open Go.Proofs Go.Gs
variable {G0 : Nat → Option Obj}

theorem map_get {l : List By} {i : Nat} {s : By} (h : l[i]? = some s) : (l.map S1)[i]? = some [AV.str s] := by rw [List.getElem?_map, h]; rfl

theorem good_Root (hG : GlobOk G0) : ∀ (m : Nat) (l : List By) (nl : Bool), l.length ≤ m → Good PG nG G0 f_tree_Root [.sl 1 nl none (l.map S1)] [] (.tup [.str (rootOf l).1, .int .i64 (rootOf l).2]) [] := by
  intro m
  induction m with
  | zero =>
    intro l nl hm
    refine good_of_run prOk (by kernel_rfl) (tree_Root_run nl _ G0 _ ?_)
    have h0 : l = [] := List.eq_nil_of_length_eq_zero (by omega)
    subst h0
    simp only [ifK_iff, decide_eq_true_eq, decide_eq_false_iff_not, List.map_nil, List.length_nil]
    refine ⟨fun h => by omega, fun _ => ⟨fun _ => ⟨_, good_None, ?_⟩, fun h => by simp at h⟩⟩
    simp [rootOf, tRoot_zero]
  | succ m ih =>
    intro l nl hm
    refine good_of_run prOk (by kernel_rfl) (tree_Root_run nl _ G0 _ ?_)
    simp only [ifK_iff, decide_eq_true_eq, decide_eq_false_iff_not, List.length_map, beq_iff_eq, beq_eq_false_iff_ne]
    refine ⟨fun h => ?_, fun h => ⟨fun h0 => ⟨_, good_None, ?_⟩, fun h0 => ⟨fun h1 => ⟨by omega, ?_⟩, fun h1 => ?_⟩⟩⟩
    · rw [rootOf, if_pos (by omega)]; exact ⟨rfl, trivial⟩
    · rw [rootOf, if_neg (by omega), tRoot_zero (by omega)]; exact ⟨rfl, trivial⟩
    · obtain ⟨s, hs⟩ : ∃ s, l = [s] := List.length_eq_one_iff.1 (by omega)
      subst hs
      refine ⟨s, rfl, _, _, good_Leaf s, ?_⟩
      rw [rootOf, if_neg (by omega), tRoot_one rfl]; exact ⟨rfl, trivial⟩
    · have h2 : 2 ≤ l.length := by omega
      have hk1 := halfN_pos l.length
      have hk2 := halfN_lt h2
      have e1 : List.drop 0 (List.take (Int.toNat (halfN l.length : Int)) (l.map S1)) = (l.take (halfN l.length)).map S1 := by simp
      have e2 : List.drop (Int.toNat (halfN l.length : Int)) (List.take (Int.toNat (l.length : Int)) (l.map S1)) = (l.drop (halfN l.length)).map S1 := by
        simp [List.take_of_length_le]
      have r1 : rootOf (l.take (halfN l.length)) = tRoot (l.take (halfN l.length)) := by rw [rootOf, if_neg (by simp only [List.length_take]; omega)]
      have r2 : rootOf (l.drop (halfN l.length)) = tRoot (l.drop (halfN l.length)) := by rw [rootOf, if_neg (by simp only [List.length_drop]; omega)]
      have r0 : rootOf l = tRoot l := by rw [rootOf, if_neg (by omega)]
      have g1 := ih (l.take (halfN l.length)) nl (by simp only [List.length_take]; omega)
      have g2 := ih (l.drop (halfN l.length)) nl (by simp only [List.length_drop]; omega)
      rw [r1] at g1
      rw [r2] at g2
      refine ⟨_, _, good_Half' l.length h2 (by omega), ?_⟩
      simp only [bne_self_eq_false, Bool.false_eq_true, false_implies, true_and, true_implies]
      refine ⟨by omega, by omega, by omega, _, _, by rw [e1]; exact g1, fun h3 => ?_, fun h3 => ⟨by omega, by omega, Int.le_refl _, _, _, by rw [e2]; exact g2, fun h4 => ?_, fun h4 => ⟨_, _, good_Node hG _ _, ?_⟩⟩⟩
      · have h3 : (tRoot (l.take (halfN l.length))).2 ≠ 0 := by simpa using h3
        rw [r0, tRoot_two h2, if_pos h3]; exact ⟨rfl, trivial⟩
      · have h3 : (tRoot (l.take (halfN l.length))).2 = 0 := by simpa using h3
        have h4 : (tRoot (l.drop (halfN l.length))).2 ≠ 0 := by simpa using h4
        rw [r0, tRoot_two h2, if_neg (by simpa using h3), if_pos h4]; exact ⟨rfl, trivial⟩
      · have h3 : (tRoot (l.take (halfN l.length))).2 = 0 := by simpa using h3
        have h4 : (tRoot (l.drop (halfN l.length))).2 = 0 := by simpa using h4
        rw [r0, tRoot_two h2, if_neg (by simpa using h3), if_neg (by simpa using h4)]; exact ⟨rfl, trivial⟩

theorem good_Root' (hG : GlobOk G0) (l : List By) (nl : Bool) : Good PG nG G0 f_tree_Root [.sl 1 nl none (l.map S1)] [] (.tup [.str (rootOf l).1, .int .i64 (rootOf l).2]) [] := good_Root hG _ l nl (Nat.le_refl _)

/-- The heap of the document's own answer: the list, the function that calls itself. -/
def rootH (nl : Bool) (l : List By) : List (Option Blk) := [some (.var [.sl 1 nl none (l.map S1)]), some (.var [.func f_greatsealref_RootOf_c1 [.ref 0 0, .ref 1 0]])]

theorem good_RootOf1 (hG : GlobOk G0) (l : List By) (nl : Bool) (hl : l.length ≤ 24) : ∀ (m f t : Nat), f < t → t ≤ l.length → t - f ≤ m →
    Good PG nG G0 f_greatsealref_RootOf_c1 [.int .i64 f, .int .i64 t, .ref 0 0, .ref 1 0] (rootH nl l) (.tup [.str (tRoot ((l.drop f).take (t - f))).1, .int .i64 (tRoot ((l.drop f).take (t - f))).2]) (rootH nl l) := by
  intro m
  induction m with
  | zero => intro f t h1 _ h2; omega
  | succ m ih =>
    intro f t hft htl hm
    have hsub : ((l.drop f).take (t - f)).length = t - f := by simp only [List.length_take, List.length_drop]; omega
    refine good_of_run prOk (by kernel_rfl) (greatsealref_RootOf_c1_run f t nl (l.map S1) G0 _ ?_)
    simp only [ifK_iff, beq_iff_eq, beq_eq_false_iff_ne]
    have hw : IntKind.i64.wrap ((t : Int) - f) = ((t - f : Nat) : Int) := by rw [wrap64 (by omega) (by omega)]; omega
    rw [hw]
    refine ⟨fun h1 => ⟨by omega, ?_⟩, fun h1 => ?_⟩
    · obtain ⟨s, hs⟩ : ∃ s, l[f]? = some s := ⟨_, List.getElem?_eq_getElem (by omega)⟩
      have hsub1 : (l.drop f).take (t - f) = [s] := by
        have : t - f = 1 := by omega
        rw [this, List.take_one, List.head?_drop, hs]; rfl
      refine ⟨s, by simpa using map_get hs, _, _, good_LeafOf s, ?_⟩
      rw [tRoot_one (by omega), hsub1]
      exact ⟨rfl, rfl⟩
    · have h2 : 2 ≤ t - f := by omega
      have hk1 := halfN_pos (t - f)
      have hk2 := halfN_lt h2
      have hw2 : IntKind.i64.wrap ((f : Int) + (halfN (t - f) : Nat)) = ((f + halfN (t - f) : Nat) : Int) := by rw [wrap64 (by omega) (by omega)]; omega
      have s1 : ((l.drop f).take (t - f)).take (halfN (t - f)) = (l.drop f).take (f + halfN (t - f) - f) := by
        rw [List.take_take]; congr 1; omega
      have s2 : ((l.drop f).take (t - f)).drop (halfN (t - f)) = (l.drop (f + halfN (t - f))).take (t - (f + halfN (t - f))) := by
        rw [List.drop_take, List.drop_drop]; congr 1; omega
      have g1 := ih f (f + halfN (t - f)) (by omega) (by omega) (by omega)
      have g2 := ih (f + halfN (t - f)) t (by omega) htl (by omega)
      rw [← s1] at g1
      rw [← s2] at g2
      have gh := good_HalfOf (G0 := G0) ((t - f : Nat) : Int) (by omega)
      rw [Int.toNat_natCast] at gh
      have hr := tRoot_two (l := (l.drop f).take (t - f)) (by rw [hsub]; exact h2)
      rw [hsub] at hr
      refine ⟨_, gh, ?_⟩
      rw [hw2]
      refine ⟨_, _, nl, l.map S1, g1, fun h3 => ?_, fun h3 => ⟨_, _, nl, l.map S1, g2, fun h4 => ?_, fun h4 => ⟨_, _, good_NodeOf hG _ _ (by have := tRoot_len (((l.drop f).take (t - f)).take (halfN (t - f))); omega) (by have := tRoot_len (((l.drop f).take (t - f)).drop (halfN (t - f))); omega), ?_⟩⟩⟩
      · have h3 : (tRoot (((l.drop f).take (t - f)).take (halfN (t - f)))).2 ≠ 0 := by simpa using h3
        rw [hr, if_pos h3]; exact ⟨rfl, rfl⟩
      · have h3 : (tRoot (((l.drop f).take (t - f)).take (halfN (t - f)))).2 = 0 := by simpa using h3
        have h4 : (tRoot (((l.drop f).take (t - f)).drop (halfN (t - f)))).2 ≠ 0 := by simpa using h4
        rw [hr, if_neg (by simpa using h3), if_pos h4]; exact ⟨rfl, rfl⟩
      · have h3 : (tRoot (((l.drop f).take (t - f)).take (halfN (t - f)))).2 = 0 := by simpa using h3
        have h4 : (tRoot (((l.drop f).take (t - f)).drop (halfN (t - f)))).2 = 0 := by simpa using h4
        rw [hr, if_neg (by simpa using h3), if_neg (by simpa using h4)]; exact ⟨rfl, rfl⟩

theorem good_RootOf (hG : GlobOk G0) (l : List By) (nl : Bool) : Good PG nG G0 f_greatsealref_RootOf [.sl 1 nl none (l.map S1)] [] (.tup [.str (rootOf l).1, .int .i64 (rootOf l).2]) [] := by
  refine good_of_run prOk (by kernel_rfl) (greatsealref_RootOf_run nl _ G0 _ ?_)
  simp only [ifK_iff, decide_eq_true_eq, decide_eq_false_iff_not, List.length_map, beq_iff_eq, beq_eq_false_iff_ne]
  refine ⟨fun h => ?_, fun h => ⟨fun h0 => ?_, fun h0 => ?_⟩⟩
  · rw [rootOf, if_pos (by omega)]; exact ⟨rfl, trivial⟩
  · rw [rootOf, if_neg (by omega), tRoot_zero (by omega)]; exact ⟨rfl, trivial⟩
  · have g := good_RootOf1 hG l nl (by omega) l.length 0 l.length (by omega) (Nat.le_refl _) (by omega)
    have e : (l.drop 0).take (l.length - 0) = l := by simp
    rw [e] at g
    refine ⟨_, _, nl, l.map S1, g, ?_⟩
    rw [rootOf, if_neg (by omega)]; exact ⟨rfl, trivial⟩
end Go.Ab

namespace Go.Ab
open Go.Proofs Go.Gs
variable {G0 : Nat → Option Obj}

theorem getD_map {l : List By} {i : Nat} (h : i < l.length) : (l.map S1)[i]? = some [AV.str l[i]] := by rw [List.getElem?_map, List.getElem?_eq_getElem h]; rfl

theorem eq_loop (a b : List By) (na nb : Bool) (hl : a.length = b.length) (hb : (a.length : Int) ≤ 9223372036854775806) : ∀ (m i : Nat), a.length - i ≤ m → i ≤ a.length → (∀ j, j < i → a[j]? = b[j]?) →
    Does PG nG G0 (fnOf PG f_slices_Equal_string) 0 (lp PG f_slices_Equal_string 0) (mkT 26 [(0, .sl 1 na none (a.map S1)), (1, .sl 1 nb none (b.map S1)), (12, .int .i64 (a.map S1).length), (13, .int .i64 i)]) [] fun r' H'' => r' = .bool (a == b) ∧ H'' = [] := by
  intro m
  induction m with
  | zero =>
    intro i h1 h2 h3
    refine does_of_run prOk (slices_Equal_string_l0_run G0 na _ nb _ _ _ _ ?_)
    simp only [ifK_iff, decide_eq_true_eq, decide_eq_false_iff_not, List.length_map]
    refine ⟨fun h => by omega, fun h => ⟨?_, trivial⟩⟩
    have : a = b := List.ext_getElem? fun j => by
      rcases Nat.lt_or_ge j i with hj | hj
      · exact h3 j hj
      · rw [List.getElem?_eq_none (by omega), List.getElem?_eq_none (by omega)]
    simp [this]
  | succ m ih =>
    intro i h1 h2 h3
    refine does_of_run prOk (slices_Equal_string_l0_run G0 na _ nb _ _ _ _ ?_)
    simp only [ifK_iff, decide_eq_true_eq, decide_eq_false_iff_not, List.length_map, Int.toNat_natCast, Bool.not_eq_true', Bool.not_eq_false']
    refine ⟨fun h => ⟨by omega, a[i]'(by omega), getD_map (by omega), by omega, b[i]'(by omega), getD_map (by omega), fun h4 => ⟨?_, trivial⟩, fun h4 => ?_⟩, fun h => ⟨?_, trivial⟩⟩
    · have hne : a[i]'(by omega) ≠ b[i]'(by omega) := by simpa using h4
      have : a ≠ b := by rintro rfl; exact hne rfl
      simp [this]
    · have he : a[i]'(by omega) = b[i]'(by omega) := by simpa using h4
      have := ih (i + 1) (by omega) (by omega) fun j hj => by
        rcases Nat.lt_or_ge j i with hj2 | hj2
        · exact h3 j hj2
        · obtain rfl : j = i := by omega
          rw [List.getElem?_eq_getElem (by omega), List.getElem?_eq_getElem (by omega), he]
      rw [wrap64 (by omega) (by omega)]
      rw [List.length_map] at this
      exact this
    · have : a = b := List.ext_getElem? fun j => by
        rcases Nat.lt_or_ge j i with hj | hj
        · exact h3 j hj
        · rw [List.getElem?_eq_none (by omega), List.getElem?_eq_none (by omega)]
      simp [this]

theorem good_Equal (a b : List By) (na nb : Bool) (hb : (a.length : Int) ≤ 9223372036854775806) : Good PG nG G0 f_slices_Equal_string [.sl 1 na none (a.map S1), .sl 1 nb none (b.map S1)] [] (.bool (a == b)) [] := by
  refine good_of_run prOk (by kernel_rfl) (slices_Equal_string_run na _ nb _ G0 _ ?_)
  simp only [ifK_iff, bne_iff_ne, ne_eq, List.length_map, bne_eq_false_iff_eq]
  refine ⟨fun h => ⟨?_, trivial⟩, fun h => ?_⟩
  · have : a ≠ b := by rintro rfl; exact h rfl
    simp [this]
  · have := eq_loop (G0 := G0) a b na nb (by omega) hb a.length 0 (by omega) (by omega) (fun j hj => by omega)
    rw [List.length_map] at this
    exact this

theorem good_planted (hG : GlobOk G0) : Good PG nG G0 f_greatseallaw_planted [] [] (.bool true) [] := by
  refine good_of_run prOk (by kernel_rfl) (greatseallaw_planted_run G0 _ ?_)
  have g1 := good_Root' hG [[97], [98], [99]] false
  have g2 := good_Root' hG [] true
  have e1 : rootOf [[97], [98], [99]] = ([78, 55, 58, 78, 50, 58, 76, 97, 76, 98, 76, 99], 0) := by
    simp [rootOf, tRoot, halfN, tLeaf, tNode, Lib.itoa, Lib.decDigits]
  have e2 : rootOf [] = ([69], 0) := by simp [rootOf, tRoot]
  rw [e1] at g1
  rw [e2] at g2
  have h5 := good_Half (G0 := G0) 5
  have h1 := good_Half (G0 := G0) 1
  have hh : halfN (Int.toNat 5) = 4 := by decide
  rw [hh] at h5
  refine ⟨_, _, g1, _, _, h5, _, _, h1, _, _, g2, ?_⟩
  simp [ifK]

end Go.Ab

namespace Go.Gs

def valD (l : List UInt8) : Nat := l.foldl (fun v c => v * 10 + (c.toNat - 48)) 0

theorem digit_toNat (k : Nat) (h : k < 10) : (UInt8.ofNat (48 + k)).toNat = 48 + k := by
  simp [UInt8.toNat_ofNat']; omega

theorem valD_dec (u : Nat) : valD (Lib.decDigits u) = u := by
  induction u using Nat.strongRecOn with
  | _ u ih =>
    rw [Lib.decDigits]
    split
    · rename_i h
      simp only [valD, List.foldl_cons, List.foldl_nil]
      rw [digit_toNat u h]; omega
    · rename_i h
      have := ih (u / 10) (by omega)
      unfold valD at this ⊢
      rw [List.foldl_append, this]
      simp only [List.foldl_cons, List.foldl_nil]
      rw [digit_toNat _ (by omega)]; omega

theorem dec_inj {m n : Nat} (h : Lib.decDigits m = Lib.decDigits n) : m = n := by
  rw [← valD_dec m, h, valD_dec]

theorem dec_digit (u : Nat) : ∀ c ∈ Lib.decDigits u, 48 ≤ c.toNat ∧ c.toNat ≤ 57 := by
  induction u using Nat.strongRecOn with
  | _ u ih =>
    rw [Lib.decDigits]
    split
    · rename_i h
      intro c hc
      have hc := List.mem_singleton.1 hc
      subst hc
      rw [digit_toNat u h]; omega
    · rename_i h
      intro c hc
      rcases List.mem_append.1 hc with hc | hc
      · exact ih (u / 10) (by omega) c hc
      · have hc := List.mem_singleton.1 hc
        subst hc
        rw [digit_toNat _ (by omega)]; omega

theorem split_first {x : UInt8} : ∀ {a b c d : List UInt8}, x ∉ a → x ∉ c → a ++ x :: b = c ++ x :: d → a = c ∧ b = d
  | [], b, [], d, _, _, h => by simp at h; exact ⟨rfl, h⟩
  | [], b, y :: c, d, _, hc, h => by simp at h; exact absurd h.1 (fun e => hc (by simp [e]))
  | y :: a, b, [], d, ha, _, h => by simp at h; exact absurd h.1.symm (fun e => ha (by simp [e]))
  | y :: a, b, z :: c, d, ha, hc, h => by
    simp only [List.cons_append, List.cons.injEq] at h
    obtain ⟨h1, h2⟩ := split_first (fun e => ha (by simp [e])) (fun e => hc (by simp [e])) h.2
    exact ⟨by rw [h.1, h1], h2⟩

theorem itoa_nat (n : Nat) : Lib.itoa n = Lib.decDigits n := by
  unfold Lib.itoa
  rw [if_neg (by omega)]; simp

theorem node_inj {a b c d : By} (h : (78 : UInt8) :: (Lib.itoa a.length ++ 58 :: (a ++ b)) = 78 :: (Lib.itoa c.length ++ 58 :: (c ++ d))) : a = c ∧ b = d := by
  rw [itoa_nat, itoa_nat] at h
  simp only [List.cons.injEq, true_and] at h
  have no : ∀ n : Nat, (58 : UInt8) ∉ Lib.decDigits n := fun n hc => by
    have := dec_digit n _ hc
    simp at this
  obtain ⟨h1, h2⟩ := split_first (no _) (no _) h
  have hl := dec_inj h1
  exact List.append_inj h2 hl

theorem tNode_ok {a b : By} (h : (tNode a b).2 = 0) : (tNode a b).1 = 78 :: (Lib.itoa a.length ++ 58 :: (a ++ b)) := by
  unfold tNode at h ⊢
  split
  · rename_i hc; rw [if_pos hc] at h; cases h
  · rfl

theorem tLeaf_ok {s : By} (h : (tLeaf s).2 = 0) : (tLeaf s).1 = 76 :: s := by
  unfold tLeaf at h ⊢
  split
  · rename_i hc; rw [if_pos hc] at h; cases h
  · rfl

/-- Which of three a good seal is. -/
theorem tRoot_cases {l : List By} (h : (tRoot l).2 = 0) :
    (l = [] ∧ (tRoot l).1 = [69]) ∨ (∃ s, l = [s] ∧ (tRoot l).1 = 76 :: s) ∨
    (2 ≤ l.length ∧ (tRoot (l.take (halfN l.length))).2 = 0 ∧ (tRoot (l.drop (halfN l.length))).2 = 0 ∧
      (tRoot l).1 = 78 :: (Lib.itoa (tRoot (l.take (halfN l.length))).1.length ++ 58 :: ((tRoot (l.take (halfN l.length))).1 ++ (tRoot (l.drop (halfN l.length))).1))) := by
  rcases Nat.lt_or_ge l.length 2 with h2 | h2
  · by_cases h0 : l.length = 0
    · exact .inl ⟨List.eq_nil_of_length_eq_zero h0, by rw [tRoot_zero h0]⟩
    · obtain ⟨s, rfl⟩ := List.length_eq_one_iff.1 (show l.length = 1 by omega)
      rw [tRoot_one rfl] at h ⊢
      exact .inr (.inl ⟨s, rfl, tLeaf_ok h⟩)
  · rw [tRoot_two h2] at h ⊢
    split at h
    · rename_i hc; exact absurd h hc
    · rename_i h3
      split at h
      · rename_i hc; exact absurd h hc
      · rename_i h4
        have h3 : (tRoot (l.take (halfN l.length))).2 = 0 := by simpa using h3
        have h4 : (tRoot (l.drop (halfN l.length))).2 = 0 := by simpa using h4
        rw [if_neg (by simpa using h3), if_neg (by simpa using h4)]
        exact .inr (.inr ⟨h2, h3, h4, tNode_ok h⟩)

/-- NO TWO LISTS HAVE ONE SEAL. -/
theorem tRoot_inj : ∀ (n : Nat) (l m : List By), l.length ≤ n → (tRoot l).2 = 0 → (tRoot m).2 = 0 → (tRoot l).1 = (tRoot m).1 → l = m := by
  intro n
  induction n with
  | zero =>
    intro l m hn h1 h2 he
    have hl : l = [] := List.eq_nil_of_length_eq_zero (by omega)
    subst hl
    rw [tRoot_zero rfl] at he
    rcases tRoot_cases h2 with ⟨rfl, _⟩ | ⟨s, rfl, h⟩ | ⟨_, _, _, h⟩
    · rfl
    · rw [h] at he; simp at he
    · rw [h] at he; simp at he
  | succ n ih =>
    intro l m hn h1 h2 he
    have d1 : (69 : UInt8) ≠ 76 := by decide
    have d2 : (69 : UInt8) ≠ 78 := by decide
    have d3 : (76 : UInt8) ≠ 78 := by decide
    rcases tRoot_cases h1 with ⟨e1, g1⟩ | ⟨s, e1, g1⟩ | ⟨a1, a2, a3, g1⟩ <;> rcases tRoot_cases h2 with ⟨e2, g2⟩ | ⟨t, e2, g2⟩ | ⟨b1, b2, b3, g2⟩ <;> rw [g1, g2] at he
    · rw [e1, e2]
    · exact absurd (List.cons.inj he).1 d1
    · exact absurd (List.cons.inj he).1 d2
    · exact absurd (List.cons.inj he).1.symm d1
    · rw [e1, e2, (List.cons.inj he).2]
    · exact absurd (List.cons.inj he).1 d3
    · exact absurd (List.cons.inj he).1.symm d2
    · exact absurd (List.cons.inj he).1.symm d3
    · obtain ⟨e1, e2⟩ := node_inj he
      have hk1 := halfN_pos l.length
      have hk2 := halfN_lt a1
      have i1 := ih _ _ (by simp only [List.length_take]; omega) a2 b2 e1
      have i2 := ih _ _ (by simp only [List.length_drop]; omega) a3 b3 e2
      rw [← List.take_append_drop (halfN l.length) l, ← List.take_append_drop (halfN m.length) m, i1, i2]
end Go.Gs

namespace Go.Ab
open Go.Proofs Go.Gs
variable {G0 : Nat → Option Obj}

theorem good_at (k : Int) (n : Nat) (hn : 0 < n) (h1 : (n : Int) ≤ 1000000000) (h2 : -9223372036854775808 ≤ k ∧ k ≤ 9223372036854775807) : Good PG nG G0 f_greatseallaw_at [.int .i64 k, .int .i64 n] [] (.int .i64 (k % n)) [] := by
  refine good_of_run prOk (by kernel_rfl) (greatseallaw_at_run k n G0 _ ?_)
  simp only [ifK_iff, decide_eq_true_eq, decide_eq_false_iff_not]
  have ht : Int.tmod k n = if k < 0 ∧ k % n ≠ 0 then k % n - n else k % n := by
    rw [Int.tmod_eq_emod]
    by_cases h0 : 0 ≤ k
    · rw [if_pos (.inl h0), if_neg (by omega)]; omega
    · by_cases hd : (n : Int) ∣ k
      · have : k % n = 0 := Int.emod_eq_zero_of_dvd hd
        rw [if_pos (.inr hd), if_neg (by omega)]; omega
      · have : k % n ≠ 0 := fun h => hd (Int.dvd_of_emod_eq_zero h)
        rw [if_neg (by omega), if_pos ⟨by omega, this⟩]
        omega
  have hp := Int.emod_nonneg k (show (n : Int) ≠ 0 by omega)
  have hq := Int.emod_lt_of_pos k (show (0 : Int) < n by omega)
  rw [ht]
  refine ⟨by omega, fun h => ⟨?_, trivial⟩, fun h => ⟨?_, trivial⟩⟩
  · rw [wrap64 (by split <;> omega) (by split <;> omega)]
    congr 1
    split at h <;> rename_i hc
    · rw [if_pos hc]; omega
    · omega
  · congr 1
    split at h <;> rename_i hc
    · omega
    · rw [if_neg hc]

theorem good_Clone (l : List By) (nl : Bool) (hnl : nl = true → l = []) (hl : l.length * 16 ≤ 140737488355328) : Good PG nG G0 f_slices_Clone_string [.sl 1 nl none (l.map S1)] [] (.sl 1 nl (some 0) (l.map S1)) [some (.grow 1 l.length)] := by
  refine good_of_run prOk (by kernel_rfl) (slices_Clone_string_run nl _ G0 _ ?_)
  simp only [ifK_iff, List.length_map, Nat.zero_add, List.nil_append, Bool.false_and]
  refine ⟨fun h => ?_, fun h => ⟨hl, trivial, ?_⟩⟩
  · have := hnl h
    subst this; subst h
    exact ⟨rfl, rfl⟩
  · subst h; exact ⟨rfl, trivial⟩

theorem plain_texts (l : List By) : plainXs (l.map S1) := by
  intro x hx y hy
  obtain ⟨s, _, rfl⟩ := List.mem_map.1 hx
  simp [S1] at hy
  subst hy; rfl

theorem good_Clone_arr (l : List By) (hl : l.length * 16 ≤ 140737488355328) : Good PG nG G0 f_slices_Clone_string [.sl 1 false none (l.map S1)] [] (.rsl 1 0 0 (l.map S1).length) [some (.arr 1 (l.map S1))] := by
  refine Good.thaw (plain_texts l) ?_
  have := good_Clone (G0 := G0) l false (fun h => by cases h) hl
  rw [List.length_map]
  exact this

theorem good_in (n a b : Int) : Good PG nG G0 f_greatsealref_in [.int .i64 n, .int .i64 a, .int .i64 b] [] (.bool (decide (a ≤ n ∧ n ≤ b))) [] := by
  refine good_of_run prOk (by kernel_rfl) (greatsealref_in_run n a b G0 _ ?_)
  simp only [ifK_iff, decide_eq_true_eq, decide_eq_false_iff_not]
  exact ⟨fun h => ⟨by simp [h], trivial⟩, fun h => ⟨by simp [h], trivial⟩⟩

end Go.Ab

namespace Go.Ab
open Go.Proofs
set_option maxRecDepth 100000

def an_path_turns : FAnn := ⟨[(5, 2, ⟨[], [0], []⟩), (6, 6, ⟨[], [0], []⟩)], [], some [4], []⟩
def an_path_of : FAnn := ⟨[(7, 2, ⟨[], [0], []⟩)], [], some [4], []⟩
def an_path_Of : FAnn := ⟨[(6, 2, ⟨[], [0], []⟩)], [], none, []⟩
def an_path_Shows : FAnn := ⟨[], [(0, [0, 11, 12, 45, 46, 47], [])], none, []⟩
def an_slices_Equal_Step : FAnn := ⟨[], [(0, [0, 1, 12, 13], [])], none, []⟩
def an_greatsealref_spans : FAnn := ⟨[], [(0, [1, 5, 6, 7], [5])], some [4], []⟩
def an_slices_Reverse_pair : FAnn := ⟨[], [(0, [0, 2, 3], [])], none, []⟩
def an_slices_Reverse_pair_nil : FAnn := ⟨[], [(0, [0, 2, 3], [])], none, []⟩
def an_greatsealref_PathOf : FAnn := ⟨[(6, 3, ⟨[], [], [0]⟩), (7, 1, ⟨[0], [], []⟩)], [(0, [0, 1, 9, 38, 39, 40], [9])], none, [(9, [0])]⟩
def an_greatsealref_PathShows : FAnn := ⟨[(5, 2, ⟨[], [], [0]⟩), (6, 1, ⟨[0], [], []⟩)], [(0, [0, 2, 4, 12, 44, 45, 46], [])], none, [(7, [0])]⟩
def an_greatseallaw_pathed : FAnn := ⟨[], [], none, []⟩

theorem path_turns_run (n0 : Int) (i1 : Int) (G0 : Nat → Option Go.Obj) (R : AV → List (Option Blk) → Prop) (h :
  ifK (n0 == (1 : Int)) (R (AV.sl (1 : Nat) true (some (0 : Nat)) []) [some (Blk.grow (1 : Nat) (0 : Nat))])
  (∃ n0_1 n1,
    Good PG nG G0 f_tree_Half [AV.int Go.IntKind.i64 n0] [] (AV.tup [AV.int Go.IntKind.i64 n0_1, AV.int Go.IntKind.i64 n1]) [] ∧
      ifK (decide (i1 < n0_1))
        (∃ b2 xs3,
          Good PG nG G0 f_path_turns [AV.int Go.IntKind.i64 n0_1, AV.int Go.IntKind.i64 i1] [] (AV.sl (1 : Nat) b2 (some (0 : Nat)) xs3) [some (Blk.grow (1 : Nat) (List.length xs3))] ∧
            (List.length xs3 + (1 : Nat)) * (1 : Nat) ≤ (140737488355328 : Nat) ∧
              List.length xs3 = List.length xs3 ∧ R (AV.sl (1 : Nat) (b2 && false) (some (0 : Nat)) (xs3 ++ [[AV.bool false]])) [some (Blk.grow (1 : Nat) (List.length xs3 + (1 : Nat)))])
        (∃ b4 xs5,
          Good PG nG G0 f_path_turns [AV.int Go.IntKind.i64 (Go.IntKind.wrap Go.IntKind.i64 (n0 - n0_1)), AV.int Go.IntKind.i64 (Go.IntKind.wrap Go.IntKind.i64 (i1 - n0_1))] [] (AV.sl (1 : Nat) b4 (some (0 : Nat)) xs5)
              [some (Blk.grow (1 : Nat) (List.length xs5))] ∧
            (List.length xs5 + (1 : Nat)) * (1 : Nat) ≤ (140737488355328 : Nat) ∧
              List.length xs5 = List.length xs5 ∧ R (AV.sl (1 : Nat) (b4 && false) (some (0 : Nat)) (xs5 ++ [[AV.bool true]])) [some (Blk.grow (1 : Nat) (List.length xs5 + (1 : Nat)))]))) :
  Hold (runF PG ty nG G0 an_path_turns f_path_turns [AV.int Go.IntKind.i64 n0, AV.int Go.IntKind.i64 i1] [] R) := kshow h (by kernel_rfl)

theorem path_of_run (nll0 : Bool) (l0 : List (List AV)) (i1 : Int) (G0 : Nat → Option Go.Obj) (R : AV → List (Option Blk) → Prop) (h :
  ifK ((↑(List.length l0) : Int) == (1 : Int)) (R (AV.tup [AV.sl (2 : Nat) true (some (0 : Nat)) [], AV.int Go.IntKind.i64 (0 : Int)]) [some (Blk.grow (2 : Nat) (0 : Nat))])
  (∃ n0 n1,
    Good PG nG G0 f_tree_Half [AV.int Go.IntKind.i64 (↑(List.length l0) : Int)] [] (AV.tup [AV.int Go.IntKind.i64 n0, AV.int Go.IntKind.i64 n1]) [] ∧
      (0 : Int) ≤ (0 : Int) ∧
        (0 : Int) ≤ n0 ∧
          n0 ≤ (↑(List.length l0) : Int) ∧
            (0 : Int) ≤ n0 ∧
              n0 ≤ (↑(List.length l0) : Int) ∧
                (↑(List.length l0) : Int) ≤ (↑(List.length l0) : Int) ∧
                  ifK (decide (i1 ≥ n0))
                    (∃ b2 xs3 n4,
                      Good PG nG G0 f_path_of [AV.sl (1 : Nat) nll0 none (List.drop (Int.toNat n0) (List.take (Int.toNat (↑(List.length l0) : Int)) l0)), AV.int Go.IntKind.i64 (Go.IntKind.wrap Go.IntKind.i64 (i1 - n0))] []
                          (AV.tup [AV.sl (2 : Nat) b2 (some (0 : Nat)) xs3, AV.int Go.IntKind.i64 n4]) [some (Blk.grow (2 : Nat) (List.length xs3))] ∧
                        ifK (n4 != (0 : Int)) (R (AV.tup [AV.sl (2 : Nat) true (some (0 : Nat)) [], AV.int Go.IntKind.i64 n4]) [some (Blk.grow (2 : Nat) (0 : Nat))])
                          (∃ s5 n6,
                            Good PG nG G0 f_tree_Root [AV.sl (1 : Nat) nll0 none (List.drop (0 : Nat) (List.take (Int.toNat n0) l0))] [] (AV.tup [AV.str s5, AV.int Go.IntKind.i64 n6]) [] ∧
                              ifK (n6 != (0 : Int)) (R (AV.tup [AV.sl (2 : Nat) true (some (0 : Nat)) [], AV.int Go.IntKind.i64 n6]) [some (Blk.grow (2 : Nat) (0 : Nat))])
                                ((List.length xs3 + List.length [[AV.bool true, AV.str s5]]) * (24 : Nat) ≤ (140737488355328 : Nat) ∧
                                  List.length xs3 = List.length xs3 ∧
                                    R (AV.tup [AV.sl (2 : Nat) (b2 && List.isEmpty [[AV.bool true, AV.str s5]]) (some (0 : Nat)) (xs3 ++ [[AV.bool true, AV.str s5]]), AV.int Go.IntKind.i64 (0 : Int)])
                                      [some (Blk.grow (2 : Nat) (List.length xs3 + List.length [[AV.bool true, AV.str s5]]))])))
                    (∃ b7 xs8 n9,
                      Good PG nG G0 f_path_of [AV.sl (1 : Nat) nll0 none (List.drop (0 : Nat) (List.take (Int.toNat n0) l0)), AV.int Go.IntKind.i64 i1] [] (AV.tup [AV.sl (2 : Nat) b7 (some (0 : Nat)) xs8, AV.int Go.IntKind.i64 n9])
                          [some (Blk.grow (2 : Nat) (List.length xs8))] ∧
                        ifK (n9 != (0 : Int)) (R (AV.tup [AV.sl (2 : Nat) true (some (0 : Nat)) [], AV.int Go.IntKind.i64 n9]) [some (Blk.grow (2 : Nat) (0 : Nat))])
                          (∃ s10 n11,
                            Good PG nG G0 f_tree_Root [AV.sl (1 : Nat) nll0 none (List.drop (Int.toNat n0) (List.take (Int.toNat (↑(List.length l0) : Int)) l0))] [] (AV.tup [AV.str s10, AV.int Go.IntKind.i64 n11]) [] ∧
                              ifK (n11 != (0 : Int)) (R (AV.tup [AV.sl (2 : Nat) true (some (0 : Nat)) [], AV.int Go.IntKind.i64 n11]) [some (Blk.grow (2 : Nat) (0 : Nat))])
                                ((List.length xs8 + List.length [[AV.bool false, AV.str s10]]) * (24 : Nat) ≤ (140737488355328 : Nat) ∧
                                  List.length xs8 = List.length xs8 ∧
                                    R (AV.tup [AV.sl (2 : Nat) (b7 && List.isEmpty [[AV.bool false, AV.str s10]]) (some (0 : Nat)) (xs8 ++ [[AV.bool false, AV.str s10]]), AV.int Go.IntKind.i64 (0 : Int)])
                                      [some (Blk.grow (2 : Nat) (List.length xs8 + List.length [[AV.bool false, AV.str s10]]))]))))) :
  Hold (runF PG ty nG G0 an_path_of f_path_of [AV.sl (1 : Nat) nll0 none l0, AV.int Go.IntKind.i64 i1] [] R) := kshow h (by kernel_rfl)

theorem path_Of_run (nll0 : Bool) (l0 : List (List AV)) (i1 : Int) (G0 : Nat → Option Go.Obj) (R : AV → List (Option Blk) → Prop) (h :
  ∃ s0 n1,
  Good PG nG G0 f_tree_Root [AV.sl (1 : Nat) nll0 none l0] [] (AV.tup [AV.str s0, AV.int Go.IntKind.i64 n1]) [] ∧
    ifK (n1 != (0 : Int)) (R (AV.tup [AV.sl (2 : Nat) true none [], AV.int Go.IntKind.i64 n1]) [])
      (ifK (decide (i1 < (0 : Int))) (R (AV.tup [AV.sl (2 : Nat) true none [], AV.int Go.IntKind.i64 (5 : Int)]) [])
        (ifK (decide (i1 ≥ (↑(List.length l0) : Int))) (R (AV.tup [AV.sl (2 : Nat) true none [], AV.int Go.IntKind.i64 (5 : Int)]) [])
          (∃ b2 xs3 n4,
            Good PG nG G0 f_path_of [AV.sl (1 : Nat) nll0 none l0, AV.int Go.IntKind.i64 i1] [] (AV.tup [AV.sl (2 : Nat) b2 (some (0 : Nat)) xs3, AV.int Go.IntKind.i64 n4]) [some (Blk.grow (2 : Nat) (List.length xs3))] ∧
              R (AV.tup [AV.sl (2 : Nat) b2 none xs3, AV.int Go.IntKind.i64 n4]) [])))) :
  Hold (runF PG ty nG G0 an_path_Of f_path_Of [AV.sl (1 : Nat) nll0 none l0, AV.int Go.IntKind.i64 i1] [] R) := kshow h (by kernel_rfl)

theorem path_Shows_run (root0 : List UInt8) (n1 : Int) (i2 : Int) (text3 : List UInt8) (nlsteps4 : Bool) (steps4 : List (List AV)) (G0 : Nat → Option Go.Obj) (R : AV → List (Option Blk) → Prop) (h :
  ifK (decide (n1 < (1 : Int))) (R (AV.int Go.IntKind.i64 (3 : Int)) [])
  (ifK (decide (n1 > (24 : Int))) (R (AV.int Go.IntKind.i64 (3 : Int)) [])
    (ifK (decide (i2 < (0 : Int))) (R (AV.int Go.IntKind.i64 (5 : Int)) [])
      (ifK (decide (i2 ≥ n1)) (R (AV.int Go.IntKind.i64 (5 : Int)) [])
        (∃ b0 xs1,
          Good PG nG G0 f_path_turns [AV.int Go.IntKind.i64 n1, AV.int Go.IntKind.i64 i2] [] (AV.sl (1 : Nat) b0 none xs1) [] ∧
            ifK ((↑(List.length xs1) : Int) != (↑(List.length steps4) : Int)) (R (AV.int Go.IntKind.i64 (7 : Int)) [])
              (∃ s2 n3,
                Good PG nG G0 f_seal_Leaf [AV.str text3] [] (AV.tup [AV.str s2, AV.int Go.IntKind.i64 n3]) [] ∧
                  ifK (n3 != (0 : Int)) (R (AV.int Go.IntKind.i64 n3) [])
                    (Does PG nG G0 (fnOf PG f_path_Shows) (0 : Nat) (lp PG f_path_Shows (0 : Nat))
                      (mkT (82 : Nat)
                        [((0 : Nat), AV.str root0), ((11 : Nat), AV.sl (1 : Nat) b0 none xs1), ((12 : Nat), AV.str s2), ((45 : Nat), AV.sl (2 : Nat) nlsteps4 none steps4), ((46 : Nat), AV.int Go.IntKind.i64 (↑(List.length steps4) : Int)),
                          ((47 : Nat), AV.int Go.IntKind.i64 (0 : Int))])
                      [] R))))))) :
  Hold (runF PG ty nG G0 an_path_Shows f_path_Shows [AV.str root0, AV.int Go.IntKind.i64 n1, AV.int Go.IntKind.i64 i2, AV.str text3, AV.sl (2 : Nat) nlsteps4 none steps4] [] R) := kshow h (by kernel_rfl)

theorem path_Shows_l0_run (G0 : Nat → Option Obj) (s4 : List UInt8) (b5 : Bool) (xs6 : List (List AV)) (s7 : List UInt8) (b8 : Bool) (xs9 : List (List AV)) (n10 : Int) (n11 : Int) (R : AV → List (Option Blk) → Prop) (h :
  ifK (decide (n11 < n10))
  ((0 : Int) ≤ n11 ∧
    ∃ b12 s13,
      xs9[Int.toNat n11]? = some [AV.bool b12, AV.str s13] ∧
        (0 : Int) ≤ n11 ∧
          ∃ b14,
            xs6[Int.toNat n11]? = some [AV.bool b14] ∧
              ifK (!b12 == b14) (R (AV.int Go.IntKind.i64 (7 : Int)) [])
                (ifK b12
                  (∃ s15 n16,
                    Good PG nG G0 f_seal_Node [AV.str s13, AV.str s7] [] (AV.tup [AV.str s15, AV.int Go.IntKind.i64 n16]) [] ∧
                      ifK (n16 != (0 : Int)) (R (AV.int Go.IntKind.i64 n16) [])
                        (Does PG nG G0 (fnOf PG f_path_Shows) (0 : Nat) (lp PG f_path_Shows (0 : Nat))
                          (mkT (82 : Nat)
                            [((0 : Nat), AV.str s4), ((11 : Nat), AV.sl (1 : Nat) b5 none xs6), ((12 : Nat), AV.str s15), ((45 : Nat), AV.sl (2 : Nat) b8 none xs9), ((46 : Nat), AV.int Go.IntKind.i64 n10),
                              ((47 : Nat), AV.int Go.IntKind.i64 (Go.IntKind.wrap Go.IntKind.i64 (n11 + (1 : Int))))])
                          [] R))
                  (∃ s17 n18,
                    Good PG nG G0 f_seal_Node [AV.str s7, AV.str s13] [] (AV.tup [AV.str s17, AV.int Go.IntKind.i64 n18]) [] ∧
                      ifK (n18 != (0 : Int)) (R (AV.int Go.IntKind.i64 n18) [])
                        (Does PG nG G0 (fnOf PG f_path_Shows) (0 : Nat) (lp PG f_path_Shows (0 : Nat))
                          (mkT (82 : Nat)
                            [((0 : Nat), AV.str s4), ((11 : Nat), AV.sl (1 : Nat) b5 none xs6), ((12 : Nat), AV.str s17), ((45 : Nat), AV.sl (2 : Nat) b8 none xs9), ((46 : Nat), AV.int Go.IntKind.i64 n10),
                              ((47 : Nat), AV.int Go.IntKind.i64 (Go.IntKind.wrap Go.IntKind.i64 (n11 + (1 : Int))))])
                          [] R))))
  (ifK (!s7 == s4) (R (AV.int Go.IntKind.i64 (7 : Int)) []) (R (AV.int Go.IntKind.i64 (0 : Int)) []))) :
  Hold (runL PG ty nG G0 an_path_Shows f_path_Shows (0 : Nat) (0 : Nat)
  (mkT (82 : Nat) [((0 : Nat), AV.str s4), ((11 : Nat), AV.sl (1 : Nat) b5 none xs6), ((12 : Nat), AV.str s7), ((45 : Nat), AV.sl (2 : Nat) b8 none xs9), ((46 : Nat), AV.int Go.IntKind.i64 n10), ((47 : Nat), AV.int Go.IntKind.i64 n11)]) []
  R) := kshow h (by kernel_rfl)

theorem slices_Equal_Step_run (nls10 : Bool) (s10 : List (List AV)) (nls21 : Bool) (s21 : List (List AV)) (G0 : Nat → Option Go.Obj) (R : AV → List (Option Blk) → Prop) (h :
  ifK ((↑(List.length s10) : Int) != (↑(List.length s21) : Int)) (R (AV.bool false) [])
  (Does PG nG G0 (fnOf PG f_slices_Equal_Step) (0 : Nat) (lp PG f_slices_Equal_Step (0 : Nat))
    (mkT (26 : Nat) [((0 : Nat), AV.sl (2 : Nat) nls10 none s10), ((1 : Nat), AV.sl (2 : Nat) nls21 none s21), ((12 : Nat), AV.int Go.IntKind.i64 (↑(List.length s10) : Int)), ((13 : Nat), AV.int Go.IntKind.i64 (0 : Int))]) [] R)) :
  Hold (runF PG ty nG G0 an_slices_Equal_Step f_slices_Equal_Step [AV.sl (2 : Nat) nls10 none s10, AV.sl (2 : Nat) nls21 none s21] [] R) := kshow h (by kernel_rfl)

theorem slices_Equal_Step_l0_run (G0 : Nat → Option Obj) (b0 : Bool) (xs1 : List (List AV)) (b2 : Bool) (xs3 : List (List AV)) (n4 : Int) (n5 : Int) (R : AV → List (Option Blk) → Prop) (h :
  ifK (decide (n5 < n4))
  ((0 : Int) ≤ n5 ∧
    ∃ b6 s7,
      xs1[Int.toNat n5]? = some [AV.bool b6, AV.str s7] ∧
        (0 : Int) ≤ n5 ∧
          ∃ b8 s9,
            xs3[Int.toNat n5]? = some [AV.bool b8, AV.str s9] ∧
              ifK (!eqAll [AV.bool b6, AV.str s7] [AV.bool b8, AV.str s9]) (R (AV.bool false) [])
                (Does PG nG G0 (fnOf PG f_slices_Equal_Step) (0 : Nat) (lp PG f_slices_Equal_Step (0 : Nat))
                  (mkT (26 : Nat)
                    [((0 : Nat), AV.sl (2 : Nat) b0 none xs1), ((1 : Nat), AV.sl (2 : Nat) b2 none xs3), ((12 : Nat), AV.int Go.IntKind.i64 n4), ((13 : Nat), AV.int Go.IntKind.i64 (Go.IntKind.wrap Go.IntKind.i64 (n5 + (1 : Int))))])
                  [] R))
  (R (AV.bool true) [])) :
  Hold (runL PG ty nG G0 an_slices_Equal_Step f_slices_Equal_Step (0 : Nat) (0 : Nat)
  (mkT (26 : Nat) [((0 : Nat), AV.sl (2 : Nat) b0 none xs1), ((1 : Nat), AV.sl (2 : Nat) b2 none xs3), ((12 : Nat), AV.int Go.IntKind.i64 n4), ((13 : Nat), AV.int Go.IntKind.i64 n5)]) [] R) := kshow h (by kernel_rfl)

theorem greatsealref_spans_run (n0 : Int) (i1 : Int) (G0 : Nat → Option Go.Obj) (R : AV → List (Option Blk) → Prop) (h :
  Does PG nG G0 (fnOf PG f_greatsealref_spans) (0 : Nat) (lp PG f_greatsealref_spans (0 : Nat))
  (mkT (32 : Nat) [((1 : Nat), AV.int Go.IntKind.i64 i1), ((5 : Nat), AV.sl (2 : Nat) true (some (0 : Nat)) []), ((6 : Nat), AV.int Go.IntKind.i64 (0 : Int)), ((7 : Nat), AV.int Go.IntKind.i64 n0)]) [some (Blk.grow (2 : Nat) (0 : Nat))] R) :
  Hold (runF PG ty nG G0 an_greatsealref_spans f_greatsealref_spans [AV.int Go.IntKind.i64 n0, AV.int Go.IntKind.i64 i1] [] R) := kshow h (by kernel_rfl)

theorem greatsealref_spans_l0_run (G0 : Nat → Option Obj) (n0 : Int) (b1 : Bool) (xs2 : List (List AV)) (n3 : Int) (n4 : Int) (m5 : Nat) (R : AV → List (Option Blk) → Prop) (h :
  ifK (decide (Go.IntKind.wrap Go.IntKind.i64 (n4 - n3) > (1 : Int)))
  ((List.length xs2 + List.length [[AV.int Go.IntKind.i64 n3, AV.int Go.IntKind.i64 n4]]) * (16 : Nat) ≤ (140737488355328 : Nat) ∧
    List.length xs2 = m5 ∧
      ∃ n6,
        Good PG nG G0 f_greatsealref_HalfOf [AV.int Go.IntKind.i64 (Go.IntKind.wrap Go.IntKind.i64 (n4 - n3))] [] (AV.int Go.IntKind.i64 n6) [] ∧
          ifK (decide (n0 < Go.IntKind.wrap Go.IntKind.i64 (n3 + n6)))
            (Does PG nG G0 (fnOf PG f_greatsealref_spans) (0 : Nat) (lp PG f_greatsealref_spans (0 : Nat))
              (mkT (32 : Nat)
                [((1 : Nat), AV.int Go.IntKind.i64 n0),
                  ((5 : Nat), AV.sl (2 : Nat) (b1 && List.isEmpty [[AV.int Go.IntKind.i64 n3, AV.int Go.IntKind.i64 n4]]) (some (0 : Nat)) (xs2 ++ [[AV.int Go.IntKind.i64 n3, AV.int Go.IntKind.i64 n4]])),
                  ((6 : Nat), AV.int Go.IntKind.i64 n3), ((7 : Nat), AV.int Go.IntKind.i64 (Go.IntKind.wrap Go.IntKind.i64 (n3 + n6)))])
              [some (Blk.grow (2 : Nat) (m5 + List.length [[AV.int Go.IntKind.i64 n3, AV.int Go.IntKind.i64 n4]]))] R)
            (Does PG nG G0 (fnOf PG f_greatsealref_spans) (0 : Nat) (lp PG f_greatsealref_spans (0 : Nat))
              (mkT (32 : Nat)
                [((1 : Nat), AV.int Go.IntKind.i64 n0),
                  ((5 : Nat), AV.sl (2 : Nat) (b1 && List.isEmpty [[AV.int Go.IntKind.i64 n3, AV.int Go.IntKind.i64 n4]]) (some (0 : Nat)) (xs2 ++ [[AV.int Go.IntKind.i64 n3, AV.int Go.IntKind.i64 n4]])),
                  ((6 : Nat), AV.int Go.IntKind.i64 (Go.IntKind.wrap Go.IntKind.i64 (n3 + n6))), ((7 : Nat), AV.int Go.IntKind.i64 n4)])
              [some (Blk.grow (2 : Nat) (m5 + List.length [[AV.int Go.IntKind.i64 n3, AV.int Go.IntKind.i64 n4]]))] R))
  (R (AV.sl (2 : Nat) b1 (some (0 : Nat)) xs2) [some (Blk.grow (2 : Nat) m5)])) :
  Hold (runL PG ty nG G0 an_greatsealref_spans f_greatsealref_spans (0 : Nat) (0 : Nat)
  (mkT (32 : Nat) [((1 : Nat), AV.int Go.IntKind.i64 n0), ((5 : Nat), AV.sl (2 : Nat) b1 (some (0 : Nat)) xs2), ((6 : Nat), AV.int Go.IntKind.i64 n3), ((7 : Nat), AV.int Go.IntKind.i64 n4)]) [some (Blk.grow (2 : Nat) m5)] R) := kshow h (by kernel_rfl)

theorem slices_Reverse_pair_run (n : Nat) (xs : List (List AV)) (G0 : Nat → Option Go.Obj) (R : AV → List (Option Blk) → Prop) (h :
  Does PG nG G0 (fnOf PG f_slices_Reverse_pair) (1 : Nat) (lp PG f_slices_Reverse_pair (0 : Nat))
  (mkT (28 : Nat) [((0 : Nat), AV.rsl (2 : Nat) (0 : Nat) (0 : Nat) n), ((2 : Nat), AV.int Go.IntKind.i64 (0 : Int)), ((3 : Nat), AV.int Go.IntKind.i64 (Go.IntKind.wrap Go.IntKind.i64 ((↑n : Int) - (1 : Int))))])
  [some (Blk.arr (2 : Nat) xs)] R) :
  Hold (runF PG ty nG G0 an_slices_Reverse_pair f_slices_Reverse_pair [AV.rsl (2 : Nat) (0 : Nat) (0 : Nat) n] [some (Blk.arr (2 : Nat) xs)] R) := kshow h (by kernel_rfl)

theorem slices_Reverse_pair_l0_run (G0 : Nat → Option Obj) (m0 : Nat) (m1 : Nat) (n2 : Int) (n3 : Int) (xs4 : List (List AV)) (R : AV → List (Option Blk) → Prop) (h :
  ifK (decide (n2 < n3))
  ((0 : Int) ≤ n3 ∧
    n3 < (↑m1 : Int) ∧
      ∃ n5 n6,
        (∃ xs7, xs4[m0 + Int.toNat n3]? = some xs7 ∧ List.take (2 : Nat) (List.drop (0 : Nat) xs7) = [AV.int Go.IntKind.i64 n5, AV.int Go.IntKind.i64 n6]) ∧
          (0 : Int) ≤ n2 ∧
            n2 < (↑m1 : Int) ∧
              ∃ n8 n9,
                (∃ xs10, xs4[m0 + Int.toNat n2]? = some xs10 ∧ List.take (2 : Nat) (List.drop (0 : Nat) xs10) = [AV.int Go.IntKind.i64 n8, AV.int Go.IntKind.i64 n9]) ∧
                  (0 : Int) ≤ n2 ∧
                    n2 < (↑m1 : Int) ∧
                      (0 : Int) ≤ n3 ∧
                        n3 < (↑m1 : Int) ∧
                          Does PG nG G0 (fnOf PG f_slices_Reverse_pair) (1 : Nat) (lp PG f_slices_Reverse_pair (0 : Nat))
                            (mkT (28 : Nat)
                              [((0 : Nat), AV.rsl (2 : Nat) (0 : Nat) m0 m1), ((2 : Nat), AV.int Go.IntKind.i64 (Go.IntKind.wrap Go.IntKind.i64 (n2 + (1 : Int)))),
                                ((3 : Nat), AV.int Go.IntKind.i64 (Go.IntKind.wrap Go.IntKind.i64 (n3 - (1 : Int))))])
                            [some
                                (Blk.arr (2 : Nat)
                                  (List.set (List.set xs4 (m0 + Int.toNat n2) (setR (List.getD xs4 (m0 + Int.toNat n2) []) (0 : Nat) [AV.int Go.IntKind.i64 n5, AV.int Go.IntKind.i64 n6])) (m0 + Int.toNat n3)
                                    (setR (List.getD (List.set xs4 (m0 + Int.toNat n2) (setR (List.getD xs4 (m0 + Int.toNat n2) []) (0 : Nat) [AV.int Go.IntKind.i64 n5, AV.int Go.IntKind.i64 n6])) (m0 + Int.toNat n3) []) (0 : Nat)
                                      [AV.int Go.IntKind.i64 n8, AV.int Go.IntKind.i64 n9])))]
                            R)
  (R (AV.tup []) [some (Blk.arr (2 : Nat) xs4)])) :
  Hold (runL PG ty nG G0 an_slices_Reverse_pair f_slices_Reverse_pair (0 : Nat) (1 : Nat)
  (mkT (28 : Nat) [((0 : Nat), AV.rsl (2 : Nat) (0 : Nat) m0 m1), ((2 : Nat), AV.int Go.IntKind.i64 n2), ((3 : Nat), AV.int Go.IntKind.i64 n3)]) [some (Blk.arr (2 : Nat) xs4)] R) := kshow h (by kernel_rfl)

theorem slices_Reverse_pair_nil_run (G0 : Nat → Option Go.Obj) (R : AV → List (Option Blk) → Prop) (h :
  Does PG nG G0 (fnOf PG f_slices_Reverse_pair) (0 : Nat) (lp PG f_slices_Reverse_pair (0 : Nat)) (mkT (28 : Nat) [((0 : Nat), AV.sl (2 : Nat) true none []), ((2 : Nat), AV.int Go.IntKind.i64 (0 : Int)), ((3 : Nat), AV.int Go.IntKind.i64 (-1 : Int))]) [] R) :
  Hold (runF PG ty nG G0 an_slices_Reverse_pair_nil f_slices_Reverse_pair [AV.sl (2 : Nat) true none []] [] R) := kshow h (by kernel_rfl)

theorem slices_Reverse_pair_nil_l0_run (G0 : Nat → Option Obj) (b0 : Bool) (xs1 : List (List AV)) (n2 : Int) (n3 : Int) (R : AV → List (Option Blk) → Prop) (h :
  ifK (decide (n2 < n3))
  ((0 : Int) ≤ n3 ∧
    ∃ n4 n5,
      xs1[Int.toNat n3]? = some [AV.int Go.IntKind.i64 n4, AV.int Go.IntKind.i64 n5] ∧
        (0 : Int) ≤ n2 ∧ ∃ n6 n7, xs1[Int.toNat n2]? = some [AV.int Go.IntKind.i64 n6, AV.int Go.IntKind.i64 n7] ∧ (0 : Int) ≤ n2 ∧ ∃ n8 n9, xs1[Int.toNat n2]? = some [AV.int Go.IntKind.i64 n8, AV.int Go.IntKind.i64 n9] ∧ False)
  (R (AV.tup []) [])) :
  Hold (runL PG ty nG G0 an_slices_Reverse_pair_nil f_slices_Reverse_pair (0 : Nat) (0 : Nat) (mkT (28 : Nat) [((0 : Nat), AV.sl (2 : Nat) b0 none xs1), ((2 : Nat), AV.int Go.IntKind.i64 n2), ((3 : Nat), AV.int Go.IntKind.i64 n3)]) [] R) := kshow h (by kernel_rfl)

theorem greatsealref_PathOf_run (nll0 : Bool) (l0 : List (List AV)) (i1 : Int) (G0 : Nat → Option Go.Obj) (R : AV → List (Option Blk) → Prop) (h :
  ∃ s0 n1,
  Good PG nG G0 f_greatsealref_RootOf [AV.sl (1 : Nat) nll0 none l0] [] (AV.tup [AV.str s0, AV.int Go.IntKind.i64 n1]) [] ∧
    ifK (n1 != (0 : Int)) (R (AV.tup [AV.sl (2 : Nat) true none [], AV.int Go.IntKind.i64 n1]) [])
      (ifK (decide (i1 < (0 : Int))) (R (AV.tup [AV.sl (2 : Nat) true none [], AV.int Go.IntKind.i64 (5 : Int)]) [])
        (ifK (decide (i1 ≥ (↑(List.length l0) : Int))) (R (AV.tup [AV.sl (2 : Nat) true none [], AV.int Go.IntKind.i64 (5 : Int)]) [])
          (∃ b2 xs3,
            ifK b2
              (Good PG nG G0 f_greatsealref_spans [AV.int Go.IntKind.i64 (↑(List.length l0) : Int), AV.int Go.IntKind.i64 i1] [] (AV.sl (2 : Nat) true none []) [] ∧
                Good PG nG G0 f_slices_Reverse_pair [AV.sl (2 : Nat) true none []] [] (AV.tup []) [] ∧
                  Does PG nG G0 (fnOf PG f_greatsealref_PathOf) (0 : Nat) (lp PG f_greatsealref_PathOf (0 : Nat))
                    (mkT (81 : Nat)
                      [((0 : Nat), AV.sl (1 : Nat) nll0 none l0), ((1 : Nat), AV.int Go.IntKind.i64 i1), ((9 : Nat), AV.sl (2 : Nat) true (some (0 : Nat)) []), ((38 : Nat), AV.sl (2 : Nat) true none []),
                        ((39 : Nat), AV.int Go.IntKind.i64 (0 : Int)), ((40 : Nat), AV.int Go.IntKind.i64 (0 : Int))])
                    [some (Blk.grow (2 : Nat) (0 : Nat))] R)
              (Good PG nG G0 f_greatsealref_spans [AV.int Go.IntKind.i64 (↑(List.length l0) : Int), AV.int Go.IntKind.i64 i1] []
                  (AV.rsl (2 : Nat)
                    (List.length
                      (List.filter
                        (fun id =>
                          lendable [] id &&
                            List.elem id
                              (reach [] (3 : Nat)
                                (addAll []
                                  (List.flatMap
                                      (fun x =>
                                        idsV
                                          (ev
                                            [AV.sl (1 : Nat) nll0 none l0, AV.int Go.IntKind.i64 i1, AV.dead, AV.dead, AV.sl (2 : Nat) true none [], AV.int Go.IntKind.i64 (0 : Int), AV.str s0, AV.int Go.IntKind.i64 n1, AV.dead, AV.dead,
                                              AV.dead, AV.dead, AV.dead, AV.dead, AV.dead, AV.dead, AV.tup [AV.str s0, AV.int Go.IntKind.i64 n1], AV.sl (1 : Nat) nll0 none l0, AV.tup [AV.str s0, AV.int Go.IntKind.i64 n1], AV.str s0,
                                              AV.int Go.IntKind.i64 n1, AV.int Go.IntKind.i64 n1, AV.bool (n1 != (0 : Int)), AV.dead, AV.int Go.IntKind.i64 i1, AV.bool (decide (i1 < (0 : Int))), AV.bool false, AV.int Go.IntKind.i64 i1,
                                              AV.sl (1 : Nat) nll0 none l0, AV.int Go.IntKind.i64 (↑(List.length l0) : Int), AV.bool (decide (i1 ≥ (↑(List.length l0) : Int))), AV.bool (decide (i1 ≥ (↑(List.length l0) : Int))),
                                              AV.sl (1 : Nat) nll0 none l0, AV.int Go.IntKind.i64 (↑(List.length l0) : Int), AV.int Go.IntKind.i64 i1, AV.dead, AV.dead, AV.dead, AV.dead, AV.dead, AV.dead, AV.dead, AV.dead, AV.dead, AV.dead,
                                              AV.dead, AV.dead, AV.dead, AV.dead, AV.dead, AV.dead, AV.dead, AV.dead, AV.dead, AV.dead, AV.dead, AV.dead, AV.dead, AV.dead, AV.dead, AV.dead, AV.dead, AV.dead, AV.dead, AV.dead, AV.dead,
                                              AV.dead, AV.dead, AV.dead, AV.dead, AV.dead, AV.dead, AV.dead, AV.dead, AV.dead, AV.dead, AV.dead, AV.dead, AV.dead, AV.dead, AV.dead]
                                            x))
                                      (Array.toList #[Go.Operand.tmp (33 : Nat), Go.Operand.tmp (34 : Nat)]) ++
                                    List.flatMap idsR []))))
                        (Ann.lent { lent := [], toks := [], arrs := [(0 : Nat)] })))
                    (0 : Nat) (List.length xs3))
                  [some (Blk.arr (2 : Nat) xs3)] ∧
                ∃ xs4,
                  Good PG nG G0 f_slices_Reverse_pair [AV.rsl (2 : Nat) (0 : Nat) (0 : Nat) (List.length xs3)] [some (Blk.arr (2 : Nat) xs3)] (AV.tup []) [some (Blk.arr (2 : Nat) xs4)] ∧
                    Does PG nG G0 (fnOf PG f_greatsealref_PathOf) (0 : Nat) (lp PG f_greatsealref_PathOf (0 : Nat))
                      (mkT (81 : Nat)
                        [((0 : Nat), AV.sl (1 : Nat) nll0 none l0), ((1 : Nat), AV.int Go.IntKind.i64 i1), ((9 : Nat), AV.sl (2 : Nat) true (some (0 : Nat)) []),
                          ((38 : Nat), AV.sl (2 : Nat) false none (List.take (List.length xs3) (List.drop (0 : Nat) xs4))), ((39 : Nat), AV.int Go.IntKind.i64 (↑(List.length (List.take (List.length xs3) (List.drop (0 : Nat) xs4))) : Int)),
                          ((40 : Nat), AV.int Go.IntKind.i64 (0 : Int))])
                      [some (Blk.grow (2 : Nat) (0 : Nat))] R))))) :
  Hold (runF PG ty nG G0 an_greatsealref_PathOf f_greatsealref_PathOf [AV.sl (1 : Nat) nll0 none l0, AV.int Go.IntKind.i64 i1] [] R) := kshow h (by kernel_rfl)

theorem greatsealref_PathOf_l0_run (G0 : Nat → Option Obj) (b5 : Bool) (xs6 : List (List AV)) (n7 : Int) (b8 : Bool) (xs9 : List (List AV)) (b10 : Bool) (xs11 : List (List AV)) (n12 : Int) (n13 : Int) (m14 : Nat) (R : AV → List (Option Blk) → Prop) (h :
  ifK (decide (n13 < n12))
  ((0 : Int) ≤ n13 ∧
    ∃ n15 n16,
      xs11[Int.toNat n13]? = some [AV.int Go.IntKind.i64 n15, AV.int Go.IntKind.i64 n16] ∧
        (0 : Int) ≤ (0 : Int) ∧
          (0 : Int) < (2 : Int) ∧
            (0 : Int) ≤ (1 : Int) ∧
              (1 : Int) < (2 : Int) ∧
                (0 : Int) ≤ (0 : Int) ∧
                  (0 : Int) < (2 : Int) ∧
                    ∃ n17,
                      Good PG nG G0 f_greatsealref_HalfOf [AV.int Go.IntKind.i64 (Go.IntKind.wrap Go.IntKind.i64 (n16 - n15))] [] (AV.int Go.IntKind.i64 n17) [] ∧
                        (0 : Int) ≤ (1 : Int) ∧
                          (1 : Int) < (2 : Int) ∧
                            (0 : Int) ≤ Go.IntKind.wrap Go.IntKind.i64 (n15 + n17) ∧
                              Go.IntKind.wrap Go.IntKind.i64 (n15 + n17) ≤ n16 ∧
                                n16 ≤ (↑(List.length xs6) : Int) ∧
                                  ifK (decide (n7 ≥ Go.IntKind.wrap Go.IntKind.i64 (n15 + n17)))
                                    ((0 : Int) ≤ (0 : Int) ∧
                                      (0 : Int) < (2 : Int) ∧
                                        (0 : Int) ≤ n15 ∧
                                          n15 ≤ Go.IntKind.wrap Go.IntKind.i64 (n15 + n17) ∧
                                            Go.IntKind.wrap Go.IntKind.i64 (n15 + n17) ≤ (↑(List.length xs6) : Int) ∧
                                              ∃ s18 n19,
                                                Good PG nG G0 f_greatsealref_RootOf [AV.sl (1 : Nat) b5 none (List.drop (Int.toNat n15) (List.take (Int.toNat (Go.IntKind.wrap Go.IntKind.i64 (n15 + n17))) xs6))] []
                                                    (AV.tup [AV.str s18, AV.int Go.IntKind.i64 n19]) [] ∧
                                                  (List.length xs9 + List.length [[AV.bool (decide (n7 ≥ Go.IntKind.wrap Go.IntKind.i64 (n15 + n17))), AV.str s18]]) * (24 : Nat) ≤ (140737488355328 : Nat) ∧
                                                    List.length xs9 = m14 ∧
                                                      Does PG nG G0 (fnOf PG f_greatsealref_PathOf) (0 : Nat) (lp PG f_greatsealref_PathOf (0 : Nat))
                                                        (mkT (81 : Nat)
                                                          [((0 : Nat), AV.sl (1 : Nat) b5 none xs6), ((1 : Nat), AV.int Go.IntKind.i64 n7),
                                                            ((9 : Nat),
                                                              AV.sl (2 : Nat) (b8 && List.isEmpty [[AV.bool (decide (n7 ≥ Go.IntKind.wrap Go.IntKind.i64 (n15 + n17))), AV.str s18]]) (some (0 : Nat))
                                                                (xs9 ++ [[AV.bool (decide (n7 ≥ Go.IntKind.wrap Go.IntKind.i64 (n15 + n17))), AV.str s18]])),
                                                            ((38 : Nat), AV.sl (2 : Nat) b10 none xs11), ((39 : Nat), AV.int Go.IntKind.i64 n12), ((40 : Nat), AV.int Go.IntKind.i64 (Go.IntKind.wrap Go.IntKind.i64 (n13 + (1 : Int))))])
                                                        [some (Blk.grow (2 : Nat) (m14 + List.length [[AV.bool (decide (n7 ≥ Go.IntKind.wrap Go.IntKind.i64 (n15 + n17))), AV.str s18]]))] R)
                                    (∃ s20 n21,
                                      Good PG nG G0 f_greatsealref_RootOf [AV.sl (1 : Nat) b5 none (List.drop (Int.toNat (Go.IntKind.wrap Go.IntKind.i64 (n15 + n17))) (List.take (Int.toNat n16) xs6))] []
                                          (AV.tup [AV.str s20, AV.int Go.IntKind.i64 n21]) [] ∧
                                        (List.length xs9 + List.length [[AV.bool (decide (n7 ≥ Go.IntKind.wrap Go.IntKind.i64 (n15 + n17))), AV.str s20]]) * (24 : Nat) ≤ (140737488355328 : Nat) ∧
                                          List.length xs9 = m14 ∧
                                            Does PG nG G0 (fnOf PG f_greatsealref_PathOf) (0 : Nat) (lp PG f_greatsealref_PathOf (0 : Nat))
                                              (mkT (81 : Nat)
                                                [((0 : Nat), AV.sl (1 : Nat) b5 none xs6), ((1 : Nat), AV.int Go.IntKind.i64 n7),
                                                  ((9 : Nat),
                                                    AV.sl (2 : Nat) (b8 && List.isEmpty [[AV.bool (decide (n7 ≥ Go.IntKind.wrap Go.IntKind.i64 (n15 + n17))), AV.str s20]]) (some (0 : Nat))
                                                      (xs9 ++ [[AV.bool (decide (n7 ≥ Go.IntKind.wrap Go.IntKind.i64 (n15 + n17))), AV.str s20]])),
                                                  ((38 : Nat), AV.sl (2 : Nat) b10 none xs11), ((39 : Nat), AV.int Go.IntKind.i64 n12), ((40 : Nat), AV.int Go.IntKind.i64 (Go.IntKind.wrap Go.IntKind.i64 (n13 + (1 : Int))))])
                                              [some (Blk.grow (2 : Nat) (m14 + List.length [[AV.bool (decide (n7 ≥ Go.IntKind.wrap Go.IntKind.i64 (n15 + n17))), AV.str s20]]))] R))
  (R (AV.tup [AV.sl (2 : Nat) b8 none xs9, AV.int Go.IntKind.i64 (0 : Int)]) [])) :
  Hold (runL PG ty nG G0 an_greatsealref_PathOf f_greatsealref_PathOf (0 : Nat) (0 : Nat)
  (mkT (81 : Nat)
    [((0 : Nat), AV.sl (1 : Nat) b5 none xs6), ((1 : Nat), AV.int Go.IntKind.i64 n7), ((9 : Nat), AV.sl (2 : Nat) b8 (some (0 : Nat)) xs9), ((38 : Nat), AV.sl (2 : Nat) b10 none xs11), ((39 : Nat), AV.int Go.IntKind.i64 n12),
      ((40 : Nat), AV.int Go.IntKind.i64 n13)])
  [some (Blk.grow (2 : Nat) m14)] R) := kshow h (by kernel_rfl)

theorem greatsealref_PathShows_run (root0 : List UInt8) (n1 : Int) (i2 : Int) (text3 : List UInt8) (nlsteps4 : Bool) (steps4 : List (List AV)) (G0 : Nat → Option Go.Obj) (R : AV → List (Option Blk) → Prop) (h :
  ∃ b0,
  Good PG nG G0 f_greatsealref_in [AV.int Go.IntKind.i64 n1, AV.int Go.IntKind.i64 (1 : Int), AV.int Go.IntKind.i64 (24 : Int)] [] (AV.bool b0) [] ∧
    ifK (!b0) (R (AV.int Go.IntKind.i64 (3 : Int)) [])
      (∃ b1,
        Good PG nG G0 f_greatsealref_in [AV.int Go.IntKind.i64 i2, AV.int Go.IntKind.i64 (0 : Int), AV.int Go.IntKind.i64 (Go.IntKind.wrap Go.IntKind.i64 (n1 - (1 : Int)))] [] (AV.bool b1) [] ∧
          ifK (!b1) (R (AV.int Go.IntKind.i64 (5 : Int)) [])
            (∃ b2 xs3,
              ifK b2
                (Good PG nG G0 f_greatsealref_spans [AV.int Go.IntKind.i64 n1, AV.int Go.IntKind.i64 i2] [] (AV.sl (2 : Nat) true none []) [] ∧
                  Good PG nG G0 f_slices_Reverse_pair [AV.sl (2 : Nat) true none []] [] (AV.tup []) [] ∧
                    ifK ((0 : Int) != (↑(List.length steps4) : Int)) (R (AV.int Go.IntKind.i64 (7 : Int)) [])
                      (∃ s4 n5,
                        Good PG nG G0 f_greatsealref_LeafOf [AV.str text3] [] (AV.tup [AV.str s4, AV.int Go.IntKind.i64 n5]) [] ∧
                          ifK (n5 != (0 : Int)) (R (AV.int Go.IntKind.i64 n5) [])
                            (Does PG nG G0 (fnOf PG f_greatsealref_PathShows) (0 : Nat) (lp PG f_greatsealref_PathShows (0 : Nat))
                              (mkT (94 : Nat)
                                [((0 : Nat), AV.str root0), ((2 : Nat), AV.int Go.IntKind.i64 i2), ((4 : Nat), AV.sl (2 : Nat) nlsteps4 none steps4), ((12 : Nat), AV.str s4), ((44 : Nat), AV.sl (2 : Nat) true none []),
                                  ((45 : Nat), AV.int Go.IntKind.i64 (0 : Int)), ((46 : Nat), AV.int Go.IntKind.i64 (0 : Int))])
                              [] R)))
                (Good PG nG G0 f_greatsealref_spans [AV.int Go.IntKind.i64 n1, AV.int Go.IntKind.i64 i2] []
                    (AV.rsl (2 : Nat)
                      (List.length
                        (List.filter
                          (fun id =>
                            lendable [] id &&
                              List.elem id
                                (reach [] (3 : Nat)
                                  (addAll []
                                    (List.flatMap
                                        (fun x =>
                                          idsV
                                            (ev
                                              [AV.str root0, AV.int Go.IntKind.i64 n1, AV.int Go.IntKind.i64 i2, AV.str text3, AV.sl (2 : Nat) nlsteps4 none steps4, AV.dead, AV.dead, AV.dead, AV.dead, AV.dead,
                                                AV.int Go.IntKind.i64 (0 : Int), AV.dead, AV.dead, AV.dead, AV.dead, AV.dead, AV.dead, AV.dead, AV.int Go.IntKind.i64 n1, AV.bool b0, AV.bool !b0, AV.int Go.IntKind.i64 i2,
                                                AV.int Go.IntKind.i64 n1, AV.int Go.IntKind.i64 (Go.IntKind.wrap Go.IntKind.i64 (n1 - (1 : Int))), AV.bool b1, AV.bool !b1, AV.int Go.IntKind.i64 n1, AV.int Go.IntKind.i64 i2, AV.dead,
                                                AV.dead, AV.dead, AV.dead, AV.dead, AV.dead, AV.dead, AV.dead, AV.dead, AV.dead, AV.dead, AV.dead, AV.dead, AV.dead, AV.dead, AV.dead, AV.dead, AV.dead, AV.dead, AV.dead, AV.dead, AV.dead,
                                                AV.dead, AV.dead, AV.dead, AV.dead, AV.dead, AV.dead, AV.dead, AV.dead, AV.dead, AV.dead, AV.dead, AV.dead, AV.dead, AV.dead, AV.dead, AV.dead, AV.dead, AV.dead, AV.dead, AV.dead, AV.dead,
                                                AV.dead, AV.dead, AV.dead, AV.dead, AV.dead, AV.dead, AV.dead, AV.dead, AV.dead, AV.dead, AV.dead, AV.dead, AV.dead, AV.dead, AV.dead, AV.dead, AV.dead, AV.dead, AV.dead, AV.dead, AV.dead,
                                                AV.dead, AV.dead]
                                              x))
                                        (Array.toList #[Go.Operand.tmp (26 : Nat), Go.Operand.tmp (27 : Nat)]) ++
                                      List.flatMap idsR []))))
                          (Ann.lent { lent := [], toks := [], arrs := [(0 : Nat)] })))
                      (0 : Nat) (List.length xs3))
                    [some (Blk.arr (2 : Nat) xs3)] ∧
                  ∃ xs6,
                    Good PG nG G0 f_slices_Reverse_pair [AV.rsl (2 : Nat) (0 : Nat) (0 : Nat) (List.length xs3)] [some (Blk.arr (2 : Nat) xs3)] (AV.tup []) [some (Blk.arr (2 : Nat) xs6)] ∧
                      ifK ((↑(List.length (List.take (List.length xs3) (List.drop (0 : Nat) xs6))) : Int) != (↑(List.length steps4) : Int)) (R (AV.int Go.IntKind.i64 (7 : Int)) [])
                        (∃ s7 n8,
                          Good PG nG G0 f_greatsealref_LeafOf [AV.str text3] [] (AV.tup [AV.str s7, AV.int Go.IntKind.i64 n8]) [] ∧
                            ifK (n8 != (0 : Int)) (R (AV.int Go.IntKind.i64 n8) [])
                              (Does PG nG G0 (fnOf PG f_greatsealref_PathShows) (0 : Nat) (lp PG f_greatsealref_PathShows (0 : Nat))
                                (mkT (94 : Nat)
                                  [((0 : Nat), AV.str root0), ((2 : Nat), AV.int Go.IntKind.i64 i2), ((4 : Nat), AV.sl (2 : Nat) nlsteps4 none steps4), ((12 : Nat), AV.str s7),
                                    ((44 : Nat), AV.sl (2 : Nat) false none (List.take (List.length xs3) (List.drop (0 : Nat) xs6))),
                                    ((45 : Nat), AV.int Go.IntKind.i64 (↑(List.length (List.take (List.length xs3) (List.drop (0 : Nat) xs6))) : Int)), ((46 : Nat), AV.int Go.IntKind.i64 (0 : Int))])
                                [] R)))))) :
  Hold (runF PG ty nG G0 an_greatsealref_PathShows f_greatsealref_PathShows [AV.str root0, AV.int Go.IntKind.i64 n1, AV.int Go.IntKind.i64 i2, AV.str text3, AV.sl (2 : Nat) nlsteps4 none steps4] [] R) := kshow h (by kernel_rfl)

theorem greatsealref_PathShows_l0_run (G0 : Nat → Option Obj) (s9 : List UInt8) (n10 : Int) (b11 : Bool) (xs12 : List (List AV)) (s13 : List UInt8) (b14 : Bool) (xs15 : List (List AV)) (n16 : Int) (n17 : Int) (R : AV → List (Option Blk) → Prop) (h :
  ifK (decide (n17 < n16))
  ((0 : Int) ≤ n17 ∧
    ∃ n18 n19,
      xs15[Int.toNat n17]? = some [AV.int Go.IntKind.i64 n18, AV.int Go.IntKind.i64 n19] ∧
        (0 : Int) ≤ n17 ∧
          ∃ b20 s21,
            xs12[Int.toNat n17]? = some [AV.bool b20, AV.str s21] ∧
              (0 : Int) ≤ (0 : Int) ∧
                (0 : Int) < (2 : Int) ∧
                  (0 : Int) ≤ (1 : Int) ∧
                    (1 : Int) < (2 : Int) ∧
                      (0 : Int) ≤ (0 : Int) ∧
                        (0 : Int) < (2 : Int) ∧
                          ∃ n22,
                            Good PG nG G0 f_greatsealref_HalfOf [AV.int Go.IntKind.i64 (Go.IntKind.wrap Go.IntKind.i64 (n19 - n18))] [] (AV.int Go.IntKind.i64 n22) [] ∧
                              ifK (!b20 == decide (n10 ≥ Go.IntKind.wrap Go.IntKind.i64 (n18 + n22))) (R (AV.int Go.IntKind.i64 (7 : Int)) [])
                                ((0 : Int) ≤ n17 ∧
                                  ∃ b23 s24,
                                    xs12[Int.toNat n17]? = some [AV.bool b23, AV.str s24] ∧
                                      (0 : Int) ≤ n17 ∧
                                        ∃ b25 s26,
                                          xs12[Int.toNat n17]? = some [AV.bool b25, AV.str s26] ∧
                                            ifK b25
                                              (∃ s27 n28,
                                                Good PG nG G0 f_greatsealref_NodeOf [AV.str s24, AV.str s13] [] (AV.tup [AV.str s27, AV.int Go.IntKind.i64 n28]) [] ∧
                                                  ifK (n28 != (0 : Int)) (R (AV.int Go.IntKind.i64 n28) [])
                                                    (Does PG nG G0 (fnOf PG f_greatsealref_PathShows) (0 : Nat) (lp PG f_greatsealref_PathShows (0 : Nat))
                                                      (mkT (94 : Nat)
                                                        [((0 : Nat), AV.str s9), ((2 : Nat), AV.int Go.IntKind.i64 n10), ((4 : Nat), AV.sl (2 : Nat) b11 none xs12), ((12 : Nat), AV.str s27), ((44 : Nat), AV.sl (2 : Nat) b14 none xs15),
                                                          ((45 : Nat), AV.int Go.IntKind.i64 n16), ((46 : Nat), AV.int Go.IntKind.i64 (Go.IntKind.wrap Go.IntKind.i64 (n17 + (1 : Int))))])
                                                      [] R))
                                              (∃ s29 n30,
                                                Good PG nG G0 f_greatsealref_NodeOf [AV.str s13, AV.str s24] [] (AV.tup [AV.str s29, AV.int Go.IntKind.i64 n30]) [] ∧
                                                  ifK (n30 != (0 : Int)) (R (AV.int Go.IntKind.i64 n30) [])
                                                    (Does PG nG G0 (fnOf PG f_greatsealref_PathShows) (0 : Nat) (lp PG f_greatsealref_PathShows (0 : Nat))
                                                      (mkT (94 : Nat)
                                                        [((0 : Nat), AV.str s9), ((2 : Nat), AV.int Go.IntKind.i64 n10), ((4 : Nat), AV.sl (2 : Nat) b11 none xs12), ((12 : Nat), AV.str s29), ((44 : Nat), AV.sl (2 : Nat) b14 none xs15),
                                                          ((45 : Nat), AV.int Go.IntKind.i64 n16), ((46 : Nat), AV.int Go.IntKind.i64 (Go.IntKind.wrap Go.IntKind.i64 (n17 + (1 : Int))))])
                                                      [] R))))
  (ifK (s13 == s9) (R (AV.int Go.IntKind.i64 (0 : Int)) []) (R (AV.int Go.IntKind.i64 (7 : Int)) []))) :
  Hold (runL PG ty nG G0 an_greatsealref_PathShows f_greatsealref_PathShows (0 : Nat) (0 : Nat)
  (mkT (94 : Nat)
    [((0 : Nat), AV.str s9), ((2 : Nat), AV.int Go.IntKind.i64 n10), ((4 : Nat), AV.sl (2 : Nat) b11 none xs12), ((12 : Nat), AV.str s13), ((44 : Nat), AV.sl (2 : Nat) b14 none xs15), ((45 : Nat), AV.int Go.IntKind.i64 n16),
      ((46 : Nat), AV.int Go.IntKind.i64 n17)])
  [] R) := kshow h (by kernel_rfl)

theorem greatseallaw_pathed_run (G0 : Nat → Option Go.Obj) (R : AV → List (Option Blk) → Prop) (h :
  ∃ b0 xs1 n2,
  Good PG nG G0 f_path_Of [AV.sl (1 : Nat) false none [[AV.str [(97 : UInt8)]], [AV.str [(98 : UInt8)]], [AV.str [(99 : UInt8)]]], AV.int Go.IntKind.i64 (1 : Int)] [] (AV.tup [AV.sl (2 : Nat) b0 none xs1, AV.int Go.IntKind.i64 n2])
      [] ∧
    ∃ s3 n4,
      Good PG nG G0 f_tree_Root [AV.sl (1 : Nat) false none [[AV.str [(97 : UInt8)]], [AV.str [(98 : UInt8)]], [AV.str [(99 : UInt8)]]]] [] (AV.tup [AV.str s3, AV.int Go.IntKind.i64 n4]) [] ∧
        ∃ b5 xs6 n7,
          Good PG nG G0 f_path_Of [AV.sl (1 : Nat) false none [[AV.str [(97 : UInt8)]], [AV.str [(98 : UInt8)]], [AV.str [(99 : UInt8)]]], AV.int Go.IntKind.i64 (3 : Int)] []
              (AV.tup [AV.sl (2 : Nat) b5 none xs6, AV.int Go.IntKind.i64 n7]) [] ∧
            ifK (n2 == (0 : Int))
              (ifK (n4 == (0 : Int))
                (ifK (n7 == (5 : Int))
                  (∃ b8,
                    Good PG nG G0 f_slices_Equal_Step [AV.sl (2 : Nat) b0 none xs1, AV.sl (2 : Nat) false none [[AV.bool true, AV.str [(76 : UInt8), (97 : UInt8)]], [AV.bool false, AV.str [(76 : UInt8), (99 : UInt8)]]]] [] (AV.bool b8) [] ∧
                      ifK b8
                        (∃ n9,
                          Good PG nG G0 f_path_Shows [AV.str s3, AV.int Go.IntKind.i64 (3 : Int), AV.int Go.IntKind.i64 (1 : Int), AV.str [(98 : UInt8)], AV.sl (2 : Nat) b0 none xs1] [] (AV.int Go.IntKind.i64 n9) [] ∧
                            ifK (n9 == (0 : Int))
                              (∃ n10,
                                Good PG nG G0 f_path_Shows [AV.str s3, AV.int Go.IntKind.i64 (3 : Int), AV.int Go.IntKind.i64 (1 : Int), AV.str [(100 : UInt8)], AV.sl (2 : Nat) b0 none xs1] [] (AV.int Go.IntKind.i64 n10) [] ∧
                                  R (AV.bool (n10 == (7 : Int))) [])
                              (R (AV.bool false) []))
                        (R (AV.bool false) []))
                  (R (AV.bool false) []))
                (R (AV.bool false) []))
              (R (AV.bool false) [])) :
  Hold (runF PG ty nG G0 an_greatseallaw_pathed f_greatseallaw_pathed [] [] R) := kshow h (by kernel_rfl)

end Go.Ab

namespace Go.Gs

/-- A good seal of two or more, opened. -/
theorem tRoot_split {l : List By} (h : (tRoot l).2 = 0) (h2 : 2 ≤ l.length) :
    (tRoot (l.take (halfN l.length))).2 = 0 ∧ (tRoot (l.drop (halfN l.length))).2 = 0 ∧
      tNode (tRoot (l.take (halfN l.length))).1 (tRoot (l.drop (halfN l.length))).1 = ((tRoot l).1, 0) := by
  rcases tRoot_cases h with ⟨rfl, _⟩ | ⟨s, rfl, _⟩ | ⟨_, h3, h4, _⟩
  · simp at h2
  · simp at h2
  · refine ⟨h3, h4, ?_⟩
    have := tRoot_two h2
    rw [if_neg (by simpa using h3), if_neg (by simpa using h4)] at this
    rw [← this, ← h]

theorem tNode_inj {a b c d x : By} (h : tNode a b = (x, 0)) (k : tNode c d = (x, 0)) : a = c ∧ b = d := by
  have h1 := tNode_ok (a := a) (b := b) (by rw [h])
  have h2 := tNode_ok (a := c) (b := d) (by rw [k])
  rw [h] at h1
  rw [k] at h2
  exact node_inj (h1.symm.trans h2)

theorem tLeaf_inj {a b x : By} (h : tLeaf a = (x, 0)) (k : tLeaf b = (x, 0)) : a = b := by
  have h1 := tLeaf_ok (s := a) (by rw [h])
  have h2 := tLeaf_ok (s := b) (by rw [k])
  rw [h] at h1
  rw [k] at h2
  simpa using h1.symm.trans h2

/-- From below: does what is beside stand left? -/
def turnsN (n i : Nat) : List Bool :=
  if _h : n ≤ 1 then [] else if i < halfN n then turnsN (halfN n) i ++ [false] else turnsN (n - halfN n) (i - halfN n) ++ [true]
  termination_by n
  decreasing_by
  all_goals
    have := halfN_pos n
    have := halfN_lt (n := n) (by omega)
    omega

theorem turnsN_one {n i : Nat} (h : n ≤ 1) : turnsN n i = [] := by rw [turnsN, dif_pos h]
theorem turnsN_two {n i : Nat} (h : 2 ≤ n) : turnsN n i = if i < halfN n then turnsN (halfN n) i ++ [false] else turnsN (n - halfN n) (i - halfN n) ++ [true] := by
  rw [turnsN, dif_neg (by omega)]

/-- What stands beside, from below. -/
def pathOf (l : List By) (i : Nat) : List (Bool × By) :=
  if _h : l.length ≤ 1 then [] else
    if i < halfN l.length then pathOf (l.take (halfN l.length)) i ++ [(false, (tRoot (l.drop (halfN l.length))).1)]
    else pathOf (l.drop (halfN l.length)) (i - halfN l.length) ++ [(true, (tRoot (l.take (halfN l.length))).1)]
  termination_by l.length
  decreasing_by
  all_goals
    have := halfN_pos l.length
    have := halfN_lt (n := l.length) (by omega)
    simp only [List.length_take, List.length_drop]
    omega

theorem pathOf_one {l : List By} {i : Nat} (h : l.length ≤ 1) : pathOf l i = [] := by rw [pathOf, dif_pos h]
theorem pathOf_two {l : List By} {i : Nat} (h : 2 ≤ l.length) : pathOf l i =
    if i < halfN l.length then pathOf (l.take (halfN l.length)) i ++ [(false, (tRoot (l.drop (halfN l.length))).1)]
    else pathOf (l.drop (halfN l.length)) (i - halfN l.length) ++ [(true, (tRoot (l.take (halfN l.length))).1)] := by
  rw [pathOf, dif_neg (by omega)]

theorem pathOf_sides : ∀ (n : Nat) (l : List By) (i : Nat), l.length ≤ n → (pathOf l i).map (·.1) = turnsN l.length i := by
  intro n
  induction n with
  | zero => intro l i h; rw [pathOf_one (by omega), turnsN_one (by omega)]; rfl
  | succ n ih =>
    intro l i h
    rcases Nat.lt_or_ge l.length 2 with h2 | h2
    · rw [pathOf_one (by omega), turnsN_one (by omega)]; rfl
    · have hk1 := halfN_pos l.length
      have hk2 := halfN_lt h2
      rw [pathOf_two h2, turnsN_two h2]
      split
      · rw [List.map_append, ih _ _ (by simp only [List.length_take]; omega)]
        simp only [List.length_take, List.map_cons, List.map_nil]
        rw [Nat.min_eq_left (by omega)]
      · rw [List.map_append, ih _ _ (by simp only [List.length_drop]; omega)]
        simp only [List.length_drop, List.map_cons, List.map_nil]

/-- One step up. -/
def up1 (now : By) (st : Bool × By) : By × Int := if st.1 then tNode st.2 now else tNode now st.2

/-- The way up: from a seal, by sides that are due and steps. -/
def climb : By → List Bool → List (Bool × By) → By × Int
  | now, b :: bs, st :: r => if st.1 ≠ b then ([], 7) else if (up1 now st).2 ≠ 0 then ([], (up1 now st).2) else climb (up1 now st).1 bs r
  | now, _, _ => (now, 0)

theorem climb_append : ∀ (bs : List Bool) (now : By) (r : List (Bool × By)) (cs : List Bool) (q : List (Bool × By)), bs.length = r.length →
    climb now (bs ++ cs) (r ++ q) = if (climb now bs r).2 ≠ 0 then ([], (climb now bs r).2) else climb (climb now bs r).1 cs q
  | [], now, [], cs, q, _ => by simp [climb]
  | b :: bs, now, st :: r, cs, q, h => by
    simp only [List.cons_append, climb]
    split
    · simp
    · split
      · simp
      · exact climb_append bs _ r cs q (by simpa using h)
  | [], _, _ :: _, _, _, h => by simp at h
  | _ :: _, _, [], _, _, h => by simp at h

/-- THE WAY UP ENDS AT THE LIST's SEAL ONLY FROM THE TEXT THAT STANDS THERE, BY THE STEPS THAT STAND THERE. -/
theorem climb_iff : ∀ (n : Nat) (l : List By) (i : Nat) (now : By) (steps : List (Bool × By)), l.length ≤ n → (tRoot l).2 = 0 → (hi : i < l.length) → steps.length = (turnsN l.length i).length →
    (climb now (turnsN l.length i) steps = ((tRoot l).1, 0) ↔ tLeaf l[i] = (now, 0) ∧ steps = pathOf l i) := by
  intro n
  induction n with
  | zero => intro l i now steps h _ hi; omega
  | succ n ih =>
    intro l i now steps hn hr hi hlen
    rcases Nat.lt_or_ge l.length 2 with h2 | h2
    · obtain ⟨s, rfl⟩ := List.length_eq_one_iff.1 (show l.length = 1 by omega)
      have hi0 : i = 0 := by simpa using hi
      subst hi0
      rw [turnsN_one (by simp)] at hlen ⊢
      obtain rfl : steps = [] := List.eq_nil_of_length_eq_zero hlen
      rw [tRoot_one rfl] at hr ⊢
      rw [pathOf_one (by simp)]
      simp only [List.headD_cons] at hr
      simp only [climb, List.headD_cons, List.getElem_cons_zero, and_true, Prod.mk.injEq]
      constructor
      · rintro rfl; exact Prod.ext rfl hr
      · intro h; rw [h]
    · have hk1 := halfN_pos l.length
      have hk2 := halfN_lt h2
      obtain ⟨r1, r2, r3⟩ := tRoot_split hr h2
      have lt1 : (l.take (halfN l.length)).length = halfN l.length := by simp only [List.length_take]; omega
      have ld1 : (l.drop (halfN l.length)).length = l.length - halfN l.length := by simp only [List.length_drop]
      rw [turnsN_two h2] at hlen ⊢
      rw [pathOf_two h2]
      by_cases hk : i < halfN l.length
      · rw [if_pos hk] at hlen ⊢
        rw [if_pos hk]
        have hne : steps ≠ [] := by rintro rfl; simp at hlen
        obtain ⟨st, last, rfl⟩ : ∃ st last, steps = st ++ [last] := ⟨steps.dropLast, steps.getLast hne, (List.dropLast_concat_getLast hne).symm⟩
        have hl2 : (turnsN (halfN l.length) i).length = st.length := by simpa using hlen.symm
        have IH := ih (l.take (halfN l.length)) i now st (by omega) r1 (by omega) (by rw [lt1]; exact hl2.symm)
        rw [climb_append _ _ _ _ _ hl2]
        have hg : (l.take (halfN l.length))[i]'(by omega) = l[i] := by simp
        rw [hg, lt1] at IH
        obtain ⟨lb, ls⟩ := last
        constructor
        · intro h
          split at h
          · rename_i h1; rw [Prod.mk.injEq] at h; exact absurd h.2 h1
          · rename_i h1
            have h1 : (climb now (turnsN (halfN l.length) i) st).2 = 0 := by simpa using h1
            simp only [climb] at h
            split at h
            · rw [Prod.mk.injEq] at h; exact absurd h.2 (by decide)
            · rename_i h3
              have h3 : lb = false := by simpa using h3
              subst h3
              split at h
              · rename_i h4; rw [Prod.mk.injEq] at h; exact absurd h.2 h4
              · rename_i h4
                have h4 : (up1 (climb now (turnsN (halfN l.length) i) st).1 (false, ls)).2 = 0 := by simpa using h4
                have h5 : tNode (climb now (turnsN (halfN l.length) i) st).1 ls = ((tRoot l).1, 0) := by
                  rw [← h]; exact Prod.ext rfl h4
                obtain ⟨g1, g2⟩ := tNode_inj h5 r3
                obtain ⟨g3, g4⟩ := IH.1 (by rw [← g1]; exact Prod.ext rfl h1)
                exact ⟨g3, by rw [g4, g2]⟩
        · rintro ⟨h1, h3⟩
          obtain ⟨h4, h5⟩ := List.append_inj' h3 rfl
          have h6 := IH.2 ⟨h1, h4⟩
          rw [h6]
          have h5 : (lb, ls) = (false, (tRoot (l.drop (halfN l.length))).1) := by simpa using h5
          rw [h5]
          simp only [climb, up1]
          rw [if_neg (by simp), if_neg (by simp)]
          simp only [Bool.false_eq_true, if_false]
          rw [r3]; simp
      · rw [if_neg hk] at hlen ⊢
        rw [if_neg hk]
        have hne : steps ≠ [] := by rintro rfl; simp at hlen
        obtain ⟨st, last, rfl⟩ : ∃ st last, steps = st ++ [last] := ⟨steps.dropLast, steps.getLast hne, (List.dropLast_concat_getLast hne).symm⟩
        have hl2 : (turnsN (l.length - halfN l.length) (i - halfN l.length)).length = st.length := by simpa using hlen.symm
        have IH := ih (l.drop (halfN l.length)) (i - halfN l.length) now st (by omega) r2 (by omega) (by rw [ld1]; exact hl2.symm)
        rw [climb_append _ _ _ _ _ hl2]
        have hg : (l.drop (halfN l.length))[i - halfN l.length]'(by omega) = l[i] := by
          rw [List.getElem_drop]; congr 1; omega
        rw [hg, ld1] at IH
        obtain ⟨lb, ls⟩ := last
        constructor
        · intro h
          split at h
          · rename_i h1; rw [Prod.mk.injEq] at h; exact absurd h.2 h1
          · rename_i h1
            have h1 : (climb now (turnsN (l.length - halfN l.length) (i - halfN l.length)) st).2 = 0 := by simpa using h1
            simp only [climb] at h
            split at h
            · rw [Prod.mk.injEq] at h; exact absurd h.2 (by decide)
            · rename_i h3
              have h3 : lb = true := by simpa using h3
              subst h3
              split at h
              · rename_i h4; rw [Prod.mk.injEq] at h; exact absurd h.2 h4
              · rename_i h4
                have h4 : (up1 (climb now (turnsN (l.length - halfN l.length) (i - halfN l.length)) st).1 (true, ls)).2 = 0 := by simpa using h4
                have h5 : tNode ls (climb now (turnsN (l.length - halfN l.length) (i - halfN l.length)) st).1 = ((tRoot l).1, 0) := by
                  rw [← h]; exact Prod.ext rfl h4
                obtain ⟨g1, g2⟩ := tNode_inj h5 r3
                obtain ⟨g3, g4⟩ := IH.1 (by rw [← g2]; exact Prod.ext rfl h1)
                exact ⟨g3, by rw [g4, g1]⟩
        · rintro ⟨h1, h3⟩
          obtain ⟨h4, h5⟩ := List.append_inj' h3 rfl
          have h6 := IH.2 ⟨h1, h4⟩
          rw [h6]
          have h5 : (lb, ls) = (true, (tRoot (l.take (halfN l.length))).1) := by simpa using h5
          rw [h5]
          simp only [climb, up1]
          rw [if_neg (by simp), if_neg (by simp)]
          simp only [if_true]
          rw [r3]; simp

/-- Do steps show that a text stands at a place of a list of so many whose seal this is? -/
def pathShows (root : By) (n i : Int) (text : By) (steps : List (Bool × By)) : Int :=
  if n < 1 ∨ 24 < n then 3 else if i < 0 ∨ n ≤ i then 5
  else if (turnsN n.toNat i.toNat).length ≠ steps.length then 7
  else if (tLeaf text).2 ≠ 0 then (tLeaf text).2
  else if (climb (tLeaf text).1 (turnsN n.toNat i.toNat) steps).2 ≠ 0 then (climb (tLeaf text).1 (turnsN n.toNat i.toNat) steps).2
  else if (climb (tLeaf text).1 (turnsN n.toNat i.toNat) steps).1 ≠ root then 7 else 0

theorem tLeaf_get : ∀ (n : Nat) (l : List By) (i : Nat), l.length ≤ n → (tRoot l).2 = 0 → (hi : i < l.length) → (tLeaf l[i]).2 = 0 := by
  intro n
  induction n with
  | zero => intro l i h _ hi; omega
  | succ n ih =>
    intro l i hn hr hi
    rcases Nat.lt_or_ge l.length 2 with h2 | h2
    · obtain ⟨s, rfl⟩ := List.length_eq_one_iff.1 (show l.length = 1 by omega)
      have hi0 : i = 0 := by simpa using hi
      subst hi0
      rw [tRoot_one rfl] at hr
      exact hr
    · have hk1 := halfN_pos l.length
      have hk2 := halfN_lt h2
      obtain ⟨r1, r2, _⟩ := tRoot_split hr h2
      by_cases hk : i < halfN l.length
      · have := ih (l.take (halfN l.length)) i (by simp only [List.length_take]; omega) r1 (by simp only [List.length_take]; omega)
        simpa using this
      · have := ih (l.drop (halfN l.length)) (i - halfN l.length) (by simp only [List.length_drop]; omega) r2 (by simp only [List.length_drop]; omega)
        rw [List.getElem_drop] at this
        have e : halfN l.length + (i - halfN l.length) = i := by omega
        simpa [e] using this

/-- WHAT IS SHOWN IS SO, AND WHAT IS SO IS SHOWN, BY ONE PATH ALONE. -/
theorem pathShows_iff {l : List By} {i : Nat} (hl : l.length ≤ 24) (hr : (tRoot l).2 = 0) (hi : i < l.length) (text : By) (steps : List (Bool × By)) :
    pathShows (tRoot l).1 l.length i text steps = 0 ↔ text = l[i] ∧ steps = pathOf l i := by
  unfold pathShows
  rw [if_neg (by omega), if_neg (by omega), Int.toNat_natCast, Int.toNat_natCast]
  have hp := congrArg List.length (pathOf_sides _ l i (Nat.le_refl _))
  rw [List.length_map] at hp
  have hg := tLeaf_get _ l i (Nat.le_refl _) hr hi
  constructor
  · intro h
    split at h
    · cases h
    · rename_i h1
      have h1 : (turnsN l.length i).length = steps.length := by simpa using h1
      split at h
      · rename_i h2; exact absurd h h2
      · rename_i h2
        have h2 : (tLeaf text).2 = 0 := by simpa using h2
        split at h
        · rename_i h3; exact absurd h h3
        · rename_i h3
          have h3 : (climb (tLeaf text).1 (turnsN l.length i) steps).2 = 0 := by simpa using h3
          split at h
          · cases h
          · rename_i h4
            have h4 : (climb (tLeaf text).1 (turnsN l.length i) steps).1 = (tRoot l).1 := by simpa using h4
            obtain ⟨g1, g2⟩ := (climb_iff _ l i (tLeaf text).1 steps (Nat.le_refl _) hr hi h1.symm).1 (Prod.ext h4 h3)
            exact ⟨tLeaf_inj (x := (tLeaf text).1) (Prod.ext rfl h2) g1, g2⟩
  · rintro ⟨rfl, rfl⟩
    have := (climb_iff _ l i (tLeaf l[i]).1 (pathOf l i) (Nat.le_refl _) hr hi hp).2 ⟨Prod.ext rfl hg, rfl⟩
    rw [this, if_neg (by omega), if_neg (by omega), if_neg (by simp), if_neg (by simp)]

/-- What a way up says, held against what it should come to. -/
def fin7 (all : By) (r : By × Int) : Int := if r.2 ≠ 0 then r.2 else if r.1 ≠ all then 7 else 0

theorem fin7_err {all : By} {c : Int} (h : c ≠ 0) : fin7 all ([], c) = c := by unfold fin7; rw [if_pos h]
theorem fin7_end {all now : By} : fin7 all (now, 0) = if now ≠ all then 7 else 0 := by unfold fin7; rw [if_neg (by simp)]
end Go.Gs

namespace Go.Gs

theorem halfN_between {m n : Nat} (h : halfN n < m) (h2 : m ≤ n) (h3 : n ≤ 32) : halfN m = halfN n := by
  have := halfN_spec n
  have := halfN_spec m
  omega

/-- The seal of a beginning is good where the list's is, and no longer. -/
theorem tRoot_begin : ∀ (n : Nat) (l : List By) (m : Nat), l.length ≤ n → n ≤ 24 → (tRoot l).2 = 0 → 1 ≤ m → m ≤ l.length → (tRoot (l.take m)).2 = 0 ∧ (tRoot (l.take m)).1.length ≤ (tRoot l).1.length := by
  intro n
  induction n with
  | zero => intro l m h _ _ h1 h2; omega
  | succ n ih =>
    intro l m hn hb hr h1 hm
    by_cases hml : m = l.length
    · subst hml; rw [List.take_length]; exact ⟨hr, Nat.le_refl _⟩
    · have h2 : 2 ≤ l.length := by omega
      have hk1 := halfN_pos l.length
      have hk2 := halfN_lt h2
      obtain ⟨r1, r2, r3⟩ := tRoot_split hr h2
      have r4 := tNode_ok (a := (tRoot (l.take (halfN l.length))).1) (b := (tRoot (l.drop (halfN l.length))).1) (by rw [r3])
      rw [r3] at r4
      have r4 : (tRoot l).1 = _ := r4
      have r5 : (tRoot (l.take (halfN l.length))).1.length + (tRoot (l.drop (halfN l.length))).1.length ≤ 20000 := by
        unfold tNode at r3
        split at r3
        · rw [Prod.mk.injEq] at r3; exact absurd r3.2 (by decide)
        · omega
      by_cases hk : m ≤ halfN l.length
      · have := ih (l.take (halfN l.length)) m (by simp only [List.length_take]; omega) (by omega) r1 h1 (by simp only [List.length_take]; omega)
        rw [List.take_take, Nat.min_eq_left hk] at this
        refine ⟨this.1, Nat.le_trans this.2 ?_⟩
        rw [r4]
        simp only [List.length_cons, List.length_append]; omega
      · have h3 := ih (l.drop (halfN l.length)) (m - halfN l.length) (by simp only [List.length_drop]; omega) (by omega) r2 (by omega) (by simp only [List.length_drop]; omega)
        have hhm : halfN m = halfN l.length := halfN_between (by omega) (by omega) (by omega)
        have hlm : (l.take m).length = m := by simp only [List.length_take]; omega
        have e1 : (l.take m).take (halfN l.length) = l.take (halfN l.length) := by rw [List.take_take, Nat.min_eq_left (by omega)]
        have e2 : (l.take m).drop (halfN l.length) = (l.drop (halfN l.length)).take (m - halfN l.length) := by rw [List.drop_take]
        have h4 := tRoot_two (l := l.take m) (by omega)
        rw [hlm, hhm, e1, e2, if_neg (by simpa using r1), if_neg (by simpa using h3.1)] at h4
        have h5 : tNode (tRoot (l.take (halfN l.length))).1 (tRoot ((l.drop (halfN l.length)).take (m - halfN l.length))).1 = (78 :: (Lib.itoa (tRoot (l.take (halfN l.length))).1.length ++ 58 :: ((tRoot (l.take (halfN l.length))).1 ++ (tRoot ((l.drop (halfN l.length)).take (m - halfN l.length))).1)), 0) := by
          unfold tNode; rw [if_neg (by have := h3.2; omega)]
        rw [h4, h5, r4]
        refine ⟨rfl, ?_⟩
        have := h3.2
        simp only [List.length_cons, List.length_append]; omega

/-- The seal of a beginning that goes beyond the first half. -/
theorem tRoot_beyond {l : List By} {m : Nat} (hl : l.length ≤ 24) (hr : (tRoot l).2 = 0) (h2 : 2 ≤ l.length) (hk : halfN l.length < m) (hm : m ≤ l.length) :
    (tRoot ((l.drop (halfN l.length)).take (m - halfN l.length))).2 = 0 ∧
      tNode (tRoot (l.take (halfN l.length))).1 (tRoot ((l.drop (halfN l.length)).take (m - halfN l.length))).1 = ((tRoot (l.take m)).1, 0) := by
  have hk1 := halfN_pos l.length
  have hr2 := (tRoot_begin _ l m (Nat.le_refl _) hl hr (by omega) hm).1
  have hlm : (l.take m).length = m := by simp only [List.length_take]; omega
  have hhm : halfN m = halfN l.length := halfN_between (by omega) (by omega) (by omega)
  obtain ⟨_, g2, g3⟩ := tRoot_split hr2 (by omega)
  rw [hlm, hhm] at g2 g3
  have e1 : (l.take m).take (halfN l.length) = l.take (halfN l.length) := by rw [List.take_take, Nat.min_eq_left (by omega)]
  have e2 : (l.take m).drop (halfN l.length) = (l.drop (halfN l.length)).take (m - halfN l.length) := by rw [List.drop_take]
  rw [e2] at g2 g3
  rw [e1] at g3
  exact ⟨g2, g3⟩

/-- The seals that show that a list goes on behind its first m. -/
def growOf (l : List By) (m : Nat) (known : Bool) : List By :=
  if _h : l.length ≤ m ∨ l.length ≤ 1 then (if known then [] else [(tRoot l).1]) else
    if m ≤ halfN l.length then growOf (l.take (halfN l.length)) m known ++ [(tRoot (l.drop (halfN l.length))).1]
    else growOf (l.drop (halfN l.length)) (m - halfN l.length) false ++ [(tRoot (l.take (halfN l.length))).1]
  termination_by l.length
  decreasing_by
  all_goals
    have := halfN_pos l.length
    have := halfN_lt (n := l.length) (by omega)
    simp only [List.length_take, List.length_drop]
    omega

theorem growOf_all {l : List By} {known : Bool} : growOf l l.length known = if known then [] else [(tRoot l).1] := by rw [growOf, dif_pos (.inl (Nat.le_refl _))]
theorem growOf_less {l : List By} {m : Nat} {known : Bool} (h1 : 1 ≤ m) (h : m < l.length) : growOf l m known =
    if m ≤ halfN l.length then growOf (l.take (halfN l.length)) m known ++ [(tRoot (l.drop (halfN l.length))).1]
    else growOf (l.drop (halfN l.length)) (m - halfN l.length) false ++ [(tRoot (l.take (halfN l.length))).1] := by
  rw [growOf, dif_neg (by omega)]

/-- One who takes seals, the last one first. -/
abbrev Sh := List By × Bool
def lastS (s : Sh) : By × Sh := if s.1 = [] then ([], s.1, true) else (s.1.getLastD [], s.1.dropLast, s.2)
def nodeS (a b : By) (s : Sh) : By × Sh := ((tNode a b).1, s.1, s.2 || (tNode a b).2 != 0)

/-- Both seals, of the first m, and of all n. -/
def bothS (m n : Nat) (old : By) (known : Bool) (s : Sh) : By × By × Sh :=
  if _h : n ≤ m ∨ n ≤ 1 then (if known then (old, old, s) else ((lastS s).1, (lastS s).1, (lastS s).2)) else
    if m ≤ halfN n then
      let r := bothS m (halfN n) old known (lastS s).2
      (r.1, nodeS r.2.1 (lastS s).1 r.2.2)
    else
      let r := bothS (m - halfN n) (n - halfN n) old false (lastS s).2
      let x := nodeS (lastS s).1 r.1 r.2.2
      (x.1, nodeS (lastS s).1 r.2.1 x.2)
  termination_by n
  decreasing_by
  all_goals
    have := halfN_pos n
    have := halfN_lt (n := n) (by omega)
    omega

theorem bothS_all {n : Nat} {old : By} {known : Bool} {s : Sh} : bothS n n old known s = if known then (old, old, s) else ((lastS s).1, (lastS s).1, (lastS s).2) := by rw [bothS, dif_pos (.inl (Nat.le_refl _))]
theorem bothS_less {m n : Nat} {old : By} {known : Bool} {s : Sh} (h1 : 1 ≤ m) (h : m < n) : bothS m n old known s =
    if m ≤ halfN n then
      ((bothS m (halfN n) old known (lastS s).2).1, nodeS (bothS m (halfN n) old known (lastS s).2).2.1 (lastS s).1 (bothS m (halfN n) old known (lastS s).2).2.2)
    else
      ((nodeS (lastS s).1 (bothS (m - halfN n) (n - halfN n) old false (lastS s).2).1 (bothS (m - halfN n) (n - halfN n) old false (lastS s).2).2.2).1,
        nodeS (lastS s).1 (bothS (m - halfN n) (n - halfN n) old false (lastS s).2).2.1 (nodeS (lastS s).1 (bothS (m - halfN n) (n - halfN n) old false (lastS s).2).1 (bothS (m - halfN n) (n - halfN n) old false (lastS s).2).2.2).2) := by
  rw [bothS, dif_neg (by omega)]

theorem lastS_good {s : Sh} (h : (lastS s).2.2 = false) : s.2 = false ∧ s.1 = (lastS s).2.1 ++ [(lastS s).1] := by
  unfold lastS at h ⊢
  split
  · rename_i hc; rw [if_pos hc] at h; cases h
  · rename_i hc
    rw [if_neg hc] at h
    refine ⟨h, ?_⟩
    simp only
    have : s.1.getLastD [] = s.1.getLast hc := by rw [List.getLastD_eq_getLast?, List.getLast?_eq_some_getLast hc]; rfl
    rw [this, List.dropLast_concat_getLast]

theorem lastS_mk (r : List By) (x : By) (b : Bool) : lastS (r ++ [x], b) = (x, r, b) := by
  unfold lastS
  rw [if_neg (by simp)]
  simp

theorem bothS_bad : ∀ (N m n : Nat) (old : By) (known : Bool) (s : Sh), n ≤ N → 1 ≤ m → m ≤ n → (bothS m n old known s).2.2.2 = false → s.2 = false := by
  intro N
  induction N with
  | zero => intro m n old known s h h1 h2; omega
  | succ N ih =>
    intro m n old known s hn h1 h2 h
    by_cases hmn : m = n
    · subst hmn
      rw [bothS_all] at h
      split at h
      · exact h
      · exact (lastS_good h).1
    · have hk1 := halfN_pos n
      have hk2 := halfN_lt (n := n) (by omega)
      rw [bothS_less h1 (by omega)] at h
      split at h
      · rename_i hk
        simp only [nodeS, Bool.or_eq_false_iff] at h
        exact (lastS_good (ih _ _ _ _ _ (by omega) h1 (by omega) h.1)).1
      · rename_i hk
        simp only [nodeS, Bool.or_eq_false_iff] at h
        exact (lastS_good (ih _ _ _ _ _ (by omega) (by omega) (by omega) h.1.1)).1

/-- WHAT SEALS SHOW IS SO, AND JUST THESE SEALS SHOW IT. -/
theorem bothS_only : ∀ (N : Nat) (l : List By) (m : Nat) (old : By) (known : Bool) (s : Sh) (rest : List By), l.length ≤ N → l.length ≤ 24 → (tRoot l).2 = 0 → 1 ≤ m → m ≤ l.length →
    (bothS m l.length old known s).2.2 = (rest, false) → (bothS m l.length old known s).2.1 = (tRoot l).1 →
      s.2 = false ∧ s.1 = rest ++ growOf l m known ∧ (bothS m l.length old known s) = ((tRoot (l.take m)).1, (tRoot l).1, rest, false) := by
  intro N
  induction N with
  | zero => intro l m old known s rest h _ _ h1 h2; omega
  | succ N ih =>
    intro l m old known s rest hN hl hr h1 hm
    by_cases hml : m = l.length
    · subst hml
      rw [bothS_all, growOf_all, List.take_length]
      cases known with
      | true =>
        simp only [if_true, List.append_nil, Prod.mk.injEq]
        intro h3 h4
        rw [h3]; exact ⟨rfl, rfl, h4, h4, rfl⟩
      | false =>
        simp only [Bool.false_eq_true, if_false, Prod.mk.injEq]
        intro h3 h4
        obtain ⟨g1, g2⟩ := lastS_good (s := s) (by rw [h3])
        rw [h3, h4] at g2
        exact ⟨g1, g2, h4, h4, h3⟩
    · have h2 : 2 ≤ l.length := by omega
      have hk1 := halfN_pos l.length
      have hk2 := halfN_lt h2
      obtain ⟨r1, r2, r3⟩ := tRoot_split hr h2
      have lt1 : (l.take (halfN l.length)).length = halfN l.length := by simp only [List.length_take]; omega
      have ld1 : (l.drop (halfN l.length)).length = l.length - halfN l.length := by simp only [List.length_drop]
      intro h3 h4
      · have hb := bothS_bad _ m l.length old known s (Nat.le_refl _) h1 hm (by rw [h3])
        rw [bothS_less h1 (by omega)] at h3 h4 ⊢
        rw [growOf_less h1 (by omega)]
        by_cases hk : m ≤ halfN l.length
        · rw [if_pos hk] at h3 h4 ⊢
          rw [if_pos hk]
          simp only [nodeS, Prod.mk.injEq, Bool.or_eq_false_iff, bne_eq_false_iff_eq] at h3 h4
          have h5 : tNode (bothS m (halfN l.length) old known (lastS s).2).2.1 (lastS s).1 = ((tRoot l).1, 0) := Prod.ext h4 h3.2.2
          obtain ⟨g1, g2⟩ := tNode_inj h5 r3
          have IH := ih (l.take (halfN l.length)) m old known (lastS s).2 rest (by omega) (by omega) r1 h1 (by omega)
          rw [lt1, List.take_take, Nat.min_eq_left hk] at IH
          obtain ⟨i1, i2, i3⟩ := IH (Prod.ext h3.1 h3.2.1) g1
          have hls := lastS_good (s := s) i1
          refine ⟨hb, ?_, ?_⟩
          · rw [hls.2, i2, g2, List.append_assoc]
          · rw [i3, g2]
            simp only [nodeS, r3]
            simp
        · rw [if_neg hk] at h3 h4 ⊢
          rw [if_neg hk]
          simp only [nodeS, Prod.mk.injEq, Bool.or_eq_false_iff, bne_eq_false_iff_eq] at h3 h4
          have h5 : tNode (lastS s).1 (bothS (m - halfN l.length) (l.length - halfN l.length) old false (lastS s).2).2.1 = ((tRoot l).1, 0) := Prod.ext h4 h3.2.2
          obtain ⟨g1, g2⟩ := tNode_inj h5 r3
          have IH := ih (l.drop (halfN l.length)) (m - halfN l.length) old false (lastS s).2 rest (by omega) (by omega) r2 (by omega) (by omega)
          rw [ld1] at IH
          obtain ⟨i1, i2, i3⟩ := IH (Prod.ext h3.1 h3.2.1.1) g2
          have hls := lastS_good (s := s) i1
          obtain ⟨b1, b2⟩ := tRoot_beyond hl hr h2 (by omega) hm
          refine ⟨hb, ?_, ?_⟩
          · rw [hls.2, i2, g1, List.append_assoc]
          · rw [i3, g1]
            simp only [nodeS, r3, b2]
            simp

theorem bothS_shows : ∀ (N : Nat) (l : List By) (m : Nat) (old : By) (known : Bool) (rest : List By), l.length ≤ N → l.length ≤ 24 → (tRoot l).2 = 0 → 1 ≤ m → m ≤ l.length → (known = true → old = (tRoot (l.take m)).1) →
    bothS m l.length old known (rest ++ growOf l m known, false) = ((tRoot (l.take m)).1, (tRoot l).1, rest, false) := by
  intro N
  induction N with
  | zero => intro l m old known rest h _ _ h1 h2; omega
  | succ N ih =>
    intro l m old known rest hN hl hr h1 hm hold
    by_cases hml : m = l.length
    · subst hml
      rw [bothS_all, growOf_all]
      cases known with
      | true =>
        have := hold rfl
        rw [this]
        simp [List.take_length]
      | false =>
        simp only [Bool.false_eq_true, if_false, List.take_length]
        rw [lastS_mk]
    · have h2 : 2 ≤ l.length := by omega
      have hk1 := halfN_pos l.length
      have hk2 := halfN_lt h2
      obtain ⟨r1, r2, r3⟩ := tRoot_split hr h2
      have lt1 : (l.take (halfN l.length)).length = halfN l.length := by simp only [List.length_take]; omega
      have ld1 : (l.drop (halfN l.length)).length = l.length - halfN l.length := by simp only [List.length_drop]
      rw [bothS_less h1 (by omega), growOf_less h1 (by omega)]
      by_cases hk : m ≤ halfN l.length
      · rw [if_pos hk, if_pos hk, ← List.append_assoc, lastS_mk]
        have IH := ih (l.take (halfN l.length)) m old known rest (by omega) (by omega) r1 h1 (by omega) (by rw [List.take_take, Nat.min_eq_left hk]; exact hold)
        rw [lt1, List.take_take, Nat.min_eq_left hk] at IH
        simp only
        rw [IH]
        simp only [nodeS, r3]
        simp
      · rw [if_neg hk, if_neg hk, ← List.append_assoc, lastS_mk]
        have IH := ih (l.drop (halfN l.length)) (m - halfN l.length) old false rest (by omega) (by omega) r2 (by omega) (by omega) (fun h => by cases h)
        rw [ld1] at IH
        obtain ⟨b1, b2⟩ := tRoot_beyond hl hr h2 (by omega) hm
        simp only
        rw [IH]
        simp only [nodeS, r3, b2]
        simp

/-- Do seals show that a list of n whose seal is root goes on where one of m ended whose seal is old? -/
def growShows (old : By) (m : Int) (root : By) (n : Int) (l : List By) : Int :=
  if m < 1 ∨ n < m ∨ 24 < n then 3
  else if (bothS m.toNat n.toNat old true (l, false)).2.2.2 = true ∨ (bothS m.toNat n.toNat old true (l, false)).2.2.1 ≠ [] ∨ (bothS m.toNat n.toNat old true (l, false)).1 ≠ old ∨ (bothS m.toNat n.toNat old true (l, false)).2.1 ≠ root then 7 else 0

theorem growShows_iff {l : List By} {m : Nat} (hl : l.length ≤ 24) (hr : (tRoot l).2 = 0) (h1 : 1 ≤ m) (hm : m ≤ l.length) (old : By) (seals : List By) :
    growShows old m (tRoot l).1 l.length seals = 0 ↔ old = (tRoot (l.take m)).1 ∧ seals = growOf l m true := by
  unfold growShows
  rw [if_neg (by omega), Int.toNat_natCast, Int.toNat_natCast]
  constructor
  · intro h
    split at h
    · cases h
    · rename_i h2
      simp only [not_or, Bool.not_eq_true, ne_eq, Decidable.not_not] at h2
      obtain ⟨e1, e2, e3, e4⟩ := h2
      obtain ⟨_, g2, g3⟩ := bothS_only _ l m old true (seals, false) [] (Nat.le_refl _) hl hr h1 hm (Prod.ext e2 e1) e4
      rw [g3] at e3
      exact ⟨e3.symm, by simpa using g2⟩
  · rintro ⟨e1, rfl⟩
    have := bothS_shows _ l m old true [] (Nat.le_refl _) hl hr h1 hm (fun _ => e1)
    rw [List.nil_append] at this
    rw [this, if_neg]
    simp [e1]
end Go.Gs

namespace Go.Gs

/-- A part of a list. -/
def sub {α : Type} (l : List α) (f t : Nat) : List α := (l.take t).drop f

theorem sub_all {α : Type} (l : List α) : sub l 0 l.length = l := by simp [sub]
theorem sub_len {α : Type} {l : List α} {f t : Nat} (ht : t ≤ l.length) : (sub l f t).length = t - f := by
  simp only [sub, List.length_drop, List.length_take]; omega
theorem sub_take {α : Type} (l : List α) {f t k : Nat} (h : f + k ≤ t) : (sub l f t).take k = sub l f (f + k) := by
  unfold sub
  rw [List.take_drop, List.take_take, Nat.min_eq_left h]
theorem sub_drop {α : Type} (l : List α) (f t k : Nat) : (sub l f t).drop k = sub l (f + k) t := by
  unfold sub
  rw [List.drop_drop]

/-- Parts around a place, from above, ahead of the last one. -/
def spansF (f t i : Nat) : List (Nat × Nat) :=
  if _h : t - f ≤ 1 then [] else (f, t) :: (if i < f + halfN (t - f) then spansF f (f + halfN (t - f)) i else spansF (f + halfN (t - f)) t i)
  termination_by t - f
  decreasing_by
  all_goals
    have := halfN_pos (t - f)
    have := halfN_lt (n := t - f) (by omega)
    omega

theorem spansF_one {f t i : Nat} (h : t - f ≤ 1) : spansF f t i = [] := by rw [spansF, dif_pos h]
theorem spansF_two {f t i : Nat} (h : ¬ t - f ≤ 1) : spansF f t i = (f, t) :: (if i < f + halfN (t - f) then spansF f (f + halfN (t - f)) i else spansF (f + halfN (t - f)) t i) := by rw [spansF, dif_neg h]

theorem spansF_in : ∀ (n f t i : Nat), t - f ≤ n → ∀ p ∈ spansF f t i, f ≤ p.1 ∧ p.2 ≤ t ∧ 2 ≤ p.2 - p.1 := by
  intro n
  induction n with
  | zero => intro f t i h p hp; rw [spansF_one (by omega)] at hp; cases hp
  | succ n ih =>
    intro f t i h p hp
    by_cases h1 : t - f ≤ 1
    · rw [spansF_one h1] at hp; cases hp
    · have hk1 := halfN_pos (t - f)
      have hk2 := halfN_lt (n := t - f) (by omega)
      rw [spansF_two h1] at hp
      rcases List.mem_cons.1 hp with rfl | hp
      · exact ⟨Nat.le_refl _, Nat.le_refl _, by omega⟩
      · split at hp
        · have := ih f (f + halfN (t - f)) i (by omega) p hp; omega
        · have := ih (f + halfN (t - f)) t i (by omega) p hp; omega

/-- Where a part is parted; whether what stands beside stands left of a place; what stands beside. -/
def midOf (p : Nat × Nat) : Nat := p.1 + halfN (p.2 - p.1)
def sideOf (i : Nat) (p : Nat × Nat) : Bool := decide (midOf p ≤ i)
def besideOf (l : List By) (i : Nat) (p : Nat × Nat) : List By := if midOf p ≤ i then sub l p.1 (midOf p) else sub l (midOf p) p.2
def stepOf (l : List By) (i : Nat) (p : Nat × Nat) : Bool × By := (sideOf i p, (tRoot (besideOf l i p)).1)

theorem spans_turns : ∀ (n f t i : Nat), t - f ≤ n → f ≤ i → (spansF f t i).reverse.map (sideOf i) = turnsN (t - f) (i - f) := by
  intro n
  induction n with
  | zero => intro f t i h hi; rw [spansF_one (by omega), turnsN_one (by omega)]; rfl
  | succ n ih =>
    intro f t i h hi
    by_cases h1 : t - f ≤ 1
    · rw [spansF_one h1, turnsN_one h1]; rfl
    · have hk1 := halfN_pos (t - f)
      have hk2 := halfN_lt (n := t - f) (by omega)
      rw [spansF_two h1, turnsN_two (by omega), List.reverse_cons, List.map_append]
      by_cases hc : i < f + halfN (t - f)
      · rw [if_pos hc, if_pos (by omega), ih f _ i (by omega) hi]
        have e1 : f + halfN (t - f) - f = halfN (t - f) := by omega
        rw [e1]
        have e0 : sideOf i (f, t) = false := decide_eq_false (show ¬ midOf (f, t) ≤ i from Nat.not_le.2 hc)
        simp only [List.map_cons, List.map_nil, e0]
      · rw [if_neg hc, if_neg (by omega), ih _ t i (by omega) (by omega)]
        have e1 : t - (f + halfN (t - f)) = t - f - halfN (t - f) := by omega
        have e2 : i - (f + halfN (t - f)) = i - f - halfN (t - f) := by omega
        rw [e1, e2]
        have e0 : sideOf i (f, t) = true := decide_eq_true (show midOf (f, t) ≤ i from Nat.not_lt.1 hc)
        simp only [List.map_cons, List.map_nil, e0]

theorem spans_path (l : List By) : ∀ (n f t i : Nat), t - f ≤ n → f ≤ i → t ≤ l.length → (spansF f t i).reverse.map (stepOf l i) = pathOf (sub l f t) (i - f) := by
  intro n
  induction n with
  | zero => intro f t i h hi ht; rw [spansF_one (by omega), pathOf_one (by rw [sub_len ht]; omega)]; rfl
  | succ n ih =>
    intro f t i h hi ht
    by_cases h1 : t - f ≤ 1
    · rw [spansF_one h1, pathOf_one (by rw [sub_len ht]; exact h1)]; rfl
    · have hk1 := halfN_pos (t - f)
      have hk2 := halfN_lt (n := t - f) (by omega)
      have hl := sub_len (f := f) ht
      rw [spansF_two h1, pathOf_two (by omega), List.reverse_cons, List.map_append, hl, sub_take l (by omega), sub_drop]
      by_cases hc : i < f + halfN (t - f)
      · rw [if_pos hc, if_pos (by omega), ih f _ i (by omega) hi (by omega)]
        have e0 : sideOf i (f, t) = false := decide_eq_false (show ¬ midOf (f, t) ≤ i from Nat.not_le.2 hc)
        simp only [List.map_cons, List.map_nil, stepOf, e0, besideOf]
        rw [if_neg (show ¬ midOf (f, t) ≤ i from Nat.not_le.2 hc)]
        rfl
      · rw [if_neg hc, if_neg (by omega), ih _ t i (by omega) (by omega) ht]
        have e2 : i - (f + halfN (t - f)) = i - f - halfN (t - f) := by omega
        rw [e2]
        have e0 : sideOf i (f, t) = true := decide_eq_true (show midOf (f, t) ≤ i from Nat.not_lt.1 hc)
        simp only [List.map_cons, List.map_nil, stepOf, e0, besideOf]
        rw [if_pos (show midOf (f, t) ≤ i from Nat.not_lt.1 hc)]
        rfl

theorem tRoot_sub : ∀ (n : Nat) (l : List By) (f t i : Nat), t - f ≤ n → t ≤ l.length → (tRoot (sub l f t)).2 = 0 → ∀ p ∈ spansF f t i, (tRoot (besideOf l i p)).2 = 0 ∧ (tRoot (sub l p.1 (midOf p))).2 = 0 ∧ (tRoot (sub l (midOf p) p.2)).2 = 0 := by
  intro n
  induction n with
  | zero => intro l f t i h _ _ p hp; rw [spansF_one (by omega)] at hp; cases hp
  | succ n ih =>
    intro l f t i h ht hr p hp
    by_cases h1 : t - f ≤ 1
    · rw [spansF_one h1] at hp; cases hp
    · have hk1 := halfN_pos (t - f)
      have hk2 := halfN_lt (n := t - f) (by omega)
      have hl := sub_len (f := f) ht
      obtain ⟨r1, r2, _⟩ := tRoot_split hr (by omega)
      rw [hl, sub_take l (by omega)] at r1
      rw [hl, sub_drop] at r2
      rw [spansF_two h1] at hp
      rcases List.mem_cons.1 hp with rfl | hp
      · refine ⟨?_, r1, r2⟩
        unfold besideOf
        split
        · exact r1
        · exact r2
      · split at hp
        · exact ih l f _ i (by omega) (by omega) r1 p hp
        · exact ih l _ t i (by omega) ht r2 p hp

theorem spansF_len : ∀ (n f t i : Nat), t - f ≤ n → (spansF f t i).length ≤ t - f := by
  intro n
  induction n with
  | zero => intro f t i h; rw [spansF_one (by omega)]; simp
  | succ n ih =>
    intro f t i h
    by_cases h1 : t - f ≤ 1
    · rw [spansF_one h1]; simp
    · have hk1 := halfN_pos (t - f)
      have hk2 := halfN_lt (n := t - f) (by omega)
      rw [spansF_two h1, List.length_cons]
      split
      · have := ih f (f + halfN (t - f)) i (by omega); omega
      · have := ih (f + halfN (t - f)) t i (by omega); omega

/-- The path of a place, or what is wrong. -/
def rootOf2 (l : List By) : By × Int := rootOf l
def pathR (l : List By) (i : Int) : List (Bool × By) × Int := if (rootOf l).2 ≠ 0 then ([], (rootOf l).2) else if i < 0 ∨ l.length ≤ i then ([], 5) else (pathOf l i.toNat, 0)
end Go.Gs

namespace Go.Ab
open Go.Proofs Go.Gs
variable {G0 : Nat → Option Obj}

theorem getX {α : Type} {X : α → List AV} {l : List α} {i : Nat} (h : i < l.length) : (l.map X)[i]? = some (X l[i]) := by rw [List.getElem?_map, List.getElem?_eq_getElem h]; rfl

theorem wrapI {n : Int} (h0 : 0 ≤ n) (h1 : n ≤ 9223372036854775807) : IntKind.i64.wrap n = n := wrap64 (by omega) h1

/-- Lists held together, place by place. -/
theorem eq_gen {α : Type} [DecidableEq α] {D : Nat → Prop} {Q : Bool → Prop} (a b : List α) (hl : a.length = b.length)
    (hstep : ∀ i, (h : i < a.length) → (a[i] ≠ b[i] → Q false) → (a[i] = b[i] → D (i + 1)) → D i) (hend : Q true → D a.length) (hQ : Q (decide (a = b))) : D 0 := by
  have key : ∀ (m i : Nat), a.length - i ≤ m → i ≤ a.length → (∀ j, j < i → a[j]? = b[j]?) → D i := by
    intro m
    induction m with
    | zero =>
      intro i h1 h2 h3
      obtain rfl : i = a.length := by omega
      have : a = b := List.ext_getElem? fun j => by
        rcases Nat.lt_or_ge j a.length with hj | hj
        · exact h3 j hj
        · rw [List.getElem?_eq_none (by omega), List.getElem?_eq_none (by omega)]
      rw [decide_eq_true this] at hQ
      exact hend hQ
    | succ m ih =>
      intro i h1 h2 h3
      by_cases hi : i = a.length
      · exact ih i (by omega) h2 h3
      · refine hstep i (by omega) (fun h => ?_) fun h => ih (i + 1) (by omega) (by omega) fun j hj => ?_
        · have : a ≠ b := by
            intro e
            apply h
            have h5 := congrArg (fun l => l[i]?) e
            rw [List.getElem?_eq_getElem (by omega), List.getElem?_eq_getElem (by omega)] at h5
            exact Option.some.inj h5
          rw [decide_eq_false this] at hQ
          exact hQ
        · rcases Nat.lt_or_ge j i with hj2 | hj2
          · exact h3 j hj2
          · obtain rfl : j = i := by omega
            rw [List.getElem?_eq_getElem (by omega), List.getElem?_eq_getElem (by omega), h]
  exact key a.length 0 (by omega) (by omega) fun j hj => by omega

theorem eqAll_S2 (p q : Bool × By) : eqAll [.bool p.1, .str p.2] [.bool q.1, .str q.2] = decide (p = q) := by
  obtain ⟨a, b⟩ := p
  obtain ⟨c, d⟩ := q
  by_cases h1 : a = c <;> by_cases h2 : b = d <;> simp [eqAll, eqC, h1, h2]

theorem good_EqualStep (a b : List (Bool × By)) (na nb : Bool) (hb : (a.length : Int) ≤ 9223372036854775806) : Good PG nG G0 f_slices_Equal_Step [.sl 2 na none (a.map S2), .sl 2 nb none (b.map S2)] [] (.bool (decide (a = b))) [] := by
  refine good_of_run prOk (by kernel_rfl) (slices_Equal_Step_run na _ nb _ G0 _ ?_)
  simp only [ifK_iff, bne_iff_ne, ne_eq, List.length_map, bne_eq_false_iff_eq]
  refine ⟨fun h => ⟨?_, trivial⟩, fun h => ?_⟩
  · have : a ≠ b := by rintro rfl; exact h rfl
    simp [this]
  · refine eq_gen (D := fun i : Nat => Does PG nG G0 (fnOf PG f_slices_Equal_Step) 0 (lp PG f_slices_Equal_Step 0) (mkT 26 [(0, .sl 2 na none (a.map S2)), (1, .sl 2 nb none (b.map S2)), (12, .int .i64 a.length), (13, .int .i64 i)]) [] fun r' H'' => r' = .bool (decide (a = b)) ∧ H'' = [])
      (Q := fun c => c = decide (a = b)) a b (by omega) (fun i hi h1 h2 => ?_) (fun h1 => ?_) rfl
    · refine does_of_run prOk (slices_Equal_Step_l0_run G0 na _ nb _ _ _ _ ?_)
      simp only [ifK_iff, decide_eq_true_eq, decide_eq_false_iff_not, Int.toNat_natCast]
      rw [wrapI (by omega) (by omega)]
      refine ⟨fun _ => ⟨by omega, _, _, getX hi, by omega, _, _, getX (by omega), fun h4 => ?_, fun h4 => ?_⟩, fun h => by omega⟩
      · rw [eqAll_S2] at h4
        exact ⟨by rw [← h1 (by simpa using h4)], trivial⟩
      · rw [eqAll_S2] at h4
        exact h2 (by simpa using h4)
    · refine does_of_run prOk (slices_Equal_Step_l0_run G0 na _ nb _ _ _ _ ?_)
      simp only [ifK_iff, decide_eq_true_eq, decide_eq_false_iff_not]
      exact ⟨fun h => by omega, fun _ => ⟨by rw [← h1], trivial⟩⟩

theorem good_turns : ∀ (m n i : Nat), n ≤ m → 1 ≤ n → n ≤ 24 → i < n →
    Good PG nG G0 f_path_turns [.int .i64 n, .int .i64 i] [] (.sl 1 (turnsN n i).isEmpty (some 0) ((turnsN n i).map BX)) [some (.grow 1 (turnsN n i).length)] := by
  intro m
  induction m with
  | zero => intro n i h1 h2; omega
  | succ m ih =>
    intro n i hm h1 h2 hi
    refine good_of_run prOk (by kernel_rfl) (path_turns_run n i G0 _ ?_)
    simp only [ifK_iff, beq_iff_eq, beq_eq_false_iff_ne, decide_eq_true_eq, decide_eq_false_iff_not]
    refine ⟨fun h => ?_, fun h => ?_⟩
    · rw [turnsN_one (by omega)]; exact ⟨rfl, rfl⟩
    · have hk1 := halfN_pos n
      have hk2 := halfN_lt (n := n) (by omega)
      have hlen : ∀ a b : Nat, a ≤ 24 → (turnsN a b).length ≤ a := by
        intro a b _
        have := spansF_len a 0 a b (by omega)
        have h2 := congrArg List.length (spans_turns a 0 a b (by omega) (Nat.zero_le _))
        simp only [List.length_map, List.length_reverse, Nat.sub_zero] at h2
        omega
      refine ⟨_, _, good_Half' n (by omega) h2, fun hc => ?_, fun hc => ?_⟩
      · have := ih (halfN n) i (by omega) (by omega) (by omega) (by omega)
        rw [← List.length_map (f := BX)] at this
        refine ⟨_, _, this, ?_, trivial, ?_⟩
        · have := hlen (halfN n) i (by omega)
          simp only [List.length_map]; omega
        · rw [turnsN_two (n := n) (i := i) (by omega), if_pos (by omega)]
          simp [BX]
      · rw [wrapI (by omega) (by omega), wrapI (by omega) (by omega)]
        have e1 : (n : Int) - (halfN n : Nat) = ((n - halfN n : Nat) : Int) := by omega
        have e2 : (i : Int) - (halfN n : Nat) = ((i - halfN n : Nat) : Int) := by omega
        rw [e1, e2]
        have := ih (n - halfN n) (i - halfN n) (by omega) (by omega) (by omega) (by omega)
        rw [← List.length_map (f := BX)] at this
        refine ⟨_, _, this, ?_, trivial, ?_⟩
        · have := hlen (n - halfN n) (i - halfN n) (by omega)
          simp only [List.length_map]; omega
        · rw [turnsN_two (n := n) (i := i) (by omega), if_neg (by omega)]
          simp [BX]

theorem pathOf_len (l : List By) (i : Nat) : (pathOf l i).length ≤ l.length := by
  have h1 := congrArg List.length (pathOf_sides _ l i (Nat.le_refl _))
  have h2 := congrArg List.length (spans_turns l.length 0 l.length i (by omega) (Nat.zero_le _))
  have h3 := spansF_len l.length 0 l.length i (by omega)
  simp only [List.length_map, List.length_reverse, Nat.sub_zero] at h1 h2 h3
  omega

theorem good_pathof (hG : GlobOk G0) : ∀ (m : Nat) (l : List By) (nl : Bool) (i : Nat), l.length ≤ m → l.length ≤ 24 → (tRoot l).2 = 0 → i < l.length →
    Good PG nG G0 f_path_of [.sl 1 nl none (l.map S1), .int .i64 i] [] (.tup [.sl 2 (pathOf l i).isEmpty (some 0) ((pathOf l i).map S2), .int .i64 0]) [some (.grow 2 (pathOf l i).length)] := by
  intro m
  induction m with
  | zero => intro l nl i h1 h2 h3 h4; omega
  | succ m ih =>
    intro l nl i hm h24 hr hi
    refine good_of_run prOk (by kernel_rfl) (path_of_run nl _ i G0 _ ?_)
    simp only [ifK_iff, beq_iff_eq, beq_eq_false_iff_ne, decide_eq_true_eq, decide_eq_false_iff_not, List.length_map, bne_iff_ne, ne_eq, bne_eq_false_iff_eq]
    refine ⟨fun h => ?_, fun h => ?_⟩
    · rw [pathOf_one (by omega)]; exact ⟨rfl, rfl⟩
    · have h2 : 2 ≤ l.length := by omega
      have hk1 := halfN_pos l.length
      have hk2 := halfN_lt h2
      obtain ⟨r1, r2, _⟩ := tRoot_split hr h2
      have lt1 : (l.take (halfN l.length)).length = halfN l.length := by simp only [List.length_take]; omega
      have ld1 : (l.drop (halfN l.length)).length = l.length - halfN l.length := by simp only [List.length_drop]
      have e1 : List.drop 0 (List.take (Int.toNat (halfN l.length : Int)) (l.map S1)) = (l.take (halfN l.length)).map S1 := by simp
      have e2 : List.drop (Int.toNat (halfN l.length : Int)) (List.take (Int.toNat (l.length : Int)) (l.map S1)) = (l.drop (halfN l.length)).map S1 := by
        simp [List.take_of_length_le]
      have q1 : rootOf (l.take (halfN l.length)) = tRoot (l.take (halfN l.length)) := by rw [rootOf, if_neg (by omega)]
      have q2 : rootOf (l.drop (halfN l.length)) = tRoot (l.drop (halfN l.length)) := by rw [rootOf, if_neg (by omega)]
      have g1 := good_Root' (G0 := G0) hG (l.take (halfN l.length)) nl
      have g2 := good_Root' (G0 := G0) hG (l.drop (halfN l.length)) nl
      rw [q1, r1] at g1
      rw [q2, r2] at g2
      have hpl := fun l' i' => pathOf_len l' i'
      refine ⟨_, _, good_Half' l.length h2 h24, by omega, by omega, by omega, by omega, by omega, by omega, fun hc => ?_, fun hc => ?_⟩
      · rw [wrapI (by omega) (by omega), e1, e2]
        have e3 : (i : Int) - (halfN l.length : Nat) = ((i - halfN l.length : Nat) : Int) := by omega
        rw [e3]
        have := ih (l.drop (halfN l.length)) nl (i - halfN l.length) (by omega) (by omega) r2 (by omega)
        rw [← List.length_map (f := S2)] at this
        refine ⟨_, _, _, this, fun h => absurd rfl h, fun _ => ⟨_, _, g1, fun h => absurd rfl h, fun _ => ⟨?_, trivial, ?_⟩⟩⟩
        · have := hpl (l.drop (halfN l.length)) (i - halfN l.length)
          simp only [List.length_map, List.length_cons, List.length_nil]; omega
        · rw [pathOf_two (l := l) (i := i) h2, if_neg (by omega)]
          simp [S2]
      · rw [e1, e2]
        have := ih (l.take (halfN l.length)) nl i (by omega) (by omega) r1 (by omega)
        rw [← List.length_map (f := S2)] at this
        refine ⟨_, _, _, this, fun h => absurd rfl h, fun _ => ⟨_, _, g2, fun h => absurd rfl h, fun _ => ⟨?_, trivial, ?_⟩⟩⟩
        · have := hpl (l.take (halfN l.length)) i
          simp only [List.length_map, List.length_cons, List.length_nil]; omega
        · rw [pathOf_two (l := l) (i := i) h2, if_pos (by omega)]
          simp [S2]

theorem rootOf_ok' {l : List By} (h : (rootOf l).2 = 0) : l.length ≤ 24 ∧ rootOf l = tRoot l := by
  unfold rootOf at h ⊢
  split
  · rename_i hc; rw [if_pos hc] at h; cases h
  · exact ⟨by omega, rfl⟩

theorem good_pathOf (hG : GlobOk G0) (l : List By) (nl : Bool) (i : Int) :
    Good PG nG G0 f_path_Of [.sl 1 nl none (l.map S1), .int .i64 i] [] (.tup [.sl 2 (pathR l i).1.isEmpty none ((pathR l i).1.map S2), .int .i64 (pathR l i).2]) [] := by
  refine good_of_run prOk (by kernel_rfl) (path_Of_run nl _ i G0 _ ⟨_, _, good_Root' hG l nl, ?_⟩)
  simp only [ifK_iff, decide_eq_true_eq, decide_eq_false_iff_not, List.length_map, bne_iff_ne, ne_eq, bne_eq_false_iff_eq]
  refine ⟨fun h => ?_, fun h => ⟨fun h2 => ?_, fun h2 => ⟨fun h3 => ?_, fun h3 => ?_⟩⟩⟩
  · rw [pathR, if_pos h]; exact ⟨rfl, trivial⟩
  · rw [pathR, if_neg (by simpa using h), if_pos (.inl h2)]; exact ⟨rfl, trivial⟩
  · rw [pathR, if_neg (by simpa using h), if_pos (.inr h3)]; exact ⟨rfl, trivial⟩
  · rw [pathR, if_neg (by simpa using h), if_neg (by omega)]
    obtain ⟨k, rfl⟩ := Int.eq_ofNat_of_zero_le (show 0 ≤ i by omega)
    rw [Int.toNat_natCast]
    obtain ⟨a, b⟩ := rootOf_ok' h
    rw [b] at h
    have := good_pathof hG _ l nl k (Nat.le_refl _) a h (by omega)
    rw [← List.length_map (f := S2)] at this
    exact ⟨_, _, _, this, rfl, trivial⟩

theorem pathS_loop (hG : GlobOk G0) (root : By) (bs : List Bool) (nb : Bool) (st : List (Bool × By)) (ns : Bool) (hl : bs.length = st.length) (hb : st.length ≤ 1000) {R : AV → List (Option Blk) → Prop} :
    ∀ (d k : Nat) (now : By), st.length - k ≤ d → k ≤ st.length → R (.int .i64 (fin7 root (climb now (bs.drop k) (st.drop k)))) [] →
      Does PG nG G0 (fnOf PG f_path_Shows) 0 (lp PG f_path_Shows 0) (mkT 82 [(0, .str root), (11, .sl 1 nb none (bs.map BX)), (12, .str now), (45, .sl 2 ns none (st.map S2)), (46, .int .i64 st.length), (47, .int .i64 k)]) [] R := by
  intro d
  have last : ∀ (k : Nat) (now : By), k = st.length → R (.int .i64 (fin7 root (climb now (bs.drop k) (st.drop k)))) [] →
      Does PG nG G0 (fnOf PG f_path_Shows) 0 (lp PG f_path_Shows 0) (mkT 82 [(0, .str root), (11, .sl 1 nb none (bs.map BX)), (12, .str now), (45, .sl 2 ns none (st.map S2)), (46, .int .i64 st.length), (47, .int .i64 k)]) [] R := by
    intro k now hk hR
    refine does_of_run prOk (path_Shows_l0_run G0 _ _ _ _ _ _ _ _ R ?_)
    simp only [ifK_iff, decide_eq_true_eq, decide_eq_false_iff_not]
    have hcl : climb now (bs.drop k) (st.drop k) = (now, 0) := by
      rw [List.drop_eq_nil_of_le (show bs.length ≤ k by omega)]; rfl
    rw [hcl, fin7_end] at hR
    refine ⟨fun h => absurd h (by omega), fun _ => ⟨fun h => ?_, fun h => ?_⟩⟩
    · have h : now ≠ root := by simpa using h
      simpa [h] using hR
    · have h : now = root := by simpa using h
      simpa [h] using hR
  induction d with
  | zero => intro k now h1 h2 hR; exact last k now (by omega) hR
  | succ d ih =>
    intro k now h1 h2 hR
    by_cases hk : k = st.length
    · exact last k now hk hR
    · have hks : k < st.length := by omega
      have hkb : k < bs.length := by omega
      refine does_of_run prOk (path_Shows_l0_run G0 _ _ _ _ _ _ _ _ R ?_)
      rw [Int.toNat_natCast]
      simp only [ifK_iff, decide_eq_true_eq, decide_eq_false_iff_not, bne_iff_ne, ne_eq, bne_eq_false_iff_eq]
      rw [wrapI (by omega) (by omega)]
      rw [List.drop_eq_getElem_cons hks, List.drop_eq_getElem_cons hkb, climb] at hR
      have ih := fun now => ih (k + 1) now (by omega) (by omega)
      refine ⟨fun _ => ⟨by omega, _, _, getX hks, by omega, _, getX hkb, fun h => ?_, fun h => ⟨fun hb => ⟨_, _, good_Node hG _ _, fun h3 => ?_, fun h3 => ih _ ?_⟩, fun hb => ⟨_, _, good_Node hG _ _, fun h3 => ?_, fun h3 => ih _ ?_⟩⟩⟩, fun h => absurd (show (k : Int) < st.length by omega) h⟩
      · have h : st[k].1 ≠ bs[k] := by simpa using h
        rw [if_pos h, fin7_err (by decide)] at hR
        exact hR
      · have h : st[k].1 = bs[k] := by simpa using h
        rw [if_neg (show ¬ st[k].1 ≠ bs[k] by simpa using h)] at hR
        simp only [up1, hb, if_true] at hR
        rw [if_pos h3, fin7_err h3] at hR
        exact hR
      · have h : st[k].1 = bs[k] := by simpa using h
        rw [if_neg (show ¬ st[k].1 ≠ bs[k] by simpa using h)] at hR
        simp only [up1, hb, if_true] at hR
        rw [if_neg (show ¬ (tNode st[k].2 now).2 ≠ 0 by simpa using h3)] at hR
        exact hR
      · have h : st[k].1 = bs[k] := by simpa using h
        rw [if_neg (show ¬ st[k].1 ≠ bs[k] by simpa using h)] at hR
        simp only [up1, hb, Bool.false_eq_true, if_false] at hR
        rw [if_pos h3, fin7_err h3] at hR
        exact hR
      · have h : st[k].1 = bs[k] := by simpa using h
        rw [if_neg (show ¬ st[k].1 ≠ bs[k] by simpa using h)] at hR
        simp only [up1, hb, Bool.false_eq_true, if_false] at hR
        rw [if_neg (show ¬ (tNode now st[k].2).2 ≠ 0 by simpa using h3)] at hR
        exact hR

theorem turnsN_len {n i : Nat} : (turnsN n i).length ≤ n := by
  have := spansF_len n 0 n i (by omega)
  have h2 := congrArg List.length (spans_turns n 0 n i (by omega) (Nat.zero_le _))
  simp only [List.length_map, List.length_reverse, Nat.sub_zero] at h2
  omega

theorem good_pathShows (hG : GlobOk G0) (root : By) (n i : Int) (text : By) (ns : Bool) (st : List (Bool × By)) :
    Good PG nG G0 f_path_Shows [.str root, .int .i64 n, .int .i64 i, .str text, .sl 2 ns none (st.map S2)] [] (.int .i64 (pathShows root n i text st)) [] := by
  refine good_of_run prOk (by kernel_rfl) (path_Shows_run root n i text ns _ G0 _ ?_)
  simp only [ifK_iff, decide_eq_true_eq, decide_eq_false_iff_not, List.length_map, bne_iff_ne, ne_eq, bne_eq_false_iff_eq]
  refine ⟨fun h => ?_, fun h1 => ⟨fun h => ?_, fun h2 => ⟨fun h => ?_, fun h3 => ⟨fun h => ?_, fun h4 => ?_⟩⟩⟩⟩
  · rw [pathShows, if_pos (.inl h)]; exact ⟨rfl, trivial⟩
  · rw [pathShows, if_pos (.inr h)]; exact ⟨rfl, trivial⟩
  · rw [pathShows, if_neg (by omega), if_pos (.inl h)]; exact ⟨rfl, trivial⟩
  · rw [pathShows, if_neg (by omega), if_pos (.inr h)]; exact ⟨rfl, trivial⟩
  · obtain ⟨a, rfl⟩ := Int.eq_ofNat_of_zero_le (show 0 ≤ n by omega)
    obtain ⟨b, rfl⟩ := Int.eq_ofNat_of_zero_le (show 0 ≤ i by omega)
    have g := (good_turns (G0 := G0) a a b (Nat.le_refl _) (by omega) (by omega) (by omega))
    rw [← List.length_map (f := BX)] at g
    refine ⟨_, _, g.forget, ?_⟩
    rw [pathShows, if_neg (by omega), if_neg (by omega), Int.toNat_natCast, Int.toNat_natCast, List.length_map]
    have hlen := turnsN_len (n := a) (i := b)
    refine ⟨fun h => ?_, fun h5 => ⟨_, _, good_Leaf text, fun h => ?_, fun h6 => ?_⟩⟩
    · rw [if_pos (by omega)]; exact ⟨rfl, trivial⟩
    · rw [if_neg (by omega), if_pos h]; exact ⟨rfl, trivial⟩
    · rw [if_neg (show ¬ (turnsN a b).length ≠ st.length by omega), if_neg (show ¬ (tLeaf text).2 ≠ 0 by simpa using h6)]
      exact pathS_loop hG root (turnsN a b) _ st ns (by omega) (by omega) st.length 0 _ (by omega) (by omega) ⟨rfl, rfl⟩
end Go.Ab

namespace Go.Ab
open Go.Proofs Go.Gs
variable {G0 : Nat → Option Obj}

theorem good_spans0 (n i : Nat) (hn : n ≤ 1000) : Good PG nG G0 f_greatsealref_spans [.int .i64 n, .int .i64 i] [] (.sl 2 (spansF 0 n i).isEmpty (some 0) ((spansF 0 n i).map P2)) [some (.grow 2 (spansF 0 n i).length)] := by
  refine good_of_run prOk (by kernel_rfl) (greatsealref_spans_run n i G0 _ ?_)
  suffices main : ∀ R : AV → List (Option Blk) → Prop, R (.sl 2 (spansF 0 n i).isEmpty (some 0) ((spansF 0 n i).map P2)) [some (.grow 2 (spansF 0 n i).length)] → ∀ (m f t : Nat) (acc : List (Nat × Nat)), t - f ≤ m → f ≤ t → t ≤ n → acc ++ spansF f t i = spansF 0 n i →
      Does PG nG G0 (fnOf PG f_greatsealref_spans) 0 (lp PG f_greatsealref_spans 0) (mkT 32 [(1, .int .i64 i), (5, .sl 2 acc.isEmpty (some 0) (acc.map P2)), (6, .int .i64 f), (7, .int .i64 t)]) [some (.grow 2 acc.length)] R from
    main _ ⟨rfl, rfl⟩ n 0 n [] (by omega) (Nat.zero_le _) (Nat.le_refl _) rfl
  intro R hR m
  induction m with
  | zero =>
    intro f t acc h1 h0 h2 h3
    refine does_of_run prOk (greatsealref_spans_l0_run G0 _ _ _ _ _ _ R ?_)
    simp only [ifK_iff, decide_eq_true_eq, decide_eq_false_iff_not]
    rw [spansF_one (by omega), List.append_nil] at h3
    rw [← h3] at hR
    rw [wrap64 (by omega) (by omega)]
    exact ⟨fun h => absurd h (by omega), fun _ => hR⟩
  | succ m ih =>
    intro f t acc h1 h0 h2 h3
    refine does_of_run prOk (greatsealref_spans_l0_run G0 _ _ _ _ _ _ R ?_)
    simp only [ifK_iff, decide_eq_true_eq, decide_eq_false_iff_not, List.length_map]
    rw [wrap64 (by omega) (by omega)]
    by_cases hc : t - f ≤ 1
    · rw [spansF_one hc, List.append_nil] at h3
      rw [← h3] at hR
      exact ⟨fun h => absurd h (by omega), fun _ => hR⟩
    · have hk1 := halfN_pos (t - f)
      have hk2 := halfN_lt (n := t - f) (by omega)
      have hlen := congrArg List.length h3
      have hlen2 := spansF_len n 0 n i (by omega)
      rw [List.length_append] at hlen
      have gh := good_HalfOf (G0 := G0) ((t - f : Nat) : Int) (by omega)
      rw [Int.toNat_natCast] at gh
      have e0 : (t : Int) - f = ((t - f : Nat) : Int) := by omega
      rw [e0]
      rw [spansF_two hc] at h3
      have e1 : IntKind.i64.wrap ((f : Int) + (halfN (t - f) : Nat)) = ((f + halfN (t - f) : Nat) : Int) := by rw [wrap64 (by omega) (by omega)]; omega
      have nxt : ∀ f' t', t' - f' ≤ m → f' ≤ t' → t' ≤ n → (f, t) :: spansF f' t' i = (f, t) :: (if i < f + halfN (t - f) then spansF f (f + halfN (t - f)) i else spansF (f + halfN (t - f)) t i) →
          Does PG nG G0 (fnOf PG f_greatsealref_spans) 0 (lp PG f_greatsealref_spans 0)
            (mkT 32 [(1, .int .i64 i), (5, .sl 2 (acc.isEmpty && List.isEmpty [[AV.int .i64 f, AV.int .i64 t]]) (some 0) (acc.map P2 ++ [[AV.int .i64 f, AV.int .i64 t]])), (6, .int .i64 f'), (7, .int .i64 t')])
            [some (.grow 2 (acc.length + List.length [[AV.int .i64 f, AV.int .i64 t]]))] R := by
        intro f' t' g1 g2 g3 g4
        have := ih f' t' (acc ++ [(f, t)]) g1 g2 g3 (by rw [← h3, ← g4, List.append_assoc]; rfl)
        have e2 : (acc ++ [(f, t)]).isEmpty = (acc.isEmpty && List.isEmpty [[AV.int .i64 (f : Int), AV.int .i64 (t : Int)]]) := by cases acc <;> rfl
        rw [List.map_append, e2, List.length_append] at this
        exact this
      refine ⟨fun _ => ⟨?_, trivial, _, gh, ?_⟩, fun h => absurd (show ((t - f : Nat) : Int) > 1 by omega) h⟩
      · simp only [List.length_cons, List.length_nil]; omega
      · rw [e1]
        refine ⟨fun hi => ?_, fun hi => ?_⟩
        · exact nxt f _ (by omega) (by omega) (by omega) (by rw [if_pos (by omega)])
        · exact nxt _ t (by omega) (by omega) h2 (by rw [if_neg (by omega)])

theorem plain_P2 (l : List (Nat × Nat)) : plainXs (l.map P2) := by
  intro x hx y hy
  obtain ⟨s, _, rfl⟩ := List.mem_map.1 hx
  simp [P2] at hy
  rcases hy with rfl | rfl <;> rfl

theorem good_spans_nil (n i : Nat) (hn : n ≤ 1) : Good PG nG G0 f_greatsealref_spans [.int .i64 n, .int .i64 i] [] (.sl 2 true none []) [] := by
  have := good_spans0 (G0 := G0) n i (by omega)
  rw [spansF_one (by omega)] at this
  exact this.forget

theorem good_spans_arr (n i : Nat) (hn : n ≤ 1000) (h2 : 2 ≤ n) : Good PG nG G0 f_greatsealref_spans [.int .i64 n, .int .i64 i] [] (.rsl 2 0 0 ((spansF 0 n i).map P2).length) [some (.arr 2 ((spansF 0 n i).map P2))] := by
  refine Good.thaw (plain_P2 _) ?_
  have := good_spans0 (G0 := G0) n i hn
  have he : (spansF 0 n i).isEmpty = false := by rw [spansF_two (by omega)]; rfl
  rw [he] at this
  rw [List.length_map]
  exact this

theorem good_Reverse_nil : Good PG nG G0 f_slices_Reverse_pair [.sl 2 true none []] [] (.tup []) [] := by
  refine good_of_run prOk (by kernel_rfl) (slices_Reverse_pair_nil_run G0 _ ?_)
  refine does_of_run prOk (slices_Reverse_pair_nil_l0_run G0 _ _ _ _ _ ?_)
  simp only [ifK_iff, decide_eq_true_eq, decide_eq_false_iff_not]
  exact ⟨fun h => absurd h (by decide), fun _ => ⟨trivial, trivial⟩⟩

theorem setR_two (y : List AV) (a b : AV) (h : y.length = 2) : setR y 0 [a, b] = [a, b] := by
  match y, h with
  | [c, d], _ => rfl

theorem good_Reverse (l : List (Nat × Nat)) (hl : l.length ≤ 1000) : Good PG nG G0 f_slices_Reverse_pair [.rsl 2 0 0 (l.map P2).length] [some (.arr 2 (l.map P2))] (.tup []) [some (.arr 2 (l.reverse.map P2))] := by
  refine good_of_run prOk (by kernel_rfl) (slices_Reverse_pair_run _ _ G0 _ ?_)
  rw [List.length_map]
  suffices main : ∀ R : AV → List (Option Blk) → Prop, R (.tup []) [some (.arr 2 (l.reverse.map P2))] → ∀ (m i : Nat) (s : List (Nat × Nat)), l.length - 2 * i ≤ m → 2 * i ≤ l.length + 1 → s.length = l.length → (∀ k, k < l.length → s[k]? = if k < i ∨ l.length - i ≤ k then l[l.length - 1 - k]? else l[k]?) →
      Does PG nG G0 (fnOf PG f_slices_Reverse_pair) 1 (lp PG f_slices_Reverse_pair 0) (mkT 28 [(0, .rsl 2 0 0 l.length), (2, .int .i64 i), (3, .int .i64 ((l.length : Int) - 1 - i))]) [some (.arr 2 (s.map P2))] R by
    have := main (fun r' H'' => r' = .tup [] ∧ H'' = [some (.arr 2 (l.reverse.map P2))]) ⟨rfl, rfl⟩ l.length 0 l (by omega) (by omega) rfl (fun k hk => by rw [if_neg (by omega)])
    rw [wrap64 (by omega) (by omega)]
    simpa using this
  intro R hR m
  have last : ∀ (i : Nat) (s : List (Nat × Nat)), l.length ≤ 2 * i + 1 → 2 * i ≤ l.length + 1 → s.length = l.length → (∀ k, k < l.length → s[k]? = if k < i ∨ l.length - i ≤ k then l[l.length - 1 - k]? else l[k]?) →
      Does PG nG G0 (fnOf PG f_slices_Reverse_pair) 1 (lp PG f_slices_Reverse_pair 0) (mkT 28 [(0, .rsl 2 0 0 l.length), (2, .int .i64 i), (3, .int .i64 ((l.length : Int) - 1 - i))]) [some (.arr 2 (s.map P2))] R := by
    intro i s h1 h2 h3 h4
    refine does_of_run prOk (slices_Reverse_pair_l0_run G0 _ _ _ _ _ R ?_)
    simp only [ifK_iff, decide_eq_true_eq, decide_eq_false_iff_not]
    refine ⟨fun h => absurd h (by omega), fun _ => ?_⟩
    have : s = l.reverse := List.ext_getElem? fun k => by
      rcases Nat.lt_or_ge k l.length with hk | hk
      · rw [h4 k hk, List.getElem?_reverse hk]
        split
        · rfl
        · congr 1; omega
      · rw [List.getElem?_eq_none (by omega), List.getElem?_eq_none (by simpa using hk)]
    rw [this]; exact hR
  induction m with
  | zero => intro i s h1 h2 h3 h4; exact last i s (by omega) h2 h3 h4
  | succ m ih =>
    intro i s h1 h2 h3 h4
    by_cases hc : l.length ≤ 2 * i + 1
    · exact last i s hc h2 h3 h4
    · have hj : ((l.length : Int) - 1 - i) = ((l.length - 1 - i : Nat) : Int) := by omega
      have hil : i < s.length := by omega
      have hjl : l.length - 1 - i < s.length := by omega
      refine does_of_run prOk (slices_Reverse_pair_l0_run G0 _ _ _ _ _ R ?_)
      rw [hj]
      simp only [ifK_iff, decide_eq_true_eq, decide_eq_false_iff_not, Int.toNat_natCast, Nat.zero_add]
      rw [wrapI (by omega) (by omega), wrap64 (by omega) (by omega)]
      have gi : (s.map P2)[i]? = some (P2 s[i]) := getX hil
      have gj : (s.map P2)[l.length - 1 - i]? = some (P2 s[l.length - 1 - i]) := getX hjl
      refine ⟨fun _ => ⟨by omega, by omega, _, _, ⟨_, gj, rfl⟩, by omega, by omega, _, _, ⟨_, gi, rfl⟩, by omega, by omega, by omega, by omega, ?_⟩, fun h => absurd (show (i : Int) < ((l.length - 1 - i : Nat) : Int) by omega) h⟩
      have s1 : setR ((s.map P2).getD i []) 0 [.int .i64 s[l.length - 1 - i].1, .int .i64 s[l.length - 1 - i].2] = P2 s[l.length - 1 - i] := by
        rw [List.getD_eq_getElem?_getD, gi]; exact setR_two _ _ _ rfl
      rw [s1]
      have gj2 : ((s.map P2).set i (P2 s[l.length - 1 - i]))[l.length - 1 - i]? = some (P2 s[l.length - 1 - i]) := by
        rw [List.getElem?_set, if_neg (by omega)]; exact gj
      have s2 : setR (((s.map P2).set i (P2 s[l.length - 1 - i])).getD (l.length - 1 - i) []) 0 [.int .i64 s[i].1, .int .i64 s[i].2] = P2 s[i] := by
        rw [List.getD_eq_getElem?_getD, gj2]; exact setR_two _ _ _ rfl
      rw [s2]
      have hm : ((s.map P2).set i (P2 s[l.length - 1 - i])).set (l.length - 1 - i) (P2 s[i]) = (((s.set i s[l.length - 1 - i]).set (l.length - 1 - i) s[i])).map P2 := by
        rw [List.map_set, List.map_set]
      rw [hm]
      have := ih (i + 1) ((s.set i s[l.length - 1 - i]).set (l.length - 1 - i) s[i]) (by omega) (by omega) (by simpa using h3) (fun k hk => ?_)
      · have e3 : ((l.length : Int) - 1 - ((i + 1 : Nat) : Int)) = ((l.length - 1 - i : Nat) : Int) - 1 := by omega
        rw [e3] at this
        exact this
      · have vi : s[i] = l[i] := by
          have := h4 i (by omega)
          rw [if_neg (by omega), List.getElem?_eq_getElem hil, List.getElem?_eq_getElem (by omega)] at this
          exact Option.some.inj this
        have vj : s[l.length - 1 - i] = l[l.length - 1 - i] := by
          have := h4 (l.length - 1 - i) (by omega)
          rw [if_neg (by omega), List.getElem?_eq_getElem hjl, List.getElem?_eq_getElem (by omega)] at this
          exact Option.some.inj this
        rw [List.getElem?_set, List.getElem?_set]
        by_cases hkj : l.length - 1 - i = k
        · subst hkj
          rw [if_pos rfl, if_pos (by simpa using hjl), if_pos (.inr (by omega)), vi]
          have : l.length - 1 - (l.length - 1 - i) = i := by omega
          rw [this, List.getElem?_eq_getElem (by omega)]
        · rw [if_neg hkj]
          by_cases hki : i = k
          · subst hki
            rw [if_pos rfl, if_pos hil, if_pos (.inl (by omega)), vj, List.getElem?_eq_getElem (by omega)]
          · rw [if_neg hki, h4 k hk]
            by_cases hb : k < i ∨ l.length - i ≤ k
            · rw [if_pos hb, if_pos (by omega)]
            · rw [if_neg hb, if_neg (by omega)]

theorem sub_map {l : List By} (f t : Nat) : List.drop f (List.take t (l.map S1)) = (sub l f t).map S1 := by simp [sub]

theorem pathO_loop (hG : GlobOk G0) (l : List By) (nl : Bool) (i : Nat) (hl : l.length ≤ 24) (rs : List (Nat × Nat)) (nr : Bool) (hr : rs.length ≤ 24) (hrs : ∀ p ∈ rs, p.2 ≤ l.length ∧ 2 ≤ p.2 - p.1) (hi : i ≤ 1000) {R : AV → List (Option Blk) → Prop}
    (hR : R (.tup [.sl 2 rs.isEmpty none ((rs.map (stepOf l i)).map S2), .int .i64 0]) []) :
    ∀ (d k : Nat), rs.length - k ≤ d → k ≤ rs.length → Does PG nG G0 (fnOf PG f_greatsealref_PathOf) 0 (lp PG f_greatsealref_PathOf 0)
      (mkT 81 [(0, .sl 1 nl none (l.map S1)), (1, .int .i64 i), (9, .sl 2 (k == 0) (some 0) (((rs.take k).map (stepOf l i)).map S2)), (38, .sl 2 nr none (rs.map P2)), (39, .int .i64 rs.length), (40, .int .i64 k)]) [some (.grow 2 k)] R := by
  intro d
  have last : ∀ k : Nat, k = rs.length → Does PG nG G0 (fnOf PG f_greatsealref_PathOf) 0 (lp PG f_greatsealref_PathOf 0)
      (mkT 81 [(0, .sl 1 nl none (l.map S1)), (1, .int .i64 i), (9, .sl 2 (k == 0) (some 0) (((rs.take k).map (stepOf l i)).map S2)), (38, .sl 2 nr none (rs.map P2)), (39, .int .i64 rs.length), (40, .int .i64 k)]) [some (.grow 2 k)] R := by
    intro k hk
    subst hk
    refine does_of_run prOk (greatsealref_PathOf_l0_run G0 _ _ _ _ _ _ _ _ _ _ R ?_)
    simp only [ifK_iff, decide_eq_true_eq, decide_eq_false_iff_not]
    refine ⟨fun h => absurd h (by omega), fun _ => ?_⟩
    have e : (rs.length == 0) = rs.isEmpty := by cases rs <;> rfl
    rw [List.take_length, e]; exact hR
  induction d with
  | zero => intro k h1 h2; exact last k (by omega)
  | succ d ih =>
    intro k h1 h2
    by_cases hk : k = rs.length
    · exact last k hk
    · have hkl : k < rs.length := by omega
      obtain ⟨b1, b2⟩ := hrs rs[k] (List.getElem_mem hkl)
      have hk1 := halfN_pos (rs[k].2 - rs[k].1)
      have hk2 := halfN_lt b2
      have gh := good_HalfOf (G0 := G0) ((rs[k].2 - rs[k].1 : Nat) : Int) (by omega)
      rw [Int.toNat_natCast] at gh
      have w1 : IntKind.i64.wrap ((rs[k].2 : Int) - (rs[k].1 : Int)) = ((rs[k].2 - rs[k].1 : Nat) : Int) := by rw [wrap64 (by omega) (by omega)]; omega
      have w2 : IntKind.i64.wrap ((rs[k].1 : Int) + (halfN (rs[k].2 - rs[k].1) : Nat)) = ((midOf rs[k] : Nat) : Int) := by rw [wrap64 (by omega) (by omega)]; unfold midOf; omega
      have hm : midOf rs[k] = rs[k].1 + halfN (rs[k].2 - rs[k].1) := rfl
      have hlen : (((rs.take k).map (stepOf l i)).map S2).length = k := by simp; omega
      refine does_of_run prOk (greatsealref_PathOf_l0_run G0 _ _ _ _ _ _ _ _ _ _ R ?_)
      simp only [ifK_iff, decide_eq_true_eq, decide_eq_false_iff_not, Int.toNat_natCast]
      refine ⟨fun _ => ⟨by omega, _, _, getX hkl, by omega, by omega, by omega, by omega, by omega, by omega, _, by rw [w1]; exact gh, by omega, by omega, ?_⟩, fun h => absurd (show (k : Int) < rs.length by omega) h⟩
      rw [w2]
      have nxt : ∀ (q : List (List AV)), q = [S2 (stepOf l i rs[k])] →
          ((((rs.take k).map (stepOf l i)).map S2).length + q.length) * 24 ≤ 140737488355328 ∧ (((rs.take k).map (stepOf l i)).map S2).length = k ∧
          Does PG nG G0 (fnOf PG f_greatsealref_PathOf) 0 (lp PG f_greatsealref_PathOf 0)
            (mkT 81 [(0, .sl 1 nl none (l.map S1)), (1, .int .i64 i), (9, .sl 2 ((k == 0) && q.isEmpty) (some 0) (((rs.take k).map (stepOf l i)).map S2 ++ q)), (38, .sl 2 nr none (rs.map P2)), (39, .int .i64 rs.length), (40, .int .i64 (IntKind.i64.wrap ((k : Int) + 1)))])
            [some (.grow 2 (k + q.length))] R := by
        intro q hq
        subst hq
        have := ih (k + 1) (by omega) (by omega)
        rw [List.take_succ_eq_append_getElem hkl, List.map_append, List.map_append] at this
        rw [hlen, wrapI (by omega) (by omega)]
        refine ⟨by simp; omega, rfl, ?_⟩
        simp only [List.isEmpty_cons, Bool.and_false]
        exact this
      refine ⟨by omega, by omega, by simp; omega, fun hc => ⟨by omega, by omega, by omega, by omega, by simp; omega, ?_⟩, fun hc => ?_⟩
      · have hc' : midOf rs[k] ≤ i := by omega
        have g := good_RootOf (G0 := G0) hG (sub l rs[k].1 (midOf rs[k])) nl
        have hsl := sub_len (l := l) (f := rs[k].1) (t := midOf rs[k]) (by omega)
        rw [rootOf, if_neg (by omega)] at g
        refine ⟨_, _, by rw [sub_map]; exact g, nxt _ ?_⟩
        simp only [stepOf, sideOf, besideOf, S2, hc', decide_true, if_true]
        congr 3
        simp; omega
      · have hc' : ¬ midOf rs[k] ≤ i := by omega
        have g := good_RootOf (G0 := G0) hG (sub l (midOf rs[k]) rs[k].2) nl
        have hsl := sub_len (l := l) (f := midOf rs[k]) (t := rs[k].2) b1
        rw [rootOf, if_neg (by omega)] at g
        refine ⟨_, _, by rw [sub_map]; exact g, nxt _ ?_⟩
        simp only [stepOf, sideOf, besideOf, S2, hc', decide_false, if_false]
        congr 3
        simp; omega
end Go.Ab

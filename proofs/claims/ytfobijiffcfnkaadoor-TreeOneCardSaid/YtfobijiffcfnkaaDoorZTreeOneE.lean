/- What a proof of TreeOne leans on (5): The types' table of this program, its functions' numbers; DERIVED: THE SHELF's CONTRACTS AT THIS DUMP, IN PLAIN WORDS (tools/lay-plain.mjs out of 'TrydShelf.lean', which tools/lay-shelf.mjs wrote): THE SAME DECLARATIONS UNDER THE SAME NAMES: 'import', 'namespace', 'open', 'def', 'theorem' AND NOTHING ELSE: no command of the shelf's: FOR A HAND-IN. Each laying: the table of numbers ('.._ren') and one theorem, a field a fact of the dump's own or the kernel's comparison; each contract: ONE APPLICATION.; Contracts of the library's functions, as contracts here; What the runs come to; The seals and the lists' seals, in plain words; Contracts: seals, halves, lists; Contracts: the seal of a list, by; no condition. -/
import Derived.Test.YtfobijiffcfnkaaDoorZTreeOneD
import Derived.Test.YtfobijiffcfnkaaDoorProg
import Derived.Shelf.Strconv.Itoa0
import Derived.Shelf.Strconv.Itoa1
import Derived.Shelf.LaysM
import Derived.Shelf.Strconv.Itoa2
import Derived.Shelf.Strconv.Itoa3
import Derived.Ground.Names2Prog
import Derived.Shelf.Slices.Clone
import Derived.Ground.SlgnProg
import Derived.Shelf.SlicesE.Clone
import Derived.Lib.ItoaNum
namespace Go.Ab
open Go.Proofs
set_option maxRecDepth 100000
def tyL : List (Option TI) := [
  none,
  some ⟨.scalar (.func), 1, 8, [.func]⟩,
  some ⟨.scalar (.int .i64), 1, 8, [.int .i64]⟩,
  some ⟨.scalar (.int .i64), 1, 8, [.int .i64]⟩,
  some ⟨.scalar (.bool), 1, 1, [.bool]⟩,
  some ⟨.scalar (.int .u8), 1, 1, [.int .u8]⟩,
  some ⟨.scalar (.int .u8), 1, 1, [.int .u8]⟩,
  some ⟨.struct [(0, 2), (1, 3), (2, 4), (3, 6)], 4, 24, [.int .i64, .int .i64, .bool, .int .u8]⟩,
  some ⟨.struct [(0, 2), (1, 3), (2, 4), (3, 6)], 4, 24, [.int .i64, .int .i64, .bool, .int .u8]⟩,
  some ⟨.scalar (.str), 1, 16, [.str]⟩,
  some ⟨.scalar (.str), 1, 16, [.str]⟩,
  some ⟨.scalar (.str), 1, 16, [.str]⟩,
  some ⟨.scalar (.int .u64), 1, 8, [.int .u64]⟩,
  none,
  none,
  some ⟨.scalar (.ptr), 1, 8, [.ptr]⟩,
  some ⟨.scalar (.ptr), 1, 8, [.ptr]⟩,
  some ⟨.scalar (.ptr), 1, 8, [.ptr]⟩,
  none,
  none,
  some ⟨.scalar (.iface), 1, 16, [.iface]⟩,
  some ⟨.scalar (.int .i32), 1, 4, [.int .i32]⟩,
  some ⟨.slice 9, 1, 24, [.sl 1]⟩,
  some ⟨.scalar (.int .i64), 1, 8, [.int .i64]⟩,
  none,
  some ⟨.scalar (.func), 1, 8, [.func]⟩,
  none,
  some ⟨.scalar (.func), 1, 8, [.func]⟩,
  some ⟨.scalar (.func), 1, 8, [.func]⟩,
  some ⟨.scalar (.func), 1, 8, [.func]⟩,
  some ⟨.scalar (.func), 1, 8, [.func]⟩,
  some ⟨.scalar (.func), 1, 8, [.func]⟩,
  some ⟨.scalar (.func), 1, 8, [.func]⟩,
  some ⟨.scalar (.func), 1, 8, [.func]⟩,
  some ⟨.scalar (.func), 1, 8, [.func]⟩,
  some ⟨.map 3 9, 1, 8, [.mp]⟩,
  some ⟨.scalar (.func), 1, 8, [.func]⟩,
  none,
  some ⟨.scalar (.func), 1, 8, [.func]⟩,
  none,
  some ⟨.scalar (.func), 1, 8, [.func]⟩,
  some ⟨.scalar (.func), 1, 8, [.func]⟩,
  some ⟨.scalar (.func), 1, 8, [.func]⟩,
  some ⟨.slice 22, 1, 24, [.sl 1]⟩,
  some ⟨.scalar (.func), 1, 8, [.func]⟩,
  some ⟨.scalar (.func), 1, 8, [.func]⟩,
  some ⟨.scalar (.func), 1, 8, [.func]⟩,
  some ⟨.scalar (.func), 1, 8, [.func]⟩,
  some ⟨.scalar (.func), 1, 8, [.func]⟩,
  some ⟨.scalar (.func), 1, 8, [.func]⟩,
  some ⟨.slice 57, 1, 24, [.sl 2]⟩,
  some ⟨.scalar (.func), 1, 8, [.func]⟩,
  none,
  some ⟨.scalar (.func), 1, 8, [.func]⟩,
  some ⟨.scalar (.func), 1, 8, [.func]⟩,
  some ⟨.scalar (.func), 1, 8, [.func]⟩,
  some ⟨.struct [(0, 4), (1, 9)], 2, 24, [.bool, .str]⟩,
  some ⟨.struct [(0, 4), (1, 9)], 2, 24, [.bool, .str]⟩,
  some ⟨.scalar (.func), 1, 8, [.func]⟩,
  some ⟨.scalar (.func), 1, 8, [.func]⟩,
  some ⟨.scalar (.func), 1, 8, [.func]⟩,
  some ⟨.scalar (.func), 1, 8, [.func]⟩,
  some ⟨.scalar (.func), 1, 8, [.func]⟩,
  some ⟨.scalar (.func), 1, 8, [.func]⟩,
  some ⟨.scalar (.func), 1, 8, [.func]⟩,
  some ⟨.scalar (.func), 1, 8, [.func]⟩,
  some ⟨.scalar (.func), 1, 8, [.func]⟩,
  some ⟨.scalar (.func), 1, 8, [.func]⟩,
  some ⟨.scalar (.func), 1, 8, [.func]⟩,
  some ⟨.scalar (.func), 1, 8, [.func]⟩,
  some ⟨.slice 4, 1, 24, [.sl 1]⟩,
  some ⟨.scalar (.func), 1, 8, [.func]⟩,
  some ⟨.scalar (.ptr), 1, 8, [.ptr]⟩,
  some ⟨.struct [(0, 22), (1, 4)], 2, 32, [.sl 1, .bool]⟩,
  some ⟨.struct [(0, 22), (1, 4)], 2, 32, [.sl 1, .bool]⟩,
  none,
  some ⟨.scalar (.func), 1, 8, [.func]⟩,
  some ⟨.scalar (.func), 1, 8, [.func]⟩,
  some ⟨.slice 81, 1, 24, [.sl 2]⟩,
  some ⟨.scalar (.func), 1, 8, [.func]⟩,
  some ⟨.scalar (.func), 1, 8, [.func]⟩,
  some ⟨.arr 2 3, 2, 16, [.int .i64, .int .i64]⟩,
  none,
  some ⟨.scalar (.func), 1, 8, [.func]⟩,
  some ⟨.scalar (.func), 1, 8, [.func]⟩,
  some ⟨.scalar (.func), 1, 8, [.func]⟩,
  some ⟨.scalar (.func), 1, 8, [.func]⟩,
  some ⟨.arr 24 5, 24, 24, [.int .u8, .int .u8, .int .u8, .int .u8, .int .u8, .int .u8, .int .u8, .int .u8, .int .u8, .int .u8, .int .u8, .int .u8, .int .u8, .int .u8, .int .u8, .int .u8, .int .u8, .int .u8, .int .u8, .int .u8, .int .u8, .int .u8, .int .u8, .int .u8]⟩,
  some ⟨.scalar (.int .u64), 1, 8, [.int .u64]⟩,
  some ⟨.scalar (.func), 1, 8, [.func]⟩,
  some ⟨.scalar (.func), 1, 8, [.func]⟩,
  some ⟨.slice 5, 1, 24, [.sl 1]⟩,
  none,
  some ⟨.scalar (.func), 1, 8, [.func]⟩,
  some ⟨.scalar (.func), 1, 8, [.func]⟩,
  some ⟨.arr 20 88, 20, 160, [.int .u64, .int .u64, .int .u64, .int .u64, .int .u64, .int .u64, .int .u64, .int .u64, .int .u64, .int .u64, .int .u64, .int .u64, .int .u64, .int .u64, .int .u64, .int .u64, .int .u64, .int .u64, .int .u64, .int .u64]⟩,
  some ⟨.scalar (.int .u32), 1, 4, [.int .u32]⟩,
  some ⟨.arr 65 5, 65, 65, [.int .u8, .int .u8, .int .u8, .int .u8, .int .u8, .int .u8, .int .u8, .int .u8, .int .u8, .int .u8, .int .u8, .int .u8, .int .u8, .int .u8, .int .u8, .int .u8, .int .u8, .int .u8, .int .u8, .int .u8, .int .u8, .int .u8, .int .u8, .int .u8, .int .u8, .int .u8, .int .u8, .int .u8, .int .u8, .int .u8, .int .u8, .int .u8, .int .u8, .int .u8, .int .u8, .int .u8, .int .u8, .int .u8, .int .u8, .int .u8, .int .u8, .int .u8, .int .u8, .int .u8, .int .u8, .int .u8, .int .u8, .int .u8, .int .u8, .int .u8, .int .u8, .int .u8, .int .u8, .int .u8, .int .u8, .int .u8, .int .u8, .int .u8, .int .u8, .int .u8, .int .u8, .int .u8, .int .u8, .int .u8, .int .u8]⟩,
  some ⟨.scalar (.func), 1, 8, [.func]⟩,
  some ⟨.scalar (.int .u64), 1, 8, [.int .u64]⟩,
  some ⟨.scalar (.func), 1, 8, [.func]⟩,
  some ⟨.scalar (.func), 1, 8, [.func]⟩,
  some ⟨.arr 32 5, 32, 32, [.int .u8, .int .u8, .int .u8, .int .u8, .int .u8, .int .u8, .int .u8, .int .u8, .int .u8, .int .u8, .int .u8, .int .u8, .int .u8, .int .u8, .int .u8, .int .u8, .int .u8, .int .u8, .int .u8, .int .u8, .int .u8, .int .u8, .int .u8, .int .u8, .int .u8, .int .u8, .int .u8, .int .u8, .int .u8, .int .u8, .int .u8, .int .u8]⟩,
  some ⟨.arr 64 5, 64, 64, [.int .u8, .int .u8, .int .u8, .int .u8, .int .u8, .int .u8, .int .u8, .int .u8, .int .u8, .int .u8, .int .u8, .int .u8, .int .u8, .int .u8, .int .u8, .int .u8, .int .u8, .int .u8, .int .u8, .int .u8, .int .u8, .int .u8, .int .u8, .int .u8, .int .u8, .int .u8, .int .u8, .int .u8, .int .u8, .int .u8, .int .u8, .int .u8, .int .u8, .int .u8, .int .u8, .int .u8, .int .u8, .int .u8, .int .u8, .int .u8, .int .u8, .int .u8, .int .u8, .int .u8, .int .u8, .int .u8, .int .u8, .int .u8, .int .u8, .int .u8, .int .u8, .int .u8, .int .u8, .int .u8, .int .u8, .int .u8, .int .u8, .int .u8, .int .u8, .int .u8, .int .u8, .int .u8, .int .u8, .int .u8]⟩,
  none,
  none,
  some ⟨.arr 0 16, 0, 0, []⟩,
  none,
  none,
  some ⟨.scalar (.func), 1, 8, [.func]⟩,
  some ⟨.scalar (.int .u8), 1, 1, [.int .u8]⟩,
  some ⟨.scalar (.int .u8), 1, 1, [.int .u8]⟩,
  some ⟨.scalar (.func), 1, 8, [.func]⟩,
  some ⟨.scalar (.ptr), 1, 8, [.ptr]⟩,
  some ⟨.scalar (.int .i32), 1, 4, [.int .i32]⟩,
  some ⟨.scalar (.int .i32), 1, 4, [.int .i32]⟩,
  none,
  none,
  none]
abbrev ty : Tab := tabOfL tyL
noncomputable abbrev PG : Program := Tryd.prog
theorem prOk : ProgOk PG ty := progOk_of (by kernel_rfl) (by kernel_rfl) (by kernel_rfl)
abbrev nG : Nat := 3
abbrev f_main_main : Nat := 0
abbrev f_gosem_cut : Nat := 1
abbrev f_gosem_cut_init : Nat := 2
abbrev f_greatseallaw_TreeSays : Nat := 3
abbrev f_greatseallaw_TreeOne : Nat := 4
abbrev f_greatseallaw_TrieTrue : Nat := 5
abbrev f_greatseallaw_TrieSays : Nat := 6
abbrev f_greatseallaw_TrieEach : Nat := 7
abbrev f_greatseallaw_TrieOne : Nat := 8
abbrev f_greatseallaw_PathTrue : Nat := 9
abbrev f_greatseallaw_PathOther : Nat := 10
abbrev f_greatseallaw_GrowTrue : Nat := 11
abbrev f_greatseallaw_GrowOn : Nat := 12
abbrev f_greatseallaw_PathSays : Nat := 13
abbrev f_greatseallaw_GrowSays : Nat := 14
abbrev f_tree_Root : Nat := 15
abbrev f_tree_Half : Nat := 16
abbrev f_greatsealref_RootOf : Nat := 17
abbrev f_greatseallaw_planted : Nat := 18
abbrev f_greatsealref_HalfOf : Nat := 19
abbrev f_slices_Equal_string : Nat := 20
abbrev f_greatseallaw_at : Nat := 21
abbrev f_slices_Clone_string : Nat := 22
abbrev f_trie_Root : Nat := 23
abbrev f_greatseallaw_rooted : Nat := 24
abbrev f_trie_Shows : Nat := 25
abbrev f_trie_Path : Nat := 26
abbrev f_greatsealref_CheckMap : Nat := 27
abbrev f_trie_Check : Nat := 28
abbrev f_greatsealref_MapShows : Nat := 29
abbrev f_greatsealref_MapRoots : Nat := 30
abbrev f_greatsealref_MapPath : Nat := 31
abbrev f_maps_Equal_string : Nat := 32
abbrev f_greatseallaw_pathed : Nat := 33
abbrev f_path_Shows : Nat := 34
abbrev f_path_Of : Nat := 35
abbrev f_slices_Equal_Step : Nat := 36
abbrev f_greatseallaw_grown : Nat := 37
abbrev f_grow_Shows : Nat := 38
abbrev f_grow_Of : Nat := 39
abbrev f_greatsealref_PathOf : Nat := 40
abbrev f_greatsealref_PathShows : Nat := 41
abbrev f_greatsealref_GrowthOf : Nat := 42
abbrev f_greatsealref_GrowthShows : Nat := 43
abbrev f_seal_None : Nat := 44
abbrev f_seal_Leaf : Nat := 45
abbrev f_seal_Node : Nat := 46
abbrev f_greatsealref_RootOf_c1 : Nat := 47
abbrev f_greatsealref_LeafOf : Nat := 48
abbrev f_greatsealref_NodeOf : Nat := 49
abbrev f_trie_root : Nat := 50
abbrev f_greatsealref_in : Nat := 51
abbrev f_path_turns : Nat := 52
abbrev f_path_of : Nat := 53
abbrev f_greatseal_grow_shower_both : Nat := 54
abbrev f_grow_of : Nat := 55
abbrev f_greatsealref_spans : Nat := 56
abbrev f_slices_Reverse_pair : Nat := 57
abbrev f_greatsealref_parts : Nat := 58
abbrev f_strconv_Itoa : Nat := 59
abbrev f_greatseal_grow_shower_last : Nat := 60
abbrev f_greatseal_grow_shower_node : Nat := 61
abbrev f_internal_strconv_Itoa : Nat := 62
abbrev f_internal_strconv_FormatInt : Nat := 63
abbrev f_internal_strconv_small : Nat := 64
abbrev f_internal_strconv_numDigits : Nat := 65
abbrev f_internal_strconv_formatBase10 : Nat := 66
abbrev f_internal_strconv_formatBits : Nat := 67
abbrev f_internal_strconv_log10Pow2 : Nat := 68
abbrev f_math_bits_Len64 : Nat := 69
abbrev f_internal_strconv_bool2_int : Nat := 70
abbrev f_internal_strconv_isPowerOfTwo : Nat := 71
abbrev f_math_bits_TrailingZeros : Nat := 72
abbrev f_math_bits_TrailingZeros32 : Nat := 73
abbrev f_math_bits_TrailingZeros64 : Nat := 74
abbrev f_runtime_boundsError_Error : Nat := 75
abbrev f_runtime_boundsError_RuntimeError : Nat := 76
abbrev f_runtime_errorString_Error : Nat := 77
abbrev f_runtime_errorString_RuntimeError : Nat := 78
abbrev f_runtime_plainError_Error : Nat := 79
abbrev f_runtime_plainError_RuntimeError : Nat := 80
abbrev f_runtime_errorAddressString_Error : Nat := 81
abbrev f_runtime_errorAddressString_RuntimeError : Nat := 82
abbrev f_runtime_TypeAssertionError_Error : Nat := 83
abbrev f_runtime_TypeAssertionError_RuntimeError : Nat := 84
abbrev f_runtime_PanicNilError_Error : Nat := 85
abbrev f_runtime_PanicNilError_RuntimeError : Nat := 86
abbrev f_internal_abi_Type_Align : Nat := 87
abbrev f_internal_runtime_maps_unhashableTypeError_Error : Nat := 88
abbrev f_internal_runtime_maps_unhashableTypeError_RuntimeError : Nat := 89
abbrev f_internal_abi_Kind_String : Nat := 90
abbrev f_gosem_cut_vars : Nat := 96
end Go.Ab

namespace Go.Proofs
open Go.Shelf
def Tryd.lays129_ren : Go.Shelf.Ren := ⟨fun | 129 => 69 | n => n, fun | 53 => 88 | 3 => 3 | 4 => 4 | 46 => 99 | 5 => 5 | 9 => 9 | n => n, fun | n => n⟩
theorem Tryd.lays129 : Go.Proofs.Lays.n129 Tryd.prog Tryd.lays129_ren := {
  mixed := by kernel_rfl
  f129 := Tryd.func69.trans (congrArg some (by kernel_rfl))
  t3 := Tryd.underlying3
  a3 := Tryd.isAgg3
  z3 := Tryd.sizeOf3
  v3 := Tryd.zeroValue3
  t4 := Tryd.underlying4
  a4 := Tryd.isAgg4
  z4 := Tryd.sizeOf4
  v4 := Tryd.zeroValue4
  t5 := Tryd.underlying5
  a5 := Tryd.isAgg5
  z5 := Tryd.sizeOf5
  v5 := Tryd.zeroValue5
  t9 := Tryd.underlying9
  a9 := Tryd.isAgg9
  z9 := Tryd.sizeOf9
  v9 := Tryd.zeroValue9
  t46 := Tryd.underlying99
  a46 := Tryd.isAgg99
  z46 := Tryd.sizeOf99
  v46 := Tryd.zeroValue99
  t53 := Tryd.underlying88
  a53 := Tryd.isAgg88
  z53 := Tryd.sizeOf88
  v53 := Tryd.zeroValue88 }
theorem Tryd.bits_Len64 (x : Int) (w : World) (h0 : 0 ≤ x) (h1 : x ≤ 18446744073709551615) :
    Calls Tryd.prog 69 #[.int .u64 x] w fun e w' => e = .returned (.int .i64 (Lib.bitLen x.toNat)) ∧ w' = w := Any.bits_Len64 Tryd.lays129 x w h0 h1
def Tryd.lays317_ren : Go.Shelf.Ren := ⟨fun | 317 => 68 | n => n, fun | 3 => 3 | 46 => 99 | n => n, fun | n => n⟩
theorem Tryd.lays317 : Go.Proofs.Lays.n317 Tryd.prog Tryd.lays317_ren := {
  mixed := by kernel_rfl
  f317 := Tryd.func68.trans (congrArg some (by kernel_rfl))
  t3 := Tryd.underlying3
  a3 := Tryd.isAgg3
  z3 := Tryd.sizeOf3
  v3 := Tryd.zeroValue3
  t46 := Tryd.underlying99
  a46 := Tryd.isAgg99
  z46 := Tryd.sizeOf99
  v46 := Tryd.zeroValue99 }
open Go.Lib in
theorem Tryd.internal_strconv_log10Pow2 (x : Nat) (h : x ≤ 64) (w : World) :
    Calls Tryd.prog 68 #[.int .i64 x] w fun e w' => e = .returned (.int .i64 (Lib.l10 x)) ∧ w' = w := Any.internal_strconv_log10Pow2 Tryd.lays317 x h w
def Tryd.lays318_ren : Go.Shelf.Ren := ⟨fun | 318 => 70 | n => n, fun | 3 => 3 | 4 => 4 | n => n, fun | n => n⟩
theorem Tryd.lays318 : Go.Proofs.Lays.n318 Tryd.prog Tryd.lays318_ren := {
  mixed := by kernel_rfl
  f318 := Tryd.func70.trans (congrArg some (by kernel_rfl))
  t3 := Tryd.underlying3
  a3 := Tryd.isAgg3
  z3 := Tryd.sizeOf3
  v3 := Tryd.zeroValue3
  t4 := Tryd.underlying4
  a4 := Tryd.isAgg4
  z4 := Tryd.sizeOf4
  v4 := Tryd.zeroValue4 }
open Go.Lib in
theorem Tryd.internal_strconv_bool2_int (b : Bool) (w : World) :
    Calls Tryd.prog 70 #[.bool b] w fun e w' => e = .returned (.int .i64 (if b then 1 else 0)) ∧ w' = w := Any.internal_strconv_bool2_int Tryd.lays318 b w
def Tryd.lays283_ren : Go.Shelf.Ren := ⟨fun | 283 => 64 | n => n, fun | 3 => 3 | 9 => 9 | 4 => 4 | n => n, fun | n => n⟩
theorem Tryd.lays283 : Go.Proofs.Lays.n283 Tryd.prog Tryd.lays283_ren := {
  mixed := by kernel_rfl
  f283 := Tryd.func64.trans (congrArg some (by kernel_rfl))
  t3 := Tryd.underlying3
  a3 := Tryd.isAgg3
  z3 := Tryd.sizeOf3
  v3 := Tryd.zeroValue3
  t4 := Tryd.underlying4
  a4 := Tryd.isAgg4
  z4 := Tryd.sizeOf4
  v4 := Tryd.zeroValue4
  t9 := Tryd.underlying9
  a9 := Tryd.isAgg9
  z9 := Tryd.sizeOf9
  v9 := Tryd.zeroValue9 }
open Go.Lib in
theorem Tryd.internal_strconv_small (i : Nat) (h : i < 100) (w : World) :
    Calls Tryd.prog 64 #[.int .i64 i] w fun e w' => e = .returned (.string ⟨(Lib.decDigits i).toArray⟩) ∧ w' = w := Any.internal_strconv_small Tryd.lays283 i h w
def Tryd.laysM284_ren : Go.Shelf.Ren := ⟨fun | 284 => 65 | 129 => 69 | 317 => 68 | 318 => 70 | n => n, fun | 53 => 88 | 3 => 3 | 212 => 95 | 0 => 0 | 4 => 4 | 46 => 99 | 5 => 5 | 9 => 9 | n => n, fun | 17 => 0 | n => n⟩
theorem Tryd.laysM284 : Go.Proofs.LaysM.n284 Tryd.prog Tryd.laysM284_ren := {
  mixed := by kernel_rfl
  f129 := Tryd.func69.trans (congrArg some (by kernel_rfl))
  f284 := Tryd.func65.trans (congrArg some (by kernel_rfl))
  f317 := Tryd.func68.trans (congrArg some (by kernel_rfl))
  f318 := Tryd.func70.trans (congrArg some (by kernel_rfl))
  t0 := Tryd.underlying0
  a0 := Tryd.isAgg0
  z0 := Tryd.sizeOf0
  v0 := Tryd.zeroValue0
  t3 := Tryd.underlying3
  a3 := Tryd.isAgg3
  z3 := Tryd.sizeOf3
  v3 := Tryd.zeroValue3
  t4 := Tryd.underlying4
  a4 := Tryd.isAgg4
  z4 := Tryd.sizeOf4
  v4 := Tryd.zeroValue4
  t5 := Tryd.underlying5
  a5 := Tryd.isAgg5
  z5 := Tryd.sizeOf5
  v5 := Tryd.zeroValue5
  t9 := Tryd.underlying9
  a9 := Tryd.isAgg9
  z9 := Tryd.sizeOf9
  v9 := Tryd.zeroValue9
  t46 := Tryd.underlying99
  a46 := Tryd.isAgg99
  z46 := Tryd.sizeOf99
  v46 := Tryd.zeroValue99
  t53 := Tryd.underlying88
  a53 := Tryd.isAgg88
  z53 := Tryd.sizeOf88
  v53 := Tryd.zeroValue88
  t212 := Tryd.underlying95
  a212 := Tryd.isAgg95
  z212 := Tryd.sizeOf95
  v212 := Tryd.zeroValue95
  g17 := by kernel_rfl
  i0 := by kernel_rfl
  i3 := by kernel_rfl
  i4 := by kernel_rfl
  i5 := by kernel_rfl
  i9 := by kernel_rfl
  i46 := by kernel_rfl
  i53 := by kernel_rfl
  i212 := by kernel_rfl
  m17 := by kernel_rfl }
open Go.Lib in
/-- internal/strconv.numDigits, at a d that is not 0: THE NUMBER OF d's DECIMAL DIGITS. The world is as it was. (LAID: no walk: one application.) -/
theorem Tryd.internal_strconv_numDigits (u : Nat) (h1 : 1 ≤ u) (h2 : u < 18446744073709551616) (w : World) (htab : Lib.TabIs Tryd.prog w "internal/strconv.uint64pow10" .u64 Lib.pow10Tab) :
    Calls Tryd.prog 65 #[.int .u64 u] w fun e w' => e = .returned (.int .i64 (Lib.nDigits u)) ∧ w' = w := Any.internal_strconv_numDigits Tryd.laysM284 u h1 h2 w htab
def Tryd.lays285_ren : Go.Shelf.Ren := ⟨fun | 285 => 66 | n => n, fun | 37 => 91 | 53 => 88 | 3 => 3 | 4 => 4 | 51 => 96 | 9 => 9 | 5 => 5 | 0 => 0 | n => n, fun | n => n⟩
theorem Tryd.lays285 : Go.Proofs.Lays.n285 Tryd.prog Tryd.lays285_ren := {
  mixed := by kernel_rfl
  f285 := Tryd.func66.trans (congrArg some (by kernel_rfl))
  t0 := Tryd.underlying0
  a0 := Tryd.isAgg0
  z0 := Tryd.sizeOf0
  v0 := Tryd.zeroValue0
  t3 := Tryd.underlying3
  a3 := Tryd.isAgg3
  z3 := Tryd.sizeOf3
  v3 := Tryd.zeroValue3
  t4 := Tryd.underlying4
  a4 := Tryd.isAgg4
  z4 := Tryd.sizeOf4
  v4 := Tryd.zeroValue4
  t5 := Tryd.underlying5
  a5 := Tryd.isAgg5
  z5 := Tryd.sizeOf5
  v5 := Tryd.zeroValue5
  t9 := Tryd.underlying9
  a9 := Tryd.isAgg9
  z9 := Tryd.sizeOf9
  v9 := Tryd.zeroValue9
  t37 := Tryd.underlying91
  a37 := Tryd.isAgg91
  z37 := Tryd.sizeOf91
  v37 := Tryd.zeroValue91
  t51 := Tryd.underlying96
  a51 := Tryd.isAgg96
  z51 := Tryd.sizeOf96
  v51 := Tryd.zeroValue96
  t53 := Tryd.underlying88
  a53 := Tryd.isAgg88
  z53 := Tryd.sizeOf88
  v53 := Tryd.zeroValue88 }
open Go.RowKit Go.Sort Go.Lib in
theorem Tryd.internal_strconv_formatBase10 (blk off cap : Nat) (u : Nat) (d : Array UInt8) (w : World) (hH : Holds (fun (b : UInt8) => Value.int .u8 (b.toNat : Int)) w blk off d) (hu : u < 10 ^ d.size) (hu64 : u < 18446744073709551616) (hsz : d.size < 4611686018427387904) :
    Calls Tryd.prog 66 #[.slice (some ⟨blk, off, none⟩) d.size cap, .int .u64 u] w fun e w' =>
      e = .returned (.tuple #[]) ∧ ∃ (n v' : Nat) (dk : Array UInt8), w' = (putRow (fun (b : UInt8) => Value.int .u8 (b.toNat : Int)) w blk off dk).drewN n ∧ FmtInv d.size u 0 v' dk := Any.internal_strconv_formatBase10 Tryd.lays285 blk off cap u d w hH hu hu64 hsz
def Tryd.laysM246_ren : Go.Shelf.Ren := ⟨fun | 246 => 63 | 283 => 64 | 284 => 65 | 285 => 66 | 286 => 67 | 129 => 69 | 317 => 68 | 318 => 70 | 319 => 71 | 320 => 72 | 337 => 73 | 338 => 74 | n => n, fun | 2 => 2 | 3 => 3 | 9 => 9 | 4 => 4 | 171 => 87 | 0 => 0 | 53 => 88 | 37 => 91 | 5 => 5 | 173 => 92 | 212 => 95 | 51 => 96 | 20 => 20 | 213 => 97 | 46 => 99 | 232 => 102 | 233 => 103 | n => n, fun | 17 => 0 | 18 => 1 | 19 => 2 | n => n⟩
theorem Tryd.laysM246 : Go.Proofs.LaysM.n246 Tryd.prog Tryd.laysM246_ren := {
  mixed := by kernel_rfl
  f129 := Tryd.func69.trans (congrArg some (by kernel_rfl))
  f246 := Tryd.func63.trans (congrArg some (by kernel_rfl))
  f283 := Tryd.func64.trans (congrArg some (by kernel_rfl))
  f284 := Tryd.func65.trans (congrArg some (by kernel_rfl))
  f285 := Tryd.func66.trans (congrArg some (by kernel_rfl))
  f286 := Tryd.func67.trans (congrArg some (by kernel_rfl))
  f317 := Tryd.func68.trans (congrArg some (by kernel_rfl))
  f318 := Tryd.func70.trans (congrArg some (by kernel_rfl))
  f319 := Tryd.func71.trans (congrArg some (by kernel_rfl))
  f320 := Tryd.func72.trans (congrArg some (by kernel_rfl))
  f337 := Tryd.func73.trans (congrArg some (by kernel_rfl))
  f338 := Tryd.func74.trans (congrArg some (by kernel_rfl))
  t0 := Tryd.underlying0
  a0 := Tryd.isAgg0
  z0 := Tryd.sizeOf0
  v0 := Tryd.zeroValue0
  t2 := Tryd.underlying2
  a2 := Tryd.isAgg2
  z2 := Tryd.sizeOf2
  v2 := Tryd.zeroValue2
  t3 := Tryd.underlying3
  a3 := Tryd.isAgg3
  z3 := Tryd.sizeOf3
  v3 := Tryd.zeroValue3
  t4 := Tryd.underlying4
  a4 := Tryd.isAgg4
  z4 := Tryd.sizeOf4
  v4 := Tryd.zeroValue4
  t5 := Tryd.underlying5
  a5 := Tryd.isAgg5
  z5 := Tryd.sizeOf5
  v5 := Tryd.zeroValue5
  t9 := Tryd.underlying9
  a9 := Tryd.isAgg9
  z9 := Tryd.sizeOf9
  v9 := Tryd.zeroValue9
  t20 := Tryd.underlying20
  a20 := Tryd.isAgg20
  z20 := Tryd.sizeOf20
  v20 := Tryd.zeroValue20
  t37 := Tryd.underlying91
  a37 := Tryd.isAgg91
  z37 := Tryd.sizeOf91
  v37 := Tryd.zeroValue91
  t46 := Tryd.underlying99
  a46 := Tryd.isAgg99
  z46 := Tryd.sizeOf99
  v46 := Tryd.zeroValue99
  t51 := Tryd.underlying96
  a51 := Tryd.isAgg96
  z51 := Tryd.sizeOf96
  v51 := Tryd.zeroValue96
  t53 := Tryd.underlying88
  a53 := Tryd.isAgg88
  z53 := Tryd.sizeOf88
  v53 := Tryd.zeroValue88
  t171 := Tryd.underlying87
  a171 := Tryd.isAgg87
  z171 := Tryd.sizeOf87
  v171 := Tryd.zeroValue87
  t173 := Tryd.underlying92
  a173 := Tryd.isAgg92
  z173 := Tryd.sizeOf92
  v173 := Tryd.zeroValue92
  t212 := Tryd.underlying95
  a212 := Tryd.isAgg95
  z212 := Tryd.sizeOf95
  v212 := Tryd.zeroValue95
  t213 := Tryd.underlying97
  a213 := Tryd.isAgg97
  z213 := Tryd.sizeOf97
  t232 := Tryd.underlying102
  a232 := Tryd.isAgg102
  z232 := Tryd.sizeOf102
  v232 := Tryd.zeroValue102
  t233 := Tryd.underlying103
  a233 := Tryd.isAgg103
  z233 := Tryd.sizeOf103
  v233 := Tryd.zeroValue103
  g17 := by kernel_rfl
  g18 := by kernel_rfl
  g19 := by kernel_rfl
  i0 := by kernel_rfl
  i2 := by kernel_rfl
  i3 := by kernel_rfl
  i4 := by kernel_rfl
  i5 := by kernel_rfl
  i9 := by kernel_rfl
  i20 := by kernel_rfl
  i37 := by kernel_rfl
  i46 := by kernel_rfl
  i51 := by kernel_rfl
  i53 := by kernel_rfl
  i171 := by kernel_rfl
  i173 := by kernel_rfl
  i212 := by kernel_rfl
  i232 := by kernel_rfl
  i233 := by kernel_rfl
  m17 := by kernel_rfl
  m18 := by kernel_rfl
  m19 := by kernel_rfl }
open Go.RowKit Go.Sort Go.Lib in
theorem Tryd.internal_strconv_FormatInt_10 (n : Int) (h0 : -9223372036854775808 ≤ n) (h1 : n ≤ 9223372036854775807) (w : World) (htab : Lib.TabIs Tryd.prog w "internal/strconv.uint64pow10" .u64 Lib.pow10Tab) :
    Calls Tryd.prog 63 #[.int .i64 n, .int .i64 10] w fun e w' => e = .returned (.string ⟨(Lib.itoa n).toArray⟩) ∧ ∃ k os, w' = grow (w.drewN k) os := Any.internal_strconv_FormatInt_10 Tryd.laysM246 n h0 h1 w htab
def Tryd.lays246_ren : Go.Shelf.Ren := ⟨fun | 246 => 63 | 283 => 64 | 284 => 65 | 285 => 66 | 286 => 67 | 129 => 69 | 317 => 68 | 318 => 70 | 319 => 71 | 320 => 72 | 337 => 73 | 338 => 74 | n => n, fun | 2 => 2 | 3 => 3 | 9 => 9 | 4 => 4 | 171 => 87 | 0 => 0 | 53 => 88 | 37 => 91 | 5 => 5 | 173 => 92 | 212 => 95 | 51 => 96 | 20 => 20 | 213 => 97 | 46 => 99 | 232 => 102 | 233 => 103 | n => n, fun | 17 => 0 | 18 => 1 | 19 => 2 | n => n⟩
theorem Tryd.lays246 : Go.Proofs.Lays.n246 Tryd.prog Tryd.lays246_ren := {
  mixed := by kernel_rfl
  f129 := Tryd.func69.trans (congrArg some (by kernel_rfl))
  f246 := Tryd.func63.trans (congrArg some (by kernel_rfl))
  f283 := Tryd.func64.trans (congrArg some (by kernel_rfl))
  f284 := Tryd.func65.trans (congrArg some (by kernel_rfl))
  f285 := Tryd.func66.trans (congrArg some (by kernel_rfl))
  f286 := Tryd.func67.trans (congrArg some (by kernel_rfl))
  f317 := Tryd.func68.trans (congrArg some (by kernel_rfl))
  f318 := Tryd.func70.trans (congrArg some (by kernel_rfl))
  f319 := Tryd.func71.trans (congrArg some (by kernel_rfl))
  f320 := Tryd.func72.trans (congrArg some (by kernel_rfl))
  f337 := Tryd.func73.trans (congrArg some (by kernel_rfl))
  f338 := Tryd.func74.trans (congrArg some (by kernel_rfl))
  t0 := Tryd.underlying0
  a0 := Tryd.isAgg0
  z0 := Tryd.sizeOf0
  v0 := Tryd.zeroValue0
  t2 := Tryd.underlying2
  a2 := Tryd.isAgg2
  z2 := Tryd.sizeOf2
  v2 := Tryd.zeroValue2
  t3 := Tryd.underlying3
  a3 := Tryd.isAgg3
  z3 := Tryd.sizeOf3
  v3 := Tryd.zeroValue3
  t4 := Tryd.underlying4
  a4 := Tryd.isAgg4
  z4 := Tryd.sizeOf4
  v4 := Tryd.zeroValue4
  t5 := Tryd.underlying5
  a5 := Tryd.isAgg5
  z5 := Tryd.sizeOf5
  v5 := Tryd.zeroValue5
  t9 := Tryd.underlying9
  a9 := Tryd.isAgg9
  z9 := Tryd.sizeOf9
  v9 := Tryd.zeroValue9
  t20 := Tryd.underlying20
  a20 := Tryd.isAgg20
  z20 := Tryd.sizeOf20
  v20 := Tryd.zeroValue20
  t37 := Tryd.underlying91
  a37 := Tryd.isAgg91
  z37 := Tryd.sizeOf91
  v37 := Tryd.zeroValue91
  t46 := Tryd.underlying99
  a46 := Tryd.isAgg99
  z46 := Tryd.sizeOf99
  v46 := Tryd.zeroValue99
  t51 := Tryd.underlying96
  a51 := Tryd.isAgg96
  z51 := Tryd.sizeOf96
  v51 := Tryd.zeroValue96
  t53 := Tryd.underlying88
  a53 := Tryd.isAgg88
  z53 := Tryd.sizeOf88
  v53 := Tryd.zeroValue88
  t171 := Tryd.underlying87
  a171 := Tryd.isAgg87
  z171 := Tryd.sizeOf87
  v171 := Tryd.zeroValue87
  t173 := Tryd.underlying92
  a173 := Tryd.isAgg92
  z173 := Tryd.sizeOf92
  v173 := Tryd.zeroValue92
  t212 := Tryd.underlying95
  a212 := Tryd.isAgg95
  z212 := Tryd.sizeOf95
  v212 := Tryd.zeroValue95
  t213 := Tryd.underlying97
  a213 := Tryd.isAgg97
  z213 := Tryd.sizeOf97
  t232 := Tryd.underlying102
  a232 := Tryd.isAgg102
  z232 := Tryd.sizeOf102
  v232 := Tryd.zeroValue102
  t233 := Tryd.underlying103
  a233 := Tryd.isAgg103
  z233 := Tryd.sizeOf103
  v233 := Tryd.zeroValue103
  g17 := by kernel_rfl
  g18 := by kernel_rfl
  g19 := by kernel_rfl }
open Go.RowKit Go.Sort Go.Lib in
/-- THE ROAD WITHOUT THE TABLE: 0 <= i < 100: two constants are read, nothing is laid: no premise on the world, and the world is as it was. (LAID: no walk: one application.) -/
theorem Tryd.internal_strconv_FormatInt_10_small (i : Nat) (hi : i < 100) (w : World) :
    Calls Tryd.prog 63 #[.int .i64 i, .int .i64 10] w fun e w' => e = .returned (.string ⟨(Lib.decDigits i).toArray⟩) ∧ w' = w := Any.internal_strconv_FormatInt_10_small Tryd.lays246 i hi w
def Tryd.laysM243_ren : Go.Shelf.Ren := ⟨fun | 243 => 62 | 246 => 63 | 283 => 64 | 284 => 65 | 285 => 66 | 286 => 67 | 129 => 69 | 317 => 68 | 318 => 70 | 319 => 71 | 320 => 72 | 337 => 73 | 338 => 74 | n => n, fun | 3 => 3 | 9 => 9 | 2 => 2 | 4 => 4 | 171 => 87 | 0 => 0 | 53 => 88 | 37 => 91 | 5 => 5 | 173 => 92 | 212 => 95 | 51 => 96 | 20 => 20 | 213 => 97 | 46 => 99 | 232 => 102 | 233 => 103 | n => n, fun | 17 => 0 | 18 => 1 | 19 => 2 | n => n⟩
theorem Tryd.laysM243 : Go.Proofs.LaysM.n243 Tryd.prog Tryd.laysM243_ren := {
  mixed := by kernel_rfl
  f129 := Tryd.func69.trans (congrArg some (by kernel_rfl))
  f243 := Tryd.func62.trans (congrArg some (by kernel_rfl))
  f246 := Tryd.func63.trans (congrArg some (by kernel_rfl))
  f283 := Tryd.func64.trans (congrArg some (by kernel_rfl))
  f284 := Tryd.func65.trans (congrArg some (by kernel_rfl))
  f285 := Tryd.func66.trans (congrArg some (by kernel_rfl))
  f286 := Tryd.func67.trans (congrArg some (by kernel_rfl))
  f317 := Tryd.func68.trans (congrArg some (by kernel_rfl))
  f318 := Tryd.func70.trans (congrArg some (by kernel_rfl))
  f319 := Tryd.func71.trans (congrArg some (by kernel_rfl))
  f320 := Tryd.func72.trans (congrArg some (by kernel_rfl))
  f337 := Tryd.func73.trans (congrArg some (by kernel_rfl))
  f338 := Tryd.func74.trans (congrArg some (by kernel_rfl))
  t0 := Tryd.underlying0
  a0 := Tryd.isAgg0
  z0 := Tryd.sizeOf0
  v0 := Tryd.zeroValue0
  t2 := Tryd.underlying2
  a2 := Tryd.isAgg2
  z2 := Tryd.sizeOf2
  v2 := Tryd.zeroValue2
  t3 := Tryd.underlying3
  a3 := Tryd.isAgg3
  z3 := Tryd.sizeOf3
  v3 := Tryd.zeroValue3
  t4 := Tryd.underlying4
  a4 := Tryd.isAgg4
  z4 := Tryd.sizeOf4
  v4 := Tryd.zeroValue4
  t5 := Tryd.underlying5
  a5 := Tryd.isAgg5
  z5 := Tryd.sizeOf5
  v5 := Tryd.zeroValue5
  t9 := Tryd.underlying9
  a9 := Tryd.isAgg9
  z9 := Tryd.sizeOf9
  v9 := Tryd.zeroValue9
  t20 := Tryd.underlying20
  a20 := Tryd.isAgg20
  z20 := Tryd.sizeOf20
  v20 := Tryd.zeroValue20
  t37 := Tryd.underlying91
  a37 := Tryd.isAgg91
  z37 := Tryd.sizeOf91
  v37 := Tryd.zeroValue91
  t46 := Tryd.underlying99
  a46 := Tryd.isAgg99
  z46 := Tryd.sizeOf99
  v46 := Tryd.zeroValue99
  t51 := Tryd.underlying96
  a51 := Tryd.isAgg96
  z51 := Tryd.sizeOf96
  v51 := Tryd.zeroValue96
  t53 := Tryd.underlying88
  a53 := Tryd.isAgg88
  z53 := Tryd.sizeOf88
  v53 := Tryd.zeroValue88
  t171 := Tryd.underlying87
  a171 := Tryd.isAgg87
  z171 := Tryd.sizeOf87
  v171 := Tryd.zeroValue87
  t173 := Tryd.underlying92
  a173 := Tryd.isAgg92
  z173 := Tryd.sizeOf92
  v173 := Tryd.zeroValue92
  t212 := Tryd.underlying95
  a212 := Tryd.isAgg95
  z212 := Tryd.sizeOf95
  v212 := Tryd.zeroValue95
  t213 := Tryd.underlying97
  a213 := Tryd.isAgg97
  z213 := Tryd.sizeOf97
  t232 := Tryd.underlying102
  a232 := Tryd.isAgg102
  z232 := Tryd.sizeOf102
  v232 := Tryd.zeroValue102
  t233 := Tryd.underlying103
  a233 := Tryd.isAgg103
  z233 := Tryd.sizeOf103
  v233 := Tryd.zeroValue103
  g17 := by kernel_rfl
  g18 := by kernel_rfl
  g19 := by kernel_rfl
  i0 := by kernel_rfl
  i2 := by kernel_rfl
  i3 := by kernel_rfl
  i4 := by kernel_rfl
  i5 := by kernel_rfl
  i9 := by kernel_rfl
  i20 := by kernel_rfl
  i37 := by kernel_rfl
  i46 := by kernel_rfl
  i51 := by kernel_rfl
  i53 := by kernel_rfl
  i171 := by kernel_rfl
  i173 := by kernel_rfl
  i212 := by kernel_rfl
  i232 := by kernel_rfl
  i233 := by kernel_rfl
  m17 := by kernel_rfl
  m18 := by kernel_rfl
  m19 := by kernel_rfl }
open Go.RowKit Go.Sort Go.Lib in
theorem Tryd.internal_strconv_Itoa (n : Int) (h0 : -9223372036854775808 ≤ n) (h1 : n ≤ 9223372036854775807) (w : World) (htab : Lib.TabIs Tryd.prog w "internal/strconv.uint64pow10" .u64 Lib.pow10Tab) :
    Calls Tryd.prog 62 #[.int .i64 n] w fun e w' => e = .returned (.string ⟨(Lib.itoa n).toArray⟩) ∧ ∃ k os, w' = grow (w.drewN k) os := Any.internal_strconv_Itoa Tryd.laysM243 n h0 h1 w htab
def Tryd.lays243_ren : Go.Shelf.Ren := ⟨fun | 243 => 62 | 246 => 63 | 283 => 64 | 284 => 65 | 285 => 66 | 286 => 67 | 129 => 69 | 317 => 68 | 318 => 70 | 319 => 71 | 320 => 72 | 337 => 73 | 338 => 74 | n => n, fun | 3 => 3 | 9 => 9 | 2 => 2 | 4 => 4 | 171 => 87 | 0 => 0 | 53 => 88 | 37 => 91 | 5 => 5 | 173 => 92 | 212 => 95 | 51 => 96 | 20 => 20 | 213 => 97 | 46 => 99 | 232 => 102 | 233 => 103 | n => n, fun | 17 => 0 | 18 => 1 | 19 => 2 | n => n⟩
theorem Tryd.lays243 : Go.Proofs.Lays.n243 Tryd.prog Tryd.lays243_ren := {
  mixed := by kernel_rfl
  f129 := Tryd.func69.trans (congrArg some (by kernel_rfl))
  f243 := Tryd.func62.trans (congrArg some (by kernel_rfl))
  f246 := Tryd.func63.trans (congrArg some (by kernel_rfl))
  f283 := Tryd.func64.trans (congrArg some (by kernel_rfl))
  f284 := Tryd.func65.trans (congrArg some (by kernel_rfl))
  f285 := Tryd.func66.trans (congrArg some (by kernel_rfl))
  f286 := Tryd.func67.trans (congrArg some (by kernel_rfl))
  f317 := Tryd.func68.trans (congrArg some (by kernel_rfl))
  f318 := Tryd.func70.trans (congrArg some (by kernel_rfl))
  f319 := Tryd.func71.trans (congrArg some (by kernel_rfl))
  f320 := Tryd.func72.trans (congrArg some (by kernel_rfl))
  f337 := Tryd.func73.trans (congrArg some (by kernel_rfl))
  f338 := Tryd.func74.trans (congrArg some (by kernel_rfl))
  t0 := Tryd.underlying0
  a0 := Tryd.isAgg0
  z0 := Tryd.sizeOf0
  v0 := Tryd.zeroValue0
  t2 := Tryd.underlying2
  a2 := Tryd.isAgg2
  z2 := Tryd.sizeOf2
  v2 := Tryd.zeroValue2
  t3 := Tryd.underlying3
  a3 := Tryd.isAgg3
  z3 := Tryd.sizeOf3
  v3 := Tryd.zeroValue3
  t4 := Tryd.underlying4
  a4 := Tryd.isAgg4
  z4 := Tryd.sizeOf4
  v4 := Tryd.zeroValue4
  t5 := Tryd.underlying5
  a5 := Tryd.isAgg5
  z5 := Tryd.sizeOf5
  v5 := Tryd.zeroValue5
  t9 := Tryd.underlying9
  a9 := Tryd.isAgg9
  z9 := Tryd.sizeOf9
  v9 := Tryd.zeroValue9
  t20 := Tryd.underlying20
  a20 := Tryd.isAgg20
  z20 := Tryd.sizeOf20
  v20 := Tryd.zeroValue20
  t37 := Tryd.underlying91
  a37 := Tryd.isAgg91
  z37 := Tryd.sizeOf91
  v37 := Tryd.zeroValue91
  t46 := Tryd.underlying99
  a46 := Tryd.isAgg99
  z46 := Tryd.sizeOf99
  v46 := Tryd.zeroValue99
  t51 := Tryd.underlying96
  a51 := Tryd.isAgg96
  z51 := Tryd.sizeOf96
  v51 := Tryd.zeroValue96
  t53 := Tryd.underlying88
  a53 := Tryd.isAgg88
  z53 := Tryd.sizeOf88
  v53 := Tryd.zeroValue88
  t171 := Tryd.underlying87
  a171 := Tryd.isAgg87
  z171 := Tryd.sizeOf87
  v171 := Tryd.zeroValue87
  t173 := Tryd.underlying92
  a173 := Tryd.isAgg92
  z173 := Tryd.sizeOf92
  v173 := Tryd.zeroValue92
  t212 := Tryd.underlying95
  a212 := Tryd.isAgg95
  z212 := Tryd.sizeOf95
  v212 := Tryd.zeroValue95
  t213 := Tryd.underlying97
  a213 := Tryd.isAgg97
  z213 := Tryd.sizeOf97
  t232 := Tryd.underlying102
  a232 := Tryd.isAgg102
  z232 := Tryd.sizeOf102
  v232 := Tryd.zeroValue102
  t233 := Tryd.underlying103
  a233 := Tryd.isAgg103
  z233 := Tryd.sizeOf103
  v233 := Tryd.zeroValue103
  g17 := by kernel_rfl
  g18 := by kernel_rfl
  g19 := by kernel_rfl }
open Go.RowKit Go.Sort Go.Lib in
/-- THE ROAD WITHOUT THE TABLE: 0 <= i < 100. (LAID: no walk: one application.) -/
theorem Tryd.internal_strconv_Itoa_small (i : Nat) (hi : i < 100) (w : World) :
    Calls Tryd.prog 62 #[.int .i64 i] w fun e w' => e = .returned (.string ⟨(Lib.decDigits i).toArray⟩) ∧ w' = w := Any.internal_strconv_Itoa_small Tryd.lays243 i hi w
def Tryd.laysM171_ren : Go.Shelf.Ren := ⟨fun | 171 => 59 | 243 => 62 | 246 => 63 | 283 => 64 | 284 => 65 | 285 => 66 | 286 => 67 | 129 => 69 | 317 => 68 | 318 => 70 | 319 => 71 | 320 => 72 | 337 => 73 | 338 => 74 | n => n, fun | 3 => 3 | 9 => 9 | 2 => 2 | 4 => 4 | 171 => 87 | 0 => 0 | 53 => 88 | 37 => 91 | 5 => 5 | 173 => 92 | 212 => 95 | 51 => 96 | 20 => 20 | 213 => 97 | 46 => 99 | 232 => 102 | 233 => 103 | n => n, fun | 17 => 0 | 18 => 1 | 19 => 2 | n => n⟩
theorem Tryd.laysM171 : Go.Proofs.LaysM.n171 Tryd.prog Tryd.laysM171_ren := {
  mixed := by kernel_rfl
  f129 := Tryd.func69.trans (congrArg some (by kernel_rfl))
  f171 := Tryd.func59.trans (congrArg some (by kernel_rfl))
  f243 := Tryd.func62.trans (congrArg some (by kernel_rfl))
  f246 := Tryd.func63.trans (congrArg some (by kernel_rfl))
  f283 := Tryd.func64.trans (congrArg some (by kernel_rfl))
  f284 := Tryd.func65.trans (congrArg some (by kernel_rfl))
  f285 := Tryd.func66.trans (congrArg some (by kernel_rfl))
  f286 := Tryd.func67.trans (congrArg some (by kernel_rfl))
  f317 := Tryd.func68.trans (congrArg some (by kernel_rfl))
  f318 := Tryd.func70.trans (congrArg some (by kernel_rfl))
  f319 := Tryd.func71.trans (congrArg some (by kernel_rfl))
  f320 := Tryd.func72.trans (congrArg some (by kernel_rfl))
  f337 := Tryd.func73.trans (congrArg some (by kernel_rfl))
  f338 := Tryd.func74.trans (congrArg some (by kernel_rfl))
  t0 := Tryd.underlying0
  a0 := Tryd.isAgg0
  z0 := Tryd.sizeOf0
  v0 := Tryd.zeroValue0
  t2 := Tryd.underlying2
  a2 := Tryd.isAgg2
  z2 := Tryd.sizeOf2
  v2 := Tryd.zeroValue2
  t3 := Tryd.underlying3
  a3 := Tryd.isAgg3
  z3 := Tryd.sizeOf3
  v3 := Tryd.zeroValue3
  t4 := Tryd.underlying4
  a4 := Tryd.isAgg4
  z4 := Tryd.sizeOf4
  v4 := Tryd.zeroValue4
  t5 := Tryd.underlying5
  a5 := Tryd.isAgg5
  z5 := Tryd.sizeOf5
  v5 := Tryd.zeroValue5
  t9 := Tryd.underlying9
  a9 := Tryd.isAgg9
  z9 := Tryd.sizeOf9
  v9 := Tryd.zeroValue9
  t20 := Tryd.underlying20
  a20 := Tryd.isAgg20
  z20 := Tryd.sizeOf20
  v20 := Tryd.zeroValue20
  t37 := Tryd.underlying91
  a37 := Tryd.isAgg91
  z37 := Tryd.sizeOf91
  v37 := Tryd.zeroValue91
  t46 := Tryd.underlying99
  a46 := Tryd.isAgg99
  z46 := Tryd.sizeOf99
  v46 := Tryd.zeroValue99
  t51 := Tryd.underlying96
  a51 := Tryd.isAgg96
  z51 := Tryd.sizeOf96
  v51 := Tryd.zeroValue96
  t53 := Tryd.underlying88
  a53 := Tryd.isAgg88
  z53 := Tryd.sizeOf88
  v53 := Tryd.zeroValue88
  t171 := Tryd.underlying87
  a171 := Tryd.isAgg87
  z171 := Tryd.sizeOf87
  v171 := Tryd.zeroValue87
  t173 := Tryd.underlying92
  a173 := Tryd.isAgg92
  z173 := Tryd.sizeOf92
  v173 := Tryd.zeroValue92
  t212 := Tryd.underlying95
  a212 := Tryd.isAgg95
  z212 := Tryd.sizeOf95
  v212 := Tryd.zeroValue95
  t213 := Tryd.underlying97
  a213 := Tryd.isAgg97
  z213 := Tryd.sizeOf97
  t232 := Tryd.underlying102
  a232 := Tryd.isAgg102
  z232 := Tryd.sizeOf102
  v232 := Tryd.zeroValue102
  t233 := Tryd.underlying103
  a233 := Tryd.isAgg103
  z233 := Tryd.sizeOf103
  v233 := Tryd.zeroValue103
  g17 := by kernel_rfl
  g18 := by kernel_rfl
  g19 := by kernel_rfl
  i0 := by kernel_rfl
  i2 := by kernel_rfl
  i3 := by kernel_rfl
  i4 := by kernel_rfl
  i5 := by kernel_rfl
  i9 := by kernel_rfl
  i20 := by kernel_rfl
  i37 := by kernel_rfl
  i46 := by kernel_rfl
  i51 := by kernel_rfl
  i53 := by kernel_rfl
  i171 := by kernel_rfl
  i173 := by kernel_rfl
  i212 := by kernel_rfl
  i232 := by kernel_rfl
  i233 := by kernel_rfl
  m17 := by kernel_rfl
  m18 := by kernel_rfl
  m19 := by kernel_rfl }
open Go.RowKit Go.Sort Go.Lib in
theorem Tryd.strconv_Itoa (n : Int) (h0 : -9223372036854775808 ≤ n) (h1 : n ≤ 9223372036854775807) (w : World) (htab : Lib.TabIs Tryd.prog w "internal/strconv.uint64pow10" .u64 Lib.pow10Tab) :
    Calls Tryd.prog 59 #[.int .i64 n] w fun e w' => e = .returned (.string ⟨(Lib.itoa n).toArray⟩) ∧ ∃ k os, w' = grow (w.drewN k) os := Any.strconv_Itoa Tryd.laysM171 n h0 h1 w htab
def Tryd.lays171_ren : Go.Shelf.Ren := ⟨fun | 171 => 59 | 243 => 62 | 246 => 63 | 283 => 64 | 284 => 65 | 285 => 66 | 286 => 67 | 129 => 69 | 317 => 68 | 318 => 70 | 319 => 71 | 320 => 72 | 337 => 73 | 338 => 74 | n => n, fun | 3 => 3 | 9 => 9 | 2 => 2 | 4 => 4 | 171 => 87 | 0 => 0 | 53 => 88 | 37 => 91 | 5 => 5 | 173 => 92 | 212 => 95 | 51 => 96 | 20 => 20 | 213 => 97 | 46 => 99 | 232 => 102 | 233 => 103 | n => n, fun | 17 => 0 | 18 => 1 | 19 => 2 | n => n⟩
theorem Tryd.lays171 : Go.Proofs.Lays.n171 Tryd.prog Tryd.lays171_ren := {
  mixed := by kernel_rfl
  f129 := Tryd.func69.trans (congrArg some (by kernel_rfl))
  f171 := Tryd.func59.trans (congrArg some (by kernel_rfl))
  f243 := Tryd.func62.trans (congrArg some (by kernel_rfl))
  f246 := Tryd.func63.trans (congrArg some (by kernel_rfl))
  f283 := Tryd.func64.trans (congrArg some (by kernel_rfl))
  f284 := Tryd.func65.trans (congrArg some (by kernel_rfl))
  f285 := Tryd.func66.trans (congrArg some (by kernel_rfl))
  f286 := Tryd.func67.trans (congrArg some (by kernel_rfl))
  f317 := Tryd.func68.trans (congrArg some (by kernel_rfl))
  f318 := Tryd.func70.trans (congrArg some (by kernel_rfl))
  f319 := Tryd.func71.trans (congrArg some (by kernel_rfl))
  f320 := Tryd.func72.trans (congrArg some (by kernel_rfl))
  f337 := Tryd.func73.trans (congrArg some (by kernel_rfl))
  f338 := Tryd.func74.trans (congrArg some (by kernel_rfl))
  t0 := Tryd.underlying0
  a0 := Tryd.isAgg0
  z0 := Tryd.sizeOf0
  v0 := Tryd.zeroValue0
  t2 := Tryd.underlying2
  a2 := Tryd.isAgg2
  z2 := Tryd.sizeOf2
  v2 := Tryd.zeroValue2
  t3 := Tryd.underlying3
  a3 := Tryd.isAgg3
  z3 := Tryd.sizeOf3
  v3 := Tryd.zeroValue3
  t4 := Tryd.underlying4
  a4 := Tryd.isAgg4
  z4 := Tryd.sizeOf4
  v4 := Tryd.zeroValue4
  t5 := Tryd.underlying5
  a5 := Tryd.isAgg5
  z5 := Tryd.sizeOf5
  v5 := Tryd.zeroValue5
  t9 := Tryd.underlying9
  a9 := Tryd.isAgg9
  z9 := Tryd.sizeOf9
  v9 := Tryd.zeroValue9
  t20 := Tryd.underlying20
  a20 := Tryd.isAgg20
  z20 := Tryd.sizeOf20
  v20 := Tryd.zeroValue20
  t37 := Tryd.underlying91
  a37 := Tryd.isAgg91
  z37 := Tryd.sizeOf91
  v37 := Tryd.zeroValue91
  t46 := Tryd.underlying99
  a46 := Tryd.isAgg99
  z46 := Tryd.sizeOf99
  v46 := Tryd.zeroValue99
  t51 := Tryd.underlying96
  a51 := Tryd.isAgg96
  z51 := Tryd.sizeOf96
  v51 := Tryd.zeroValue96
  t53 := Tryd.underlying88
  a53 := Tryd.isAgg88
  z53 := Tryd.sizeOf88
  v53 := Tryd.zeroValue88
  t171 := Tryd.underlying87
  a171 := Tryd.isAgg87
  z171 := Tryd.sizeOf87
  v171 := Tryd.zeroValue87
  t173 := Tryd.underlying92
  a173 := Tryd.isAgg92
  z173 := Tryd.sizeOf92
  v173 := Tryd.zeroValue92
  t212 := Tryd.underlying95
  a212 := Tryd.isAgg95
  z212 := Tryd.sizeOf95
  v212 := Tryd.zeroValue95
  t213 := Tryd.underlying97
  a213 := Tryd.isAgg97
  z213 := Tryd.sizeOf97
  t232 := Tryd.underlying102
  a232 := Tryd.isAgg102
  z232 := Tryd.sizeOf102
  v232 := Tryd.zeroValue102
  t233 := Tryd.underlying103
  a233 := Tryd.isAgg103
  z233 := Tryd.sizeOf103
  v233 := Tryd.zeroValue103
  g17 := by kernel_rfl
  g18 := by kernel_rfl
  g19 := by kernel_rfl }
open Go.RowKit Go.Sort Go.Lib in
/-- THE ROAD WITHOUT THE TABLE: 0 <= i < 100: NO PREMISE ON THE WORLD, AND THE WORLD IS AS IT WAS: a row that keeps its argument in that range need list no table ('laid = []'). (LAID: no walk: one application.) -/
theorem Tryd.strconv_Itoa_small (i : Nat) (hi : i < 100) (w : World) :
    Calls Tryd.prog 59 #[.int .i64 i] w fun e w' => e = .returned (.string ⟨(Lib.decDigits i).toArray⟩) ∧ w' = w := Any.strconv_Itoa_small Tryd.lays171 i hi w
def Tryd.laysNm216_ren : Go.Shelf.Ren := ⟨fun | 16 => 22 | n => n, fun | 24 => 22 | 9 => 9 | 4 => 4 | n => n, fun | n => n⟩
theorem Tryd.laysNm216 : Go.Proofs.Lays2.n16 Tryd.prog Tryd.laysNm216_ren := {
  mixed := by kernel_rfl
  f16 := Tryd.func22.trans (congrArg some (by kernel_rfl))
  t4 := Tryd.underlying4
  a4 := Tryd.isAgg4
  z4 := Tryd.sizeOf4
  v4 := Tryd.zeroValue4
  t9 := Tryd.underlying9
  a9 := Tryd.isAgg9
  z9 := Tryd.sizeOf9
  v9 := Tryd.zeroValue9
  t24 := Tryd.underlying22
  a24 := Tryd.isAgg22
  z24 := Tryd.sizeOf22
  v24 := Tryd.zeroValue22
  i9 := by kernel_rfl }
open Go.RowKit Go.Lib in
theorem Tryd.slices_Clone_string (b off n c : Nat) (zs : List ByteArray) (w : World) (hz : n ≤ zs.length) (hbig : n * 16 ≤ 140737488355328) (hc : ∀ j, j < zs.length → w.cell? ⟨b, off + j, none⟩ = some (.string (zs.getD j ByteArray.empty))) :
    Calls Tryd.prog 22 #[.slice (some ⟨b, off, none⟩) n c] w fun e w' => ∃ v', e = .returned v' ∧ w'.ownsRow w.heap.size 9 1 v' n ((zs.take n).map (Value.string)) ∧ v' ≠ .slice none 0 0 ∧ Below w.heap.size w w' := Any.slices_Clone_string Tryd.laysNm216 b off n c zs w hz hbig hc
open Go.RowKit Go.Lib in
/-- The same at nil: nil comes back; the world is as it was. (LAID: no walk: one application.) -/
theorem Tryd.slices_Clone_string_nil (n c : Nat) (w : World) :
    Calls Tryd.prog 22 #[.slice none n c] w fun e w' => e = .returned (.slice none 0 0) ∧ w' = w := Any.slices_Clone_string_nil Tryd.laysNm216 n c w
open Go.RowKit Go.Lib in
/-- The same at a slice of length 0 that is not nil, WHATEVER ITS ADDRESS (no cell is asked for): a slice that is not nil and owns nothing comes back. (LAID: no walk: one application.) -/
theorem Tryd.slices_Clone_string_zero (a : Addr) (c : Nat) (w : World) :
    Calls Tryd.prog 22 #[.slice (some a) 0 c] w fun e w' => ∃ v', e = .returned v' ∧ w'.ownsRow w.heap.size 9 1 v' 0 [] ∧ v' ≠ .slice none 0 0 ∧ Below w.heap.size w w' := Any.slices_Clone_string_zero Tryd.laysNm216 a c w
def Tryd.laysSlE041_f22_ren : Go.Shelf.Ren := ⟨fun | 41 => 22 | n => n, fun | 22 => 22 | 23 => 9 | 4 => 4 | n => n, fun | n => n⟩
theorem Tryd.laysSlE041_f22 : Go.Proofs.SlLaysE0.n41 Tryd.prog Tryd.laysSlE041_f22_ren := {
  mixed := by kernel_rfl
  f41 := ⟨Tryd.f22.name, by decide, Tryd.func22.trans (congrArg some (by kernel_rfl))⟩
  t4 := Tryd.underlying4
  a4 := Tryd.isAgg4
  z4 := Tryd.sizeOf4
  v4 := Tryd.zeroValue4
  t22 := Tryd.underlying22
  a22 := Tryd.isAgg22
  z22 := Tryd.sizeOf22
  v22 := Tryd.zeroValue22 }
open Go.RowKit Go.Lib in
theorem Tryd.slices_Clone (i0 : TypeInfo) (z : Value) (size bytes : Nat) (hi : Tryd.prog.info? 9 = some i0) (hz0 : i0.zero = some z) (hz1 : i0.size = size) (hz2 : i0.bytes = bytes) (hzs : z.cells.size = size) (hsz : 0 < size) (z23 : ∀ w, (Go.sizeOf 9).run Tryd.prog w = .ok size w) (b off n c : Nat) (news : List Value) (w : World) (hl : news.length = n * size) (hn : n ≤ maxLen) (hbig : n * bytes ≤ 140737488355328) (hc : ∀ j u, news[j]? = some u → w.cell? ⟨b, off + j, none⟩ = some u) (h1 : ∀ u ∈ news, u.oneCell' = true) :
    Calls Tryd.prog 22 #[.slice (some ⟨b, off, none⟩) n c] w fun e w' => ∃ v', e = .returned v' ∧ w'.ownsRow w.heap.size 9 size v' n news ∧ v' ≠ .slice none 0 0 ∧ Below w.heap.size w w' := AnyE.slices_Clone Tryd.laysSlE041_f22 i0 z size bytes hi hz0 hz1 hz2 hzs hsz z23 b off n c news w hl hn hbig hc h1
open Go.RowKit Go.Lib in
/-- The same at nil: nil comes back; the world is as it was; nothing is asked of the element's type. (LAID AT THE INSTANCE 'slices.Clone[[]string,string]': no walk: one application.) -/
theorem Tryd.slices_Clone_nil (n c : Nat) (w : World) :
    Calls Tryd.prog 22 #[.slice none n c] w fun e w' => e = .returned (.slice none 0 0) ∧ w' = w := AnyE.slices_Clone_nil Tryd.laysSlE041_f22 n c w
end Go.Proofs

namespace Go.Ab
open Go.Proofs

/-- What the first variable holds. -/
def GlobOk (G0 : Nat → Option Obj) : Prop := ∀ w : World, (∀ b, b < nG → w.heap[b]? = G0 b) → Lib.TabIs Tryd.prog w "internal/strconv.uint64pow10" .u64 Lib.pow10Tab

theorem good_lib {P : Program} {nG : Nat} {G0 : Nat → Option Obj} {f : FuncId} {args : List AV} {vals : List Value} {r : AV} {v : Value} (hb : hasB P f = true)
    (hargs : ∀ (K : KM) (S : Stb) (w : World) (us : List Value), VRs K S w args us → us = vals) (hr : ∀ (K : KM) (S : Stb) (w : World), VR K S w r v)
    (h : ∀ w : World, (∀ b, b < nG → w.heap[b]? = G0 b) → Calls P f vals.toArray w fun e w' => e = .returned v ∧ ∃ k os, w' = Sort.grow (w.drewN k) os) : Good P nG G0 f args [] r [] := by
  have hb' := hb
  unfold hasB at hb'
  split at hb'
  · rename_i fn hf
    simp only [Bool.and_eq_true, Bool.not_eq_true'] at hb'
    refine ⟨⟨fn, hf, hb'.1, hb'.2⟩, fun w K S us hrel hus => ?_⟩
    rw [hargs K S w us hus]
    refine (h w hrel.fix).mono fun e w' ⟨he, k, os, hw⟩ => ?_
    have hheap : w'.heap = w.heap ++ os := by rw [hw]; rfl
    have hsz : w.heap.size ≤ w'.heap.size := by rw [hheap]; simp
    obtain ⟨g1, g2⟩ := hrel.ext (n0 := 0) (S' := fun _ _ => False) (w' := w') (by rw [hw]; rfl) (by rw [hw]; rfl) (by rw [hw]; rfl) hsz (fun b hb => by rw [hheap, Array.getElem?_append_left hb]) (fun b off hs => hs.elim)
    exact ⟨v, K, _, he, g1, hr _ _ _, g2⟩
  · cases hb'

theorem good_itoa {G0 : Nat → Option Obj} (hG : GlobOk G0) (n : Int) (h0 : -9223372036854775808 ≤ n) (h1 : n ≤ 9223372036854775807) : Good PG nG G0 f_strconv_Itoa [.int .i64 n] [] (.str (Lib.itoa n)) [] := by
  refine good_lib (vals := [.int .i64 n]) (v := .string ⟨(Lib.itoa n).toArray⟩) (by kernel_rfl) (fun K S w us hus => ?_) (fun K S w => (PR.str _).vr) fun w hw => Tryd.strconv_Itoa n h0 h1 w (hG w hw)
  obtain ⟨hl, hv⟩ := hus
  match us, hl with
  | [u], _ =>
    have := VR_int (hv 0 _ u rfl rfl)
    rw [this]
end Go.Ab

namespace Go.Ab
open Go.Proofs
set_option maxRecDepth 100000

def an_tree_Root : FAnn := ⟨[], [], none, []⟩
def an_tree_Half : FAnn := ⟨[], [(0, [0, 4], [])], none, []⟩
def an_seal_None : FAnn := ⟨[], [], none, []⟩
def an_seal_Leaf : FAnn := ⟨[], [], none, []⟩
def an_seal_Node : FAnn := ⟨[], [], none, []⟩
def an_greatsealref_HalfOf : FAnn := ⟨[], [(0, [0, 3], [])], none, []⟩
def an_greatsealref_LeafOf : FAnn := ⟨[], [], none, []⟩
def an_greatsealref_NodeOf : FAnn := ⟨[], [], none, []⟩
def an_slices_Equal_string : FAnn := ⟨[], [(0, [0, 1, 12, 13], [])], none, []⟩
def an_greatseallaw_at : FAnn := ⟨[], [], none, []⟩
def an_greatseallaw_planted : FAnn := ⟨[], [], none, []⟩
def an_greatsealref_RootOf : FAnn := ⟨[(7, 3, ⟨[0, 1], [], []⟩)], [], none, []⟩
def an_greatsealref_RootOf_c1 : FAnn := ⟨[(4, 3, ⟨[0, 1], [], []⟩), (7, 3, ⟨[0, 1], [], []⟩)], [], none, []⟩
def an_slices_Clone_string : FAnn := ⟨[], [], some [2], []⟩
def an_greatsealref_in : FAnn := ⟨[], [], none, []⟩

theorem tree_Root_run (nll0 : Bool) (l0 : List (List AV)) (G0 : Nat → Option Go.Obj) (R : AV → List (Option Blk) → Prop) (h :
  ifK (decide ((↑(List.length l0) : Int) > (24 : Int))) (R (AV.tup [AV.str [], AV.int Go.IntKind.i64 (2 : Int)]) [])
  (ifK ((↑(List.length l0) : Int) == (0 : Int)) (∃ s0, Good PG nG G0 f_seal_None [] [] (AV.str s0) [] ∧ R (AV.tup [AV.str s0, AV.int Go.IntKind.i64 (0 : Int)]) [])
    (ifK ((↑(List.length l0) : Int) == (1 : Int))
      ((0 : Int) ≤ (0 : Int) ∧ ∃ s1, l0[(0 : Nat)]? = some [AV.str s1] ∧ ∃ s2 n3, Good PG nG G0 f_seal_Leaf [AV.str s1] [] (AV.tup [AV.str s2, AV.int Go.IntKind.i64 n3]) [] ∧ R (AV.tup [AV.str s2, AV.int Go.IntKind.i64 n3]) [])
      (∃ n4 n5,
        Good PG nG G0 f_tree_Half [AV.int Go.IntKind.i64 (↑(List.length l0) : Int)] [] (AV.tup [AV.int Go.IntKind.i64 n4, AV.int Go.IntKind.i64 n5]) [] ∧
          ifK (n5 != (0 : Int)) (R (AV.tup [AV.str [], AV.int Go.IntKind.i64 n5]) [])
            ((0 : Int) ≤ (0 : Int) ∧
              (0 : Int) ≤ n4 ∧
                n4 ≤ (↑(List.length l0) : Int) ∧
                  ∃ s6 n7,
                    Good PG nG G0 f_tree_Root [AV.sl (1 : Nat) nll0 none (List.drop (0 : Nat) (List.take (Int.toNat n4) l0))] [] (AV.tup [AV.str s6, AV.int Go.IntKind.i64 n7]) [] ∧
                      ifK (n7 != (0 : Int)) (R (AV.tup [AV.str [], AV.int Go.IntKind.i64 n7]) [])
                        ((0 : Int) ≤ n4 ∧
                          n4 ≤ (↑(List.length l0) : Int) ∧
                            (↑(List.length l0) : Int) ≤ (↑(List.length l0) : Int) ∧
                              ∃ s8 n9,
                                Good PG nG G0 f_tree_Root [AV.sl (1 : Nat) nll0 none (List.drop (Int.toNat n4) (List.take (Int.toNat (↑(List.length l0) : Int)) l0))] [] (AV.tup [AV.str s8, AV.int Go.IntKind.i64 n9]) [] ∧
                                  ifK (n9 != (0 : Int)) (R (AV.tup [AV.str [], AV.int Go.IntKind.i64 n9]) [])
                                    (∃ s10 n11, Good PG nG G0 f_seal_Node [AV.str s6, AV.str s8] [] (AV.tup [AV.str s10, AV.int Go.IntKind.i64 n11]) [] ∧ R (AV.tup [AV.str s10, AV.int Go.IntKind.i64 n11]) []))))))) :
  Hold (runF PG ty nG G0 an_tree_Root f_tree_Root [AV.sl (1 : Nat) nll0 none l0] [] R) := kshow h (by kernel_rfl)

theorem tree_Half_run (n0 : Int) (G0 : Nat → Option Go.Obj) (R : AV → List (Option Blk) → Prop) (h :
  ifK (decide (n0 < (2 : Int))) (R (AV.tup [AV.int Go.IntKind.i64 (0 : Int), AV.int Go.IntKind.i64 (3 : Int)]) [])
  (ifK (decide (n0 > (24 : Int))) (R (AV.tup [AV.int Go.IntKind.i64 (0 : Int), AV.int Go.IntKind.i64 (3 : Int)]) [])
    (Does PG nG G0 (fnOf PG f_tree_Half) (0 : Nat) (lp PG f_tree_Half (0 : Nat)) (mkT (18 : Nat) [((0 : Nat), AV.int Go.IntKind.i64 n0), ((4 : Nat), AV.int Go.IntKind.i64 (1 : Int))]) [] R))) :
  Hold (runF PG ty nG G0 an_tree_Half f_tree_Half [AV.int Go.IntKind.i64 n0] [] R) := kshow h (by kernel_rfl)

theorem tree_Half_l0_run (G0 : Nat → Option Obj) (n0 : Int) (n1 : Int) (R : AV → List (Option Blk) → Prop) (h :
  ifK (decide (Go.IntKind.wrap Go.IntKind.i64 ((2 : Int) * n1) < n0))
  (Does PG nG G0 (fnOf PG f_tree_Half) (0 : Nat) (lp PG f_tree_Half (0 : Nat)) (mkT (18 : Nat) [((0 : Nat), AV.int Go.IntKind.i64 n0), ((4 : Nat), AV.int Go.IntKind.i64 (Go.IntKind.wrap Go.IntKind.i64 (n1 * (2 : Int))))]) [] R)
  (R (AV.tup [AV.int Go.IntKind.i64 n1, AV.int Go.IntKind.i64 (0 : Int)]) [])) :
  Hold (runL PG ty nG G0 an_tree_Half f_tree_Half (0 : Nat) (0 : Nat) (mkT (18 : Nat) [((0 : Nat), AV.int Go.IntKind.i64 n0), ((4 : Nat), AV.int Go.IntKind.i64 n1)]) [] R) := kshow h (by kernel_rfl)

theorem seal_None_run (G0 : Nat → Option Go.Obj) (R : AV → List (Option Blk) → Prop) (h :
  R (AV.str [(69 : UInt8)]) []) :
  Hold (runF PG ty nG G0 an_seal_None f_seal_None [] [] R) := kshow h (by kernel_rfl)

theorem seal_Leaf_run (s0 : List UInt8) (G0 : Nat → Option Go.Obj) (R : AV → List (Option Blk) → Prop) (h :
  ifK (decide ((↑(List.length s0) : Int) > (20000 : Int))) (R (AV.tup [AV.str [], AV.int Go.IntKind.i64 (2 : Int)]) [])
  ((1 : Nat) + List.length s0 ≤ (9223372036854775807 : Nat) ∧ R (AV.tup [AV.str ([(76 : UInt8)] ++ s0), AV.int Go.IntKind.i64 (0 : Int)]) [])) :
  Hold (runF PG ty nG G0 an_seal_Leaf f_seal_Leaf [AV.str s0] [] R) := kshow h (by kernel_rfl)

theorem seal_Node_run (a0 : List UInt8) (b1 : List UInt8) (G0 : Nat → Option Go.Obj) (R : AV → List (Option Blk) → Prop) (h :
  ifK (decide ((↑(List.length a0) : Int) > (20000 : Int))) (R (AV.tup [AV.str [], AV.int Go.IntKind.i64 (2 : Int)]) [])
  (ifK (decide ((↑(List.length b1) : Int) > Go.IntKind.wrap Go.IntKind.i64 ((20000 : Int) - (↑(List.length a0) : Int)))) (R (AV.tup [AV.str [], AV.int Go.IntKind.i64 (2 : Int)]) [])
    (∃ s0,
      Good PG nG G0 f_strconv_Itoa [AV.int Go.IntKind.i64 (↑(List.length a0) : Int)] [] (AV.str s0) [] ∧
        (1 : Nat) + List.length s0 ≤ (9223372036854775807 : Nat) ∧
          List.length ([(78 : UInt8)] ++ s0) + (1 : Nat) ≤ (9223372036854775807 : Nat) ∧
            List.length ([(78 : UInt8)] ++ s0 ++ [(58 : UInt8)]) + List.length a0 ≤ (9223372036854775807 : Nat) ∧
              List.length ([(78 : UInt8)] ++ s0 ++ [(58 : UInt8)] ++ a0) + List.length b1 ≤ (9223372036854775807 : Nat) ∧ R (AV.tup [AV.str ([(78 : UInt8)] ++ s0 ++ [(58 : UInt8)] ++ a0 ++ b1), AV.int Go.IntKind.i64 (0 : Int)]) []))) :
  Hold (runF PG ty nG G0 an_seal_Node f_seal_Node [AV.str a0, AV.str b1] [] R) := kshow h (by kernel_rfl)

theorem greatsealref_HalfOf_run (n0 : Int) (G0 : Nat → Option Go.Obj) (R : AV → List (Option Blk) → Prop) (h :
  Does PG nG G0 (fnOf PG f_greatsealref_HalfOf) (0 : Nat) (lp PG f_greatsealref_HalfOf (0 : Nat)) (mkT (10 : Nat) [((0 : Nat), AV.int Go.IntKind.i64 n0), ((3 : Nat), AV.int Go.IntKind.i64 (16 : Int))]) [] R) :
  Hold (runF PG ty nG G0 an_greatsealref_HalfOf f_greatsealref_HalfOf [AV.int Go.IntKind.i64 n0] [] R) := kshow h (by kernel_rfl)

theorem greatsealref_HalfOf_l0_run (G0 : Nat → Option Obj) (n0 : Int) (n1 : Int) (R : AV → List (Option Blk) → Prop) (h :
  ifK (decide (n1 < n0)) (R (AV.int Go.IntKind.i64 n1) [])
  ((2 : Int) ≠ (0 : Int) ∧
    Does PG nG G0 (fnOf PG f_greatsealref_HalfOf) (0 : Nat) (lp PG f_greatsealref_HalfOf (0 : Nat)) (mkT (10 : Nat) [((0 : Nat), AV.int Go.IntKind.i64 n0), ((3 : Nat), AV.int Go.IntKind.i64 (Go.IntKind.wrap Go.IntKind.i64 (Int.tdiv n1 (2 : Int))))]) [] R)) :
  Hold (runL PG ty nG G0 an_greatsealref_HalfOf f_greatsealref_HalfOf (0 : Nat) (0 : Nat) (mkT (10 : Nat) [((0 : Nat), AV.int Go.IntKind.i64 n0), ((3 : Nat), AV.int Go.IntKind.i64 n1)]) [] R) := kshow h (by kernel_rfl)

theorem greatsealref_LeafOf_run (s0 : List UInt8) (G0 : Nat → Option Go.Obj) (R : AV → List (Option Blk) → Prop) (h :
  ifK (decide ((↑(List.length s0) : Int) > (20000 : Int))) (R (AV.tup [AV.str [], AV.int Go.IntKind.i64 (2 : Int)]) [])
  ((1 : Nat) + List.length s0 ≤ (9223372036854775807 : Nat) ∧ R (AV.tup [AV.str ([(76 : UInt8)] ++ s0), AV.int Go.IntKind.i64 (0 : Int)]) [])) :
  Hold (runF PG ty nG G0 an_greatsealref_LeafOf f_greatsealref_LeafOf [AV.str s0] [] R) := kshow h (by kernel_rfl)

theorem greatsealref_NodeOf_run (a0 : List UInt8) (b1 : List UInt8) (G0 : Nat → Option Go.Obj) (R : AV → List (Option Blk) → Prop) (h :
  ifK (decide (Go.IntKind.wrap Go.IntKind.i64 ((↑(List.length a0) : Int) + (↑(List.length b1) : Int)) > (20000 : Int))) (R (AV.tup [AV.str [], AV.int Go.IntKind.i64 (2 : Int)]) [])
  (∃ s0,
    Good PG nG G0 f_strconv_Itoa [AV.int Go.IntKind.i64 (↑(List.length a0) : Int)] [] (AV.str s0) [] ∧
      (1 : Nat) + List.length s0 ≤ (9223372036854775807 : Nat) ∧
        List.length ([(78 : UInt8)] ++ s0) + (1 : Nat) ≤ (9223372036854775807 : Nat) ∧
          List.length ([(78 : UInt8)] ++ s0 ++ [(58 : UInt8)]) + List.length a0 ≤ (9223372036854775807 : Nat) ∧
            List.length ([(78 : UInt8)] ++ s0 ++ [(58 : UInt8)] ++ a0) + List.length b1 ≤ (9223372036854775807 : Nat) ∧ R (AV.tup [AV.str ([(78 : UInt8)] ++ s0 ++ [(58 : UInt8)] ++ a0 ++ b1), AV.int Go.IntKind.i64 (0 : Int)]) [])) :
  Hold (runF PG ty nG G0 an_greatsealref_NodeOf f_greatsealref_NodeOf [AV.str a0, AV.str b1] [] R) := kshow h (by kernel_rfl)

theorem slices_Equal_string_run (nls10 : Bool) (s10 : List (List AV)) (nls21 : Bool) (s21 : List (List AV)) (G0 : Nat → Option Go.Obj) (R : AV → List (Option Blk) → Prop) (h :
  ifK ((↑(List.length s10) : Int) != (↑(List.length s21) : Int)) (R (AV.bool false) [])
  (Does PG nG G0 (fnOf PG f_slices_Equal_string) (0 : Nat) (lp PG f_slices_Equal_string (0 : Nat))
    (mkT (26 : Nat) [((0 : Nat), AV.sl (1 : Nat) nls10 none s10), ((1 : Nat), AV.sl (1 : Nat) nls21 none s21), ((12 : Nat), AV.int Go.IntKind.i64 (↑(List.length s10) : Int)), ((13 : Nat), AV.int Go.IntKind.i64 (0 : Int))]) [] R)) :
  Hold (runF PG ty nG G0 an_slices_Equal_string f_slices_Equal_string [AV.sl (1 : Nat) nls10 none s10, AV.sl (1 : Nat) nls21 none s21] [] R) := kshow h (by kernel_rfl)

theorem slices_Equal_string_l0_run (G0 : Nat → Option Obj) (b0 : Bool) (xs1 : List (List AV)) (b2 : Bool) (xs3 : List (List AV)) (n4 : Int) (n5 : Int) (R : AV → List (Option Blk) → Prop) (h :
  ifK (decide (n5 < n4))
  ((0 : Int) ≤ n5 ∧
    ∃ s6,
      xs1[Int.toNat n5]? = some [AV.str s6] ∧
        (0 : Int) ≤ n5 ∧
          ∃ s7,
            xs3[Int.toNat n5]? = some [AV.str s7] ∧
              ifK (!s6 == s7) (R (AV.bool false) [])
                (Does PG nG G0 (fnOf PG f_slices_Equal_string) (0 : Nat) (lp PG f_slices_Equal_string (0 : Nat))
                  (mkT (26 : Nat)
                    [((0 : Nat), AV.sl (1 : Nat) b0 none xs1), ((1 : Nat), AV.sl (1 : Nat) b2 none xs3), ((12 : Nat), AV.int Go.IntKind.i64 n4), ((13 : Nat), AV.int Go.IntKind.i64 (Go.IntKind.wrap Go.IntKind.i64 (n5 + (1 : Int))))])
                  [] R))
  (R (AV.bool true) [])) :
  Hold (runL PG ty nG G0 an_slices_Equal_string f_slices_Equal_string (0 : Nat) (0 : Nat)
  (mkT (26 : Nat) [((0 : Nat), AV.sl (1 : Nat) b0 none xs1), ((1 : Nat), AV.sl (1 : Nat) b2 none xs3), ((12 : Nat), AV.int Go.IntKind.i64 n4), ((13 : Nat), AV.int Go.IntKind.i64 n5)]) [] R) := kshow h (by kernel_rfl)

theorem greatseallaw_at_run (k0 : Int) (n1 : Int) (G0 : Nat → Option Go.Obj) (R : AV → List (Option Blk) → Prop) (h :
  n1 ≠ (0 : Int) ∧ ifK (decide (Int.tmod k0 n1 < (0 : Int))) (R (AV.int Go.IntKind.i64 (Go.IntKind.wrap Go.IntKind.i64 (Int.tmod k0 n1 + n1))) []) (R (AV.int Go.IntKind.i64 (Int.tmod k0 n1)) [])) :
  Hold (runF PG ty nG G0 an_greatseallaw_at f_greatseallaw_at [AV.int Go.IntKind.i64 k0, AV.int Go.IntKind.i64 n1] [] R) := kshow h (by kernel_rfl)

theorem greatseallaw_planted_run (G0 : Nat → Option Go.Obj) (R : AV → List (Option Blk) → Prop) (h :
  ∃ s0 n1,
  Good PG nG G0 f_tree_Root [AV.sl (1 : Nat) false none [[AV.str [(97 : UInt8)]], [AV.str [(98 : UInt8)]], [AV.str [(99 : UInt8)]]]] [] (AV.tup [AV.str s0, AV.int Go.IntKind.i64 n1]) [] ∧
    ∃ n2 n3,
      Good PG nG G0 f_tree_Half [AV.int Go.IntKind.i64 (5 : Int)] [] (AV.tup [AV.int Go.IntKind.i64 n2, AV.int Go.IntKind.i64 n3]) [] ∧
        ∃ n4 n5,
          Good PG nG G0 f_tree_Half [AV.int Go.IntKind.i64 (1 : Int)] [] (AV.tup [AV.int Go.IntKind.i64 n4, AV.int Go.IntKind.i64 n5]) [] ∧
            ∃ s6 n7,
              Good PG nG G0 f_tree_Root [AV.sl (1 : Nat) true none []] [] (AV.tup [AV.str s6, AV.int Go.IntKind.i64 n7]) [] ∧
                ifK (n1 == (0 : Int))
                  (ifK (n3 == (0 : Int))
                    (ifK (n5 == (3 : Int))
                      (ifK (n7 == (0 : Int))
                        (ifK (n2 == (4 : Int))
                          (ifK (s0 == [(78 : UInt8), (55 : UInt8), (58 : UInt8), (78 : UInt8), (50 : UInt8), (58 : UInt8), (76 : UInt8), (97 : UInt8), (76 : UInt8), (98 : UInt8), (76 : UInt8), (99 : UInt8)])
                            (R (AV.bool (s6 == [(69 : UInt8)])) []) (R (AV.bool false) []))
                          (R (AV.bool false) []))
                        (R (AV.bool false) []))
                      (R (AV.bool false) []))
                    (R (AV.bool false) []))
                  (R (AV.bool false) [])) :
  Hold (runF PG ty nG G0 an_greatseallaw_planted f_greatseallaw_planted [] [] R) := kshow h (by kernel_rfl)

theorem greatsealref_RootOf_run (nll0 : Bool) (l0 : List (List AV)) (G0 : Nat → Option Go.Obj) (R : AV → List (Option Blk) → Prop) (h :
  ifK (decide ((↑(List.length l0) : Int) > (24 : Int))) (R (AV.tup [AV.str [], AV.int Go.IntKind.i64 (2 : Int)]) [])
  (ifK ((↑(List.length l0) : Int) == (0 : Int)) (R (AV.tup [AV.str [(69 : UInt8)], AV.int Go.IntKind.i64 (0 : Int)]) [])
    (∃ s0 n1 b2 xs3,
      Good PG nG G0 f_greatsealref_RootOf_c1 [AV.int Go.IntKind.i64 (0 : Int), AV.int Go.IntKind.i64 (↑(List.length l0) : Int), AV.ref (0 : Nat) (0 : Nat), AV.ref (1 : Nat) (0 : Nat)]
          [some (Blk.var [AV.sl (1 : Nat) nll0 none l0]), some (Blk.var [AV.func f_greatsealref_RootOf_c1 [AV.ref (0 : Nat) (0 : Nat), AV.ref (1 : Nat) (0 : Nat)]])] (AV.tup [AV.str s0, AV.int Go.IntKind.i64 n1])
          [some (Blk.var [AV.sl (1 : Nat) b2 none xs3]), some (Blk.var [AV.func f_greatsealref_RootOf_c1 [AV.ref (0 : Nat) (0 : Nat), AV.ref (1 : Nat) (0 : Nat)]])] ∧
        R (AV.tup [AV.str s0, AV.int Go.IntKind.i64 n1]) []))) :
  Hold (runF PG ty nG G0 an_greatsealref_RootOf f_greatsealref_RootOf [AV.sl (1 : Nat) nll0 none l0] [] R) := kshow h (by kernel_rfl)

theorem greatsealref_RootOf_c1_run (f : Int) (t : Int) (nl : Bool) (xs : List (List AV)) (G0 : Nat → Option Go.Obj) (R : AV → List (Option Blk) → Prop) (h :
  ifK (Go.IntKind.wrap Go.IntKind.i64 (t - f) == (1 : Int))
  ((0 : Int) ≤ f ∧
    ∃ s0,
      xs[Int.toNat f]? = some [AV.str s0] ∧
        ∃ s1 n2,
          Good PG nG G0 f_greatsealref_LeafOf [AV.str s0] [] (AV.tup [AV.str s1, AV.int Go.IntKind.i64 n2]) [] ∧
            R (AV.tup [AV.str s1, AV.int Go.IntKind.i64 n2]) [some (Blk.var [AV.sl (1 : Nat) nl none xs]), some (Blk.var [AV.func f_greatsealref_RootOf_c1 [AV.ref (0 : Nat) (0 : Nat), AV.ref (1 : Nat) (0 : Nat)]])])
  (∃ n3,
    Good PG nG G0 f_greatsealref_HalfOf [AV.int Go.IntKind.i64 (Go.IntKind.wrap Go.IntKind.i64 (t - f))] [] (AV.int Go.IntKind.i64 n3) [] ∧
      ∃ s4 n5 b6 xs7,
        Good PG nG G0 f_greatsealref_RootOf_c1 [AV.int Go.IntKind.i64 f, AV.int Go.IntKind.i64 (Go.IntKind.wrap Go.IntKind.i64 (f + n3)), AV.ref (0 : Nat) (0 : Nat), AV.ref (1 : Nat) (0 : Nat)]
            [some (Blk.var [AV.sl (1 : Nat) nl none xs]), some (Blk.var [AV.func f_greatsealref_RootOf_c1 [AV.ref (0 : Nat) (0 : Nat), AV.ref (1 : Nat) (0 : Nat)]])] (AV.tup [AV.str s4, AV.int Go.IntKind.i64 n5])
            [some (Blk.var [AV.sl (1 : Nat) b6 none xs7]), some (Blk.var [AV.func f_greatsealref_RootOf_c1 [AV.ref (0 : Nat) (0 : Nat), AV.ref (1 : Nat) (0 : Nat)]])] ∧
          ifK (n5 != (0 : Int)) (R (AV.tup [AV.str [], AV.int Go.IntKind.i64 n5]) [some (Blk.var [AV.sl (1 : Nat) b6 none xs7]), some (Blk.var [AV.func f_greatsealref_RootOf_c1 [AV.ref (0 : Nat) (0 : Nat), AV.ref (1 : Nat) (0 : Nat)]])])
            (∃ s8 n9 b10 xs11,
              Good PG nG G0 f_greatsealref_RootOf_c1 [AV.int Go.IntKind.i64 (Go.IntKind.wrap Go.IntKind.i64 (f + n3)), AV.int Go.IntKind.i64 t, AV.ref (0 : Nat) (0 : Nat), AV.ref (1 : Nat) (0 : Nat)]
                  [some (Blk.var [AV.sl (1 : Nat) b6 none xs7]), some (Blk.var [AV.func f_greatsealref_RootOf_c1 [AV.ref (0 : Nat) (0 : Nat), AV.ref (1 : Nat) (0 : Nat)]])] (AV.tup [AV.str s8, AV.int Go.IntKind.i64 n9])
                  [some (Blk.var [AV.sl (1 : Nat) b10 none xs11]), some (Blk.var [AV.func f_greatsealref_RootOf_c1 [AV.ref (0 : Nat) (0 : Nat), AV.ref (1 : Nat) (0 : Nat)]])] ∧
                ifK (n9 != (0 : Int)) (R (AV.tup [AV.str [], AV.int Go.IntKind.i64 n9]) [some (Blk.var [AV.sl (1 : Nat) b10 none xs11]), some (Blk.var [AV.func f_greatsealref_RootOf_c1 [AV.ref (0 : Nat) (0 : Nat), AV.ref (1 : Nat) (0 : Nat)]])])
                  (∃ s12 n13,
                    Good PG nG G0 f_greatsealref_NodeOf [AV.str s4, AV.str s8] [] (AV.tup [AV.str s12, AV.int Go.IntKind.i64 n13]) [] ∧
                      R (AV.tup [AV.str s12, AV.int Go.IntKind.i64 n13]) [some (Blk.var [AV.sl (1 : Nat) b10 none xs11]), some (Blk.var [AV.func f_greatsealref_RootOf_c1 [AV.ref (0 : Nat) (0 : Nat), AV.ref (1 : Nat) (0 : Nat)]])])))) :
  Hold (runF PG ty nG G0 an_greatsealref_RootOf_c1 f_greatsealref_RootOf_c1 [AV.int Go.IntKind.i64 f, AV.int Go.IntKind.i64 t, AV.ref (0 : Nat) (0 : Nat), AV.ref (1 : Nat) (0 : Nat)]
  [some (Blk.var [AV.sl (1 : Nat) nl none xs]), some (Blk.var [AV.func f_greatsealref_RootOf_c1 [AV.ref (0 : Nat) (0 : Nat), AV.ref (1 : Nat) (0 : Nat)]])] R) := kshow h (by kernel_rfl)

theorem slices_Clone_string_run (nls0 : Bool) (s0 : List (List AV)) (G0 : Nat → Option Go.Obj) (R : AV → List (Option Blk) → Prop) (h :
  ifK nls0 (R (AV.sl (1 : Nat) true (some (0 : Nat)) []) [some (Blk.grow (1 : Nat) (0 : Nat))])
  (((0 : Nat) + List.length s0) * (16 : Nat) ≤ (140737488355328 : Nat) ∧ (0 : Nat) = (0 : Nat) ∧ R (AV.sl (1 : Nat) (false && List.isEmpty s0) (some (0 : Nat)) ([] ++ s0)) [some (Blk.grow (1 : Nat) ((0 : Nat) + List.length s0))])) :
  Hold (runF PG ty nG G0 an_slices_Clone_string f_slices_Clone_string [AV.sl (1 : Nat) nls0 none s0] [] R) := kshow h (by kernel_rfl)

theorem greatsealref_in_run (n0 : Int) (from1 : Int) (to2 : Int) (G0 : Nat → Option Go.Obj) (R : AV → List (Option Blk) → Prop) (h :
  ifK (decide (from1 ≤ n0)) (R (AV.bool (decide (n0 ≤ to2))) []) (R (AV.bool false) [])) :
  Hold (runF PG ty nG G0 an_greatsealref_in f_greatsealref_in [AV.int Go.IntKind.i64 n0, AV.int Go.IntKind.i64 from1, AV.int Go.IntKind.i64 to2] [] R) := kshow h (by kernel_rfl)

end Go.Ab

namespace Go.Gs

abbrev By := List UInt8

def tLeaf (s : By) : By × Int := if 20000 < s.length then ([], 2) else (76 :: s, 0)
def tNode (a b : By) : By × Int := if 20000 < a.length + b.length then ([], 2) else (78 :: (Lib.itoa a.length ++ 58 :: (a ++ b)), 0)

def halfN (n : Nat) : Nat := if n ≤ 2 then 1 else if n ≤ 4 then 2 else if n ≤ 8 then 4 else if n ≤ 16 then 8 else 16

theorem halfN_spec (n : Nat) : (halfN n = 1 ∧ n ≤ 2) ∨ (halfN n = 2 ∧ 2 < n ∧ n ≤ 4) ∨ (halfN n = 4 ∧ 4 < n ∧ n ≤ 8) ∨ (halfN n = 8 ∧ 8 < n ∧ n ≤ 16) ∨ (halfN n = 16 ∧ 16 < n) := by
  unfold halfN; split; omega; split; omega; split; omega; split <;> omega

theorem halfN_pos (n : Nat) : 0 < halfN n := by unfold halfN; split; omega; split; omega; split; omega; split <;> omega
theorem halfN_lt {n : Nat} (h : 2 ≤ n) : halfN n < n := by unfold halfN; split; omega; split; omega; split; omega; split <;> omega

/-- The seal of a list of no more than 24. -/
def tRoot (l : List By) : By × Int :=
  if _h0 : l.length = 0 then ([69], 0)
  else if _h1 : l.length = 1 then tLeaf (l.headD [])
  else
    if (tRoot (l.take (halfN l.length))).2 ≠ 0 then ([], (tRoot (l.take (halfN l.length))).2)
    else if (tRoot (l.drop (halfN l.length))).2 ≠ 0 then ([], (tRoot (l.drop (halfN l.length))).2)
    else tNode (tRoot (l.take (halfN l.length))).1 (tRoot (l.drop (halfN l.length))).1
  termination_by l.length
  decreasing_by
  all_goals
    have := halfN_pos l.length
    have := halfN_lt (n := l.length) (by omega)
    simp only [List.length_take, List.length_drop]
    omega

/-- The seal of any list. -/
def rootOf (l : List By) : By × Int := if 24 < l.length then ([], 2) else tRoot l

theorem decDigits_len (u : Nat) : (Lib.decDigits u).length ≤ u + 1 := by
  induction u using Nat.strongRecOn with
  | _ u ih =>
    rw [Lib.decDigits]
    split
    · simp
    · rename_i h
      have := ih (u / 10) (by omega)
      simp only [List.length_append, List.length_cons, List.length_nil]
      omega

theorem itoa_len (n : Nat) : (Lib.itoa n).length ≤ n + 1 := by
  unfold Lib.itoa
  rw [if_neg (by omega)]
  exact decDigits_len n

theorem tNode_len (a b : By) : (tNode a b).1.length ≤ 40100 := by
  unfold tNode
  have := itoa_len a.length
  split
  · simp
  · simp only [List.length_cons, List.length_append]; omega

theorem tRoot_zero {l : List By} (h : l.length = 0) : tRoot l = ([69], 0) := by rw [tRoot, dif_pos h]
theorem tRoot_one {l : List By} (h : l.length = 1) : tRoot l = tLeaf (l.headD []) := by rw [tRoot, dif_neg (by omega), dif_pos h]
theorem tRoot_two {l : List By} (h : 2 ≤ l.length) : tRoot l =
    if (tRoot (l.take (halfN l.length))).2 ≠ 0 then ([], (tRoot (l.take (halfN l.length))).2)
    else if (tRoot (l.drop (halfN l.length))).2 ≠ 0 then ([], (tRoot (l.drop (halfN l.length))).2)
    else tNode (tRoot (l.take (halfN l.length))).1 (tRoot (l.drop (halfN l.length))).1 := by
  rw [tRoot, dif_neg (by omega), dif_neg (by omega)]

theorem tLeaf_len (s : By) : (tLeaf s).1.length ≤ 20001 := by unfold tLeaf; split <;> simp; omega

theorem tRoot_len (l : List By) : (tRoot l).1.length ≤ 40100 := by
  rcases Nat.lt_or_ge l.length 2 with h | h
  · by_cases h0 : l.length = 0
    · rw [tRoot_zero h0]; simp
    · rw [tRoot_one (by omega)]; have := tLeaf_len (l.headD []); omega
  · rw [tRoot_two h]
    split
    · simp
    · split
      · simp
      · exact tNode_len _ _

/-- A number brought within bounds. -/
def atN (k : Int) (n : Nat) : Nat := (k % (n : Int)).toNat

theorem atN_lt (k : Int) {n : Nat} (h : 0 < n) : atN k n < n := by
  unfold atN
  have := Int.emod_nonneg k (b := (n : Int)) (by omega)
  have := Int.emod_lt_of_pos k (b := (n : Int)) (by omega)
  omega

theorem atN_cast (k : Int) {n : Nat} (h : 0 < n) : ((atN k n : Nat) : Int) = k % (n : Int) := by
  unfold atN
  have := Int.emod_nonneg k (b := (n : Int)) (by omega)
  omega
end Go.Gs

namespace Go.Ab
open Go.Proofs Go.Gs

theorem wrap64 {n : Int} (h0 : -9223372036854775808 ≤ n) (h1 : n ≤ 9223372036854775807) : IntKind.i64.wrap n = n := by
  rw [IntKind.wrap_i64]; omega

theorem ifT {A B : Prop} : ifK true A B = A := rfl
theorem ifF {A B : Prop} : ifK false A B = B := rfl

variable {G0 : Nat → Option Obj}

theorem good_None : Good PG nG G0 f_seal_None [] [] (.str [69]) [] := good_of_run prOk (by kernel_rfl) (seal_None_run G0 _ ⟨rfl, rfl⟩)

theorem good_Leaf (s : By) : Good PG nG G0 f_seal_Leaf [.str s] [] (.tup [.str (tLeaf s).1, .int .i64 (tLeaf s).2]) [] := by
  refine good_of_run prOk (by kernel_rfl) (seal_Leaf_run s G0 _ ?_)
  simp only [ifK_iff, decide_eq_true_eq, decide_eq_false_iff_not]
  unfold tLeaf
  refine ⟨fun h => ?_, fun h => ⟨by omega, ?_⟩⟩
  · rw [if_pos (by omega)]; exact ⟨rfl, trivial⟩
  · rw [if_neg (by omega)]; exact ⟨rfl, trivial⟩

theorem good_LeafOf (s : By) : Good PG nG G0 f_greatsealref_LeafOf [.str s] [] (.tup [.str (tLeaf s).1, .int .i64 (tLeaf s).2]) [] := by
  refine good_of_run prOk (by kernel_rfl) (greatsealref_LeafOf_run s G0 _ ?_)
  simp only [ifK_iff, decide_eq_true_eq, decide_eq_false_iff_not]
  unfold tLeaf
  refine ⟨fun h => ?_, fun h => ⟨by omega, ?_⟩⟩
  · rw [if_pos (by omega)]; exact ⟨rfl, trivial⟩
  · rw [if_neg (by omega)]; exact ⟨rfl, trivial⟩

theorem good_Node (hG : GlobOk G0) (a b : By) : Good PG nG G0 f_seal_Node [.str a, .str b] [] (.tup [.str (tNode a b).1, .int .i64 (tNode a b).2]) [] := by
  refine good_of_run prOk (by kernel_rfl) (seal_Node_run a b G0 _ ?_)
  simp only [ifK_iff, decide_eq_true_eq, decide_eq_false_iff_not]
  unfold tNode
  refine ⟨fun h => ?_, fun h => ⟨fun h2 => ?_, fun h2 => ?_⟩⟩
  · rw [if_pos (by omega)]; exact ⟨rfl, trivial⟩
  · rw [wrap64 (by omega) (by omega)] at h2
    rw [if_pos (by omega)]; exact ⟨rfl, trivial⟩
  · rw [wrap64 (by omega) (by omega)] at h2
    have := itoa_len a.length
    refine ⟨_, good_itoa hG _ (by omega) (by omega), by omega, ?_, ?_, ?_, ?_⟩
    · simp only [List.length_append, List.length_cons, List.length_nil]; omega
    · simp only [List.length_append, List.length_cons, List.length_nil]; omega
    · simp only [List.length_append, List.length_cons, List.length_nil]; omega
    · rw [if_neg (by omega)]; simp

theorem good_NodeOf (hG : GlobOk G0) (a b : By) (ha : a.length ≤ 4611686018427387903) (hb : b.length ≤ 4611686018427387903) : Good PG nG G0 f_greatsealref_NodeOf [.str a, .str b] [] (.tup [.str (tNode a b).1, .int .i64 (tNode a b).2]) [] := by
  refine good_of_run prOk (by kernel_rfl) (greatsealref_NodeOf_run a b G0 _ ?_)
  simp only [ifK_iff, decide_eq_true_eq, decide_eq_false_iff_not]
  unfold tNode
  rw [wrap64 (by omega) (by omega)]
  refine ⟨fun h => ?_, fun h => ?_⟩
  · rw [if_pos (by omega)]; exact ⟨rfl, trivial⟩
  · have := itoa_len a.length
    refine ⟨_, good_itoa hG _ (by omega) (by omega), by omega, ?_, ?_, ?_, ?_⟩
    · simp only [List.length_append, List.length_cons, List.length_nil]; omega
    · simp only [List.length_append, List.length_cons, List.length_nil]; omega
    · simp only [List.length_append, List.length_cons, List.length_nil]; omega
    · rw [if_neg (by omega)]; simp

theorem half_loop (n : Int) (R : AV → List (Option Blk) → Prop) (hn : 2 ≤ n) (hn2 : n ≤ 24) (k : Int) (hk : k = 1 ∨ k = 2 ∨ k = 4 ∨ k = 8 ∨ k = 16) (hkn : k < n)
    (hR : R (.tup [.int .i64 (halfN n.toNat), .int .i64 0]) []) : Does PG nG G0 (fnOf PG f_tree_Half) 0 (lp PG f_tree_Half 0) (mkT 18 [(0, .int .i64 n), (4, .int .i64 k)]) [] R := by
  have key : ∀ m : Nat, ∀ k : Int, (k = 1 ∨ k = 2 ∨ k = 4 ∨ k = 8 ∨ k = 16) → k < n → (32 - k).toNat ≤ m → Does PG nG G0 (fnOf PG f_tree_Half) 0 (lp PG f_tree_Half 0) (mkT 18 [(0, .int .i64 n), (4, .int .i64 k)]) [] R := by
    intro m
    induction m with
    | zero => intro k hk _ h; omega
    | succ m ih =>
      intro k hk hkn h
      refine does_of_run prOk (tree_Half_l0_run G0 n k R ?_)
      simp only [ifK_iff, decide_eq_true_eq, decide_eq_false_iff_not]
      rw [wrap64 (by omega) (by omega), wrap64 (by omega) (by omega)]
      refine ⟨fun h2 => ih _ (by omega) (by omega) (by omega), fun h2 => ?_⟩
      have hs := halfN_spec n.toNat
      have : (halfN n.toNat : Int) = k := by omega
      rw [← this]; exact hR
  exact key _ k hk hkn (Nat.le_refl _)

theorem good_Half (n : Int) : Good PG nG G0 f_tree_Half [.int .i64 n] [] (.tup [.int .i64 (if n < 2 ∨ 24 < n then 0 else halfN n.toNat), .int .i64 (if n < 2 ∨ 24 < n then 3 else 0)]) [] := by
  refine good_of_run prOk (by kernel_rfl) (tree_Half_run n G0 _ ?_)
  simp only [ifK_iff, decide_eq_true_eq, decide_eq_false_iff_not]
  refine ⟨fun h => ?_, fun h => ⟨fun h2 => ?_, fun h2 => ?_⟩⟩
  · rw [if_pos (.inl h), if_pos (.inl h)]; exact ⟨rfl, trivial⟩
  · rw [if_pos (.inr h2), if_pos (.inr h2)]; exact ⟨rfl, trivial⟩
  · rw [if_neg (by omega), if_neg (by omega)]
    exact half_loop n _ (by omega) (by omega) 1 (.inl rfl) (by omega) ⟨rfl, rfl⟩

theorem good_Half' (n : Nat) (h : 2 ≤ n) (h2 : n ≤ 24) : Good PG nG G0 f_tree_Half [.int .i64 n] [] (.tup [.int .i64 (halfN n), .int .i64 0]) [] := by
  have := good_Half (G0 := G0) n
  rw [if_neg (by omega), if_neg (by omega)] at this
  simpa using this

theorem good_HalfOf (n : Int) (h : 2 ≤ n) : Good PG nG G0 f_greatsealref_HalfOf [.int .i64 n] [] (.int .i64 (halfN n.toNat)) [] := by
  refine good_of_run prOk (by kernel_rfl) (greatsealref_HalfOf_run n G0 _ ?_)
  have key : ∀ m : Nat, ∀ k : Int, (k = 1 ∨ k = 2 ∨ k = 4 ∨ k = 8 ∨ k = 16) → k.toNat ≤ m → (halfN n.toNat : Int) ≤ k →
      Does PG nG G0 (fnOf PG f_greatsealref_HalfOf) 0 (lp PG f_greatsealref_HalfOf 0) (mkT 10 [(0, .int .i64 n), (3, .int .i64 k)]) [] fun r' H'' => r' = .int .i64 (halfN n.toNat) ∧ H'' = [] := by
    intro m
    induction m with
    | zero => intro k hk h _; omega
    | succ m ih =>
      intro k hk hm hle
      refine does_of_run prOk (greatsealref_HalfOf_l0_run G0 n k _ ?_)
      simp only [ifK_iff, decide_eq_true_eq, decide_eq_false_iff_not]
      have hs := halfN_spec n.toNat
      have hd : Int.tdiv k 2 = k / 2 := by rw [Int.tdiv_eq_ediv_of_nonneg (by omega)]
      rw [hd, wrap64 (by omega) (by omega)]
      refine ⟨fun h2 => ⟨?_, trivial⟩, fun h2 => ⟨by omega, ih _ (by omega) (by omega) (by omega)⟩⟩
      congr 1
      omega
  have hs := halfN_spec n.toNat
  exact key 16 16 (by omega) (by omega) (by omega)
end Go.Ab

namespace Go.Ab
open Go.Proofs Go.Gs
variable {G0 : Nat → Option Obj}

theorem map_get {l : List By} {i : Nat} {s : By} (h : l[i]? = some s) : (l.map S1)[i]? = some [AV.str s] := by rw [List.getElem?_map, h]; rfl

theorem good_Root (hG : GlobOk G0) : ∀ (m : Nat) (l : List By) (nl : Bool), l.length ≤ m → Good PG nG G0 f_tree_Root [.sl 1 nl none (l.map S1)] [] (.tup [.str (rootOf l).1, .int .i64 (rootOf l).2]) [] := by
  intro m
  induction m with
  | zero =>
    intro l nl hm
    refine good_of_run prOk (by kernel_rfl) (tree_Root_run nl _ G0 _ ?_)
    have h0 : l = [] := List.eq_nil_of_length_eq_zero (by omega)
    subst h0
    simp only [ifK_iff, decide_eq_true_eq, decide_eq_false_iff_not, List.map_nil, List.length_nil]
    refine ⟨fun h => by omega, fun _ => ⟨fun _ => ⟨_, good_None, ?_⟩, fun h => by simp at h⟩⟩
    simp [rootOf, tRoot_zero]
  | succ m ih =>
    intro l nl hm
    refine good_of_run prOk (by kernel_rfl) (tree_Root_run nl _ G0 _ ?_)
    simp only [ifK_iff, decide_eq_true_eq, decide_eq_false_iff_not, List.length_map, beq_iff_eq, beq_eq_false_iff_ne]
    refine ⟨fun h => ?_, fun h => ⟨fun h0 => ⟨_, good_None, ?_⟩, fun h0 => ⟨fun h1 => ⟨by omega, ?_⟩, fun h1 => ?_⟩⟩⟩
    · rw [rootOf, if_pos (by omega)]; exact ⟨rfl, trivial⟩
    · rw [rootOf, if_neg (by omega), tRoot_zero (by omega)]; exact ⟨rfl, trivial⟩
    · obtain ⟨s, hs⟩ : ∃ s, l = [s] := List.length_eq_one_iff.1 (by omega)
      subst hs
      refine ⟨s, rfl, _, _, good_Leaf s, ?_⟩
      rw [rootOf, if_neg (by omega), tRoot_one rfl]; exact ⟨rfl, trivial⟩
    · have h2 : 2 ≤ l.length := by omega
      have hk1 := halfN_pos l.length
      have hk2 := halfN_lt h2
      have e1 : List.drop 0 (List.take (Int.toNat (halfN l.length : Int)) (l.map S1)) = (l.take (halfN l.length)).map S1 := by simp
      have e2 : List.drop (Int.toNat (halfN l.length : Int)) (List.take (Int.toNat (l.length : Int)) (l.map S1)) = (l.drop (halfN l.length)).map S1 := by
        simp [List.take_of_length_le]
      have r1 : rootOf (l.take (halfN l.length)) = tRoot (l.take (halfN l.length)) := by rw [rootOf, if_neg (by simp only [List.length_take]; omega)]
      have r2 : rootOf (l.drop (halfN l.length)) = tRoot (l.drop (halfN l.length)) := by rw [rootOf, if_neg (by simp only [List.length_drop]; omega)]
      have r0 : rootOf l = tRoot l := by rw [rootOf, if_neg (by omega)]
      have g1 := ih (l.take (halfN l.length)) nl (by simp only [List.length_take]; omega)
      have g2 := ih (l.drop (halfN l.length)) nl (by simp only [List.length_drop]; omega)
      rw [r1] at g1
      rw [r2] at g2
      refine ⟨_, _, good_Half' l.length h2 (by omega), ?_⟩
      simp only [bne_self_eq_false, Bool.false_eq_true, false_implies, true_and, true_implies]
      refine ⟨by omega, by omega, by omega, _, _, by rw [e1]; exact g1, fun h3 => ?_, fun h3 => ⟨by omega, by omega, Int.le_refl _, _, _, by rw [e2]; exact g2, fun h4 => ?_, fun h4 => ⟨_, _, good_Node hG _ _, ?_⟩⟩⟩
      · have h3 : (tRoot (l.take (halfN l.length))).2 ≠ 0 := by simpa using h3
        rw [r0, tRoot_two h2, if_pos h3]; exact ⟨rfl, trivial⟩
      · have h3 : (tRoot (l.take (halfN l.length))).2 = 0 := by simpa using h3
        have h4 : (tRoot (l.drop (halfN l.length))).2 ≠ 0 := by simpa using h4
        rw [r0, tRoot_two h2, if_neg (by simpa using h3), if_pos h4]; exact ⟨rfl, trivial⟩
      · have h3 : (tRoot (l.take (halfN l.length))).2 = 0 := by simpa using h3
        have h4 : (tRoot (l.drop (halfN l.length))).2 = 0 := by simpa using h4
        rw [r0, tRoot_two h2, if_neg (by simpa using h3), if_neg (by simpa using h4)]; exact ⟨rfl, trivial⟩

theorem good_Root' (hG : GlobOk G0) (l : List By) (nl : Bool) : Good PG nG G0 f_tree_Root [.sl 1 nl none (l.map S1)] [] (.tup [.str (rootOf l).1, .int .i64 (rootOf l).2]) [] := good_Root hG _ l nl (Nat.le_refl _)

/-- The heap of the document's own answer: the list, the function that calls itself. -/
def rootH (nl : Bool) (l : List By) : List (Option Blk) := [some (.var [.sl 1 nl none (l.map S1)]), some (.var [.func f_greatsealref_RootOf_c1 [.ref 0 0, .ref 1 0]])]

theorem good_RootOf1 (hG : GlobOk G0) (l : List By) (nl : Bool) (hl : l.length ≤ 24) : ∀ (m f t : Nat), f < t → t ≤ l.length → t - f ≤ m →
    Good PG nG G0 f_greatsealref_RootOf_c1 [.int .i64 f, .int .i64 t, .ref 0 0, .ref 1 0] (rootH nl l) (.tup [.str (tRoot ((l.drop f).take (t - f))).1, .int .i64 (tRoot ((l.drop f).take (t - f))).2]) (rootH nl l) := by
  intro m
  induction m with
  | zero => intro f t h1 _ h2; omega
  | succ m ih =>
    intro f t hft htl hm
    have hsub : ((l.drop f).take (t - f)).length = t - f := by simp only [List.length_take, List.length_drop]; omega
    refine good_of_run prOk (by kernel_rfl) (greatsealref_RootOf_c1_run f t nl (l.map S1) G0 _ ?_)
    simp only [ifK_iff, beq_iff_eq, beq_eq_false_iff_ne]
    have hw : IntKind.i64.wrap ((t : Int) - f) = ((t - f : Nat) : Int) := by rw [wrap64 (by omega) (by omega)]; omega
    rw [hw]
    refine ⟨fun h1 => ⟨by omega, ?_⟩, fun h1 => ?_⟩
    · obtain ⟨s, hs⟩ : ∃ s, l[f]? = some s := ⟨_, List.getElem?_eq_getElem (by omega)⟩
      have hsub1 : (l.drop f).take (t - f) = [s] := by
        have : t - f = 1 := by omega
        rw [this, List.take_one, List.head?_drop, hs]; rfl
      refine ⟨s, by simpa using map_get hs, _, _, good_LeafOf s, ?_⟩
      rw [tRoot_one (by omega), hsub1]
      exact ⟨rfl, rfl⟩
    · have h2 : 2 ≤ t - f := by omega
      have hk1 := halfN_pos (t - f)
      have hk2 := halfN_lt h2
      have hw2 : IntKind.i64.wrap ((f : Int) + (halfN (t - f) : Nat)) = ((f + halfN (t - f) : Nat) : Int) := by rw [wrap64 (by omega) (by omega)]; omega
      have s1 : ((l.drop f).take (t - f)).take (halfN (t - f)) = (l.drop f).take (f + halfN (t - f) - f) := by
        rw [List.take_take]; congr 1; omega
      have s2 : ((l.drop f).take (t - f)).drop (halfN (t - f)) = (l.drop (f + halfN (t - f))).take (t - (f + halfN (t - f))) := by
        rw [List.drop_take, List.drop_drop]; congr 1; omega
      have g1 := ih f (f + halfN (t - f)) (by omega) (by omega) (by omega)
      have g2 := ih (f + halfN (t - f)) t (by omega) htl (by omega)
      rw [← s1] at g1
      rw [← s2] at g2
      have gh := good_HalfOf (G0 := G0) ((t - f : Nat) : Int) (by omega)
      rw [Int.toNat_natCast] at gh
      have hr := tRoot_two (l := (l.drop f).take (t - f)) (by rw [hsub]; exact h2)
      rw [hsub] at hr
      refine ⟨_, gh, ?_⟩
      rw [hw2]
      refine ⟨_, _, nl, l.map S1, g1, fun h3 => ?_, fun h3 => ⟨_, _, nl, l.map S1, g2, fun h4 => ?_, fun h4 => ⟨_, _, good_NodeOf hG _ _ (by have := tRoot_len (((l.drop f).take (t - f)).take (halfN (t - f))); omega) (by have := tRoot_len (((l.drop f).take (t - f)).drop (halfN (t - f))); omega), ?_⟩⟩⟩
      · have h3 : (tRoot (((l.drop f).take (t - f)).take (halfN (t - f)))).2 ≠ 0 := by simpa using h3
        rw [hr, if_pos h3]; exact ⟨rfl, rfl⟩
      · have h3 : (tRoot (((l.drop f).take (t - f)).take (halfN (t - f)))).2 = 0 := by simpa using h3
        have h4 : (tRoot (((l.drop f).take (t - f)).drop (halfN (t - f)))).2 ≠ 0 := by simpa using h4
        rw [hr, if_neg (by simpa using h3), if_pos h4]; exact ⟨rfl, rfl⟩
      · have h3 : (tRoot (((l.drop f).take (t - f)).take (halfN (t - f)))).2 = 0 := by simpa using h3
        have h4 : (tRoot (((l.drop f).take (t - f)).drop (halfN (t - f)))).2 = 0 := by simpa using h4
        rw [hr, if_neg (by simpa using h3), if_neg (by simpa using h4)]; exact ⟨rfl, rfl⟩

theorem good_RootOf (hG : GlobOk G0) (l : List By) (nl : Bool) : Good PG nG G0 f_greatsealref_RootOf [.sl 1 nl none (l.map S1)] [] (.tup [.str (rootOf l).1, .int .i64 (rootOf l).2]) [] := by
  refine good_of_run prOk (by kernel_rfl) (greatsealref_RootOf_run nl _ G0 _ ?_)
  simp only [ifK_iff, decide_eq_true_eq, decide_eq_false_iff_not, List.length_map, beq_iff_eq, beq_eq_false_iff_ne]
  refine ⟨fun h => ?_, fun h => ⟨fun h0 => ?_, fun h0 => ?_⟩⟩
  · rw [rootOf, if_pos (by omega)]; exact ⟨rfl, trivial⟩
  · rw [rootOf, if_neg (by omega), tRoot_zero (by omega)]; exact ⟨rfl, trivial⟩
  · have g := good_RootOf1 hG l nl (by omega) l.length 0 l.length (by omega) (Nat.le_refl _) (by omega)
    have e : (l.drop 0).take (l.length - 0) = l := by simp
    rw [e] at g
    refine ⟨_, _, nl, l.map S1, g, ?_⟩
    rw [rootOf, if_neg (by omega)]; exact ⟨rfl, trivial⟩
end Go.Ab

namespace Go.Ab
open Go.Proofs Go.Gs
variable {G0 : Nat → Option Obj}

theorem getD_map {l : List By} {i : Nat} (h : i < l.length) : (l.map S1)[i]? = some [AV.str l[i]] := by rw [List.getElem?_map, List.getElem?_eq_getElem h]; rfl

theorem eq_loop (a b : List By) (na nb : Bool) (hl : a.length = b.length) (hb : (a.length : Int) ≤ 9223372036854775806) : ∀ (m i : Nat), a.length - i ≤ m → i ≤ a.length → (∀ j, j < i → a[j]? = b[j]?) →
    Does PG nG G0 (fnOf PG f_slices_Equal_string) 0 (lp PG f_slices_Equal_string 0) (mkT 26 [(0, .sl 1 na none (a.map S1)), (1, .sl 1 nb none (b.map S1)), (12, .int .i64 (a.map S1).length), (13, .int .i64 i)]) [] fun r' H'' => r' = .bool (a == b) ∧ H'' = [] := by
  intro m
  induction m with
  | zero =>
    intro i h1 h2 h3
    refine does_of_run prOk (slices_Equal_string_l0_run G0 na _ nb _ _ _ _ ?_)
    simp only [ifK_iff, decide_eq_true_eq, decide_eq_false_iff_not, List.length_map]
    refine ⟨fun h => by omega, fun h => ⟨?_, trivial⟩⟩
    have : a = b := List.ext_getElem? fun j => by
      rcases Nat.lt_or_ge j i with hj | hj
      · exact h3 j hj
      · rw [List.getElem?_eq_none (by omega), List.getElem?_eq_none (by omega)]
    simp [this]
  | succ m ih =>
    intro i h1 h2 h3
    refine does_of_run prOk (slices_Equal_string_l0_run G0 na _ nb _ _ _ _ ?_)
    simp only [ifK_iff, decide_eq_true_eq, decide_eq_false_iff_not, List.length_map, Int.toNat_natCast, Bool.not_eq_true', Bool.not_eq_false']
    refine ⟨fun h => ⟨by omega, a[i]'(by omega), getD_map (by omega), by omega, b[i]'(by omega), getD_map (by omega), fun h4 => ⟨?_, trivial⟩, fun h4 => ?_⟩, fun h => ⟨?_, trivial⟩⟩
    · have hne : a[i]'(by omega) ≠ b[i]'(by omega) := by simpa using h4
      have : a ≠ b := by rintro rfl; exact hne rfl
      simp [this]
    · have he : a[i]'(by omega) = b[i]'(by omega) := by simpa using h4
      have := ih (i + 1) (by omega) (by omega) fun j hj => by
        rcases Nat.lt_or_ge j i with hj2 | hj2
        · exact h3 j hj2
        · obtain rfl : j = i := by omega
          rw [List.getElem?_eq_getElem (by omega), List.getElem?_eq_getElem (by omega), he]
      rw [wrap64 (by omega) (by omega)]
      rw [List.length_map] at this
      exact this
    · have : a = b := List.ext_getElem? fun j => by
        rcases Nat.lt_or_ge j i with hj | hj
        · exact h3 j hj
        · rw [List.getElem?_eq_none (by omega), List.getElem?_eq_none (by omega)]
      simp [this]

theorem good_Equal (a b : List By) (na nb : Bool) (hb : (a.length : Int) ≤ 9223372036854775806) : Good PG nG G0 f_slices_Equal_string [.sl 1 na none (a.map S1), .sl 1 nb none (b.map S1)] [] (.bool (a == b)) [] := by
  refine good_of_run prOk (by kernel_rfl) (slices_Equal_string_run na _ nb _ G0 _ ?_)
  simp only [ifK_iff, bne_iff_ne, ne_eq, List.length_map, bne_eq_false_iff_eq]
  refine ⟨fun h => ⟨?_, trivial⟩, fun h => ?_⟩
  · have : a ≠ b := by rintro rfl; exact h rfl
    simp [this]
  · have := eq_loop (G0 := G0) a b na nb (by omega) hb a.length 0 (by omega) (by omega) (fun j hj => by omega)
    rw [List.length_map] at this
    exact this

theorem good_planted (hG : GlobOk G0) : Good PG nG G0 f_greatseallaw_planted [] [] (.bool true) [] := by
  refine good_of_run prOk (by kernel_rfl) (greatseallaw_planted_run G0 _ ?_)
  have g1 := good_Root' hG [[97], [98], [99]] false
  have g2 := good_Root' hG [] true
  have e1 : rootOf [[97], [98], [99]] = ([78, 55, 58, 78, 50, 58, 76, 97, 76, 98, 76, 99], 0) := by
    simp [rootOf, tRoot, halfN, tLeaf, tNode, Lib.itoa, Lib.decDigits]
  have e2 : rootOf [] = ([69], 0) := by simp [rootOf, tRoot]
  rw [e1] at g1
  rw [e2] at g2
  have h5 := good_Half (G0 := G0) 5
  have h1 := good_Half (G0 := G0) 1
  have hh : halfN (Int.toNat 5) = 4 := by decide
  rw [hh] at h5
  refine ⟨_, _, g1, _, _, h5, _, _, h1, _, _, g2, ?_⟩
  simp [ifK]

end Go.Ab

namespace Go.Gs

def valD (l : List UInt8) : Nat := l.foldl (fun v c => v * 10 + (c.toNat - 48)) 0

theorem digit_toNat (k : Nat) (h : k < 10) : (UInt8.ofNat (48 + k)).toNat = 48 + k := by
  simp [UInt8.toNat_ofNat']; omega

theorem valD_dec (u : Nat) : valD (Lib.decDigits u) = u := by
  induction u using Nat.strongRecOn with
  | _ u ih =>
    rw [Lib.decDigits]
    split
    · rename_i h
      simp only [valD, List.foldl_cons, List.foldl_nil]
      rw [digit_toNat u h]; omega
    · rename_i h
      have := ih (u / 10) (by omega)
      unfold valD at this ⊢
      rw [List.foldl_append, this]
      simp only [List.foldl_cons, List.foldl_nil]
      rw [digit_toNat _ (by omega)]; omega

theorem dec_inj {m n : Nat} (h : Lib.decDigits m = Lib.decDigits n) : m = n := by
  rw [← valD_dec m, h, valD_dec]

theorem dec_digit (u : Nat) : ∀ c ∈ Lib.decDigits u, 48 ≤ c.toNat ∧ c.toNat ≤ 57 := by
  induction u using Nat.strongRecOn with
  | _ u ih =>
    rw [Lib.decDigits]
    split
    · rename_i h
      intro c hc
      have hc := List.mem_singleton.1 hc
      subst hc
      rw [digit_toNat u h]; omega
    · rename_i h
      intro c hc
      rcases List.mem_append.1 hc with hc | hc
      · exact ih (u / 10) (by omega) c hc
      · have hc := List.mem_singleton.1 hc
        subst hc
        rw [digit_toNat _ (by omega)]; omega

theorem split_first {x : UInt8} : ∀ {a b c d : List UInt8}, x ∉ a → x ∉ c → a ++ x :: b = c ++ x :: d → a = c ∧ b = d
  | [], b, [], d, _, _, h => by simp at h; exact ⟨rfl, h⟩
  | [], b, y :: c, d, _, hc, h => by simp at h; exact absurd h.1 (fun e => hc (by simp [e]))
  | y :: a, b, [], d, ha, _, h => by simp at h; exact absurd h.1.symm (fun e => ha (by simp [e]))
  | y :: a, b, z :: c, d, ha, hc, h => by
    simp only [List.cons_append, List.cons.injEq] at h
    obtain ⟨h1, h2⟩ := split_first (fun e => ha (by simp [e])) (fun e => hc (by simp [e])) h.2
    exact ⟨by rw [h.1, h1], h2⟩

theorem itoa_nat (n : Nat) : Lib.itoa n = Lib.decDigits n := by
  unfold Lib.itoa
  rw [if_neg (by omega)]; simp

theorem node_inj {a b c d : By} (h : (78 : UInt8) :: (Lib.itoa a.length ++ 58 :: (a ++ b)) = 78 :: (Lib.itoa c.length ++ 58 :: (c ++ d))) : a = c ∧ b = d := by
  rw [itoa_nat, itoa_nat] at h
  simp only [List.cons.injEq, true_and] at h
  have no : ∀ n : Nat, (58 : UInt8) ∉ Lib.decDigits n := fun n hc => by
    have := dec_digit n _ hc
    simp at this
  obtain ⟨h1, h2⟩ := split_first (no _) (no _) h
  have hl := dec_inj h1
  exact List.append_inj h2 hl

theorem tNode_ok {a b : By} (h : (tNode a b).2 = 0) : (tNode a b).1 = 78 :: (Lib.itoa a.length ++ 58 :: (a ++ b)) := by
  unfold tNode at h ⊢
  split
  · rename_i hc; rw [if_pos hc] at h; cases h
  · rfl

theorem tLeaf_ok {s : By} (h : (tLeaf s).2 = 0) : (tLeaf s).1 = 76 :: s := by
  unfold tLeaf at h ⊢
  split
  · rename_i hc; rw [if_pos hc] at h; cases h
  · rfl

/-- Which of three a good seal is. -/
theorem tRoot_cases {l : List By} (h : (tRoot l).2 = 0) :
    (l = [] ∧ (tRoot l).1 = [69]) ∨ (∃ s, l = [s] ∧ (tRoot l).1 = 76 :: s) ∨
    (2 ≤ l.length ∧ (tRoot (l.take (halfN l.length))).2 = 0 ∧ (tRoot (l.drop (halfN l.length))).2 = 0 ∧
      (tRoot l).1 = 78 :: (Lib.itoa (tRoot (l.take (halfN l.length))).1.length ++ 58 :: ((tRoot (l.take (halfN l.length))).1 ++ (tRoot (l.drop (halfN l.length))).1))) := by
  rcases Nat.lt_or_ge l.length 2 with h2 | h2
  · by_cases h0 : l.length = 0
    · exact .inl ⟨List.eq_nil_of_length_eq_zero h0, by rw [tRoot_zero h0]⟩
    · obtain ⟨s, rfl⟩ := List.length_eq_one_iff.1 (show l.length = 1 by omega)
      rw [tRoot_one rfl] at h ⊢
      exact .inr (.inl ⟨s, rfl, tLeaf_ok h⟩)
  · rw [tRoot_two h2] at h ⊢
    split at h
    · rename_i hc; exact absurd h hc
    · rename_i h3
      split at h
      · rename_i hc; exact absurd h hc
      · rename_i h4
        have h3 : (tRoot (l.take (halfN l.length))).2 = 0 := by simpa using h3
        have h4 : (tRoot (l.drop (halfN l.length))).2 = 0 := by simpa using h4
        rw [if_neg (by simpa using h3), if_neg (by simpa using h4)]
        exact .inr (.inr ⟨h2, h3, h4, tNode_ok h⟩)

/-- NO TWO LISTS HAVE ONE SEAL. -/
theorem tRoot_inj : ∀ (n : Nat) (l m : List By), l.length ≤ n → (tRoot l).2 = 0 → (tRoot m).2 = 0 → (tRoot l).1 = (tRoot m).1 → l = m := by
  intro n
  induction n with
  | zero =>
    intro l m hn h1 h2 he
    have hl : l = [] := List.eq_nil_of_length_eq_zero (by omega)
    subst hl
    rw [tRoot_zero rfl] at he
    rcases tRoot_cases h2 with ⟨rfl, _⟩ | ⟨s, rfl, h⟩ | ⟨_, _, _, h⟩
    · rfl
    · rw [h] at he; simp at he
    · rw [h] at he; simp at he
  | succ n ih =>
    intro l m hn h1 h2 he
    have d1 : (69 : UInt8) ≠ 76 := by decide
    have d2 : (69 : UInt8) ≠ 78 := by decide
    have d3 : (76 : UInt8) ≠ 78 := by decide
    rcases tRoot_cases h1 with ⟨e1, g1⟩ | ⟨s, e1, g1⟩ | ⟨a1, a2, a3, g1⟩ <;> rcases tRoot_cases h2 with ⟨e2, g2⟩ | ⟨t, e2, g2⟩ | ⟨b1, b2, b3, g2⟩ <;> rw [g1, g2] at he
    · rw [e1, e2]
    · exact absurd (List.cons.inj he).1 d1
    · exact absurd (List.cons.inj he).1 d2
    · exact absurd (List.cons.inj he).1.symm d1
    · rw [e1, e2, (List.cons.inj he).2]
    · exact absurd (List.cons.inj he).1 d3
    · exact absurd (List.cons.inj he).1.symm d2
    · exact absurd (List.cons.inj he).1.symm d3
    · obtain ⟨e1, e2⟩ := node_inj he
      have hk1 := halfN_pos l.length
      have hk2 := halfN_lt a1
      have i1 := ih _ _ (by simp only [List.length_take]; omega) a2 b2 e1
      have i2 := ih _ _ (by simp only [List.length_drop]; omega) a3 b3 e2
      rw [← List.take_append_drop (halfN l.length) l, ← List.take_append_drop (halfN m.length) m, i1, i2]
end Go.Gs

namespace Go.Ab
open Go.Proofs Go.Gs
variable {G0 : Nat → Option Obj}

theorem good_at (k : Int) (n : Nat) (hn : 0 < n) (h1 : (n : Int) ≤ 1000000000) (h2 : -9223372036854775808 ≤ k ∧ k ≤ 9223372036854775807) : Good PG nG G0 f_greatseallaw_at [.int .i64 k, .int .i64 n] [] (.int .i64 (k % n)) [] := by
  refine good_of_run prOk (by kernel_rfl) (greatseallaw_at_run k n G0 _ ?_)
  simp only [ifK_iff, decide_eq_true_eq, decide_eq_false_iff_not]
  have ht : Int.tmod k n = if k < 0 ∧ k % n ≠ 0 then k % n - n else k % n := by
    rw [Int.tmod_eq_emod]
    by_cases h0 : 0 ≤ k
    · rw [if_pos (.inl h0), if_neg (by omega)]; omega
    · by_cases hd : (n : Int) ∣ k
      · have : k % n = 0 := Int.emod_eq_zero_of_dvd hd
        rw [if_pos (.inr hd), if_neg (by omega)]; omega
      · have : k % n ≠ 0 := fun h => hd (Int.dvd_of_emod_eq_zero h)
        rw [if_neg (by omega), if_pos ⟨by omega, this⟩]
        omega
  have hp := Int.emod_nonneg k (show (n : Int) ≠ 0 by omega)
  have hq := Int.emod_lt_of_pos k (show (0 : Int) < n by omega)
  rw [ht]
  refine ⟨by omega, fun h => ⟨?_, trivial⟩, fun h => ⟨?_, trivial⟩⟩
  · rw [wrap64 (by split <;> omega) (by split <;> omega)]
    congr 1
    split at h <;> rename_i hc
    · rw [if_pos hc]; omega
    · omega
  · congr 1
    split at h <;> rename_i hc
    · omega
    · rw [if_neg hc]

theorem good_Clone (l : List By) (nl : Bool) (hnl : nl = true → l = []) (hl : l.length * 16 ≤ 140737488355328) : Good PG nG G0 f_slices_Clone_string [.sl 1 nl none (l.map S1)] [] (.sl 1 nl (some 0) (l.map S1)) [some (.grow 1 l.length)] := by
  refine good_of_run prOk (by kernel_rfl) (slices_Clone_string_run nl _ G0 _ ?_)
  simp only [ifK_iff, List.length_map, Nat.zero_add, List.nil_append, Bool.false_and]
  refine ⟨fun h => ?_, fun h => ⟨hl, trivial, ?_⟩⟩
  · have := hnl h
    subst this; subst h
    exact ⟨rfl, rfl⟩
  · subst h; exact ⟨rfl, trivial⟩

theorem plain_texts (l : List By) : plainXs (l.map S1) := by
  intro x hx y hy
  obtain ⟨s, _, rfl⟩ := List.mem_map.1 hx
  simp [S1] at hy
  subst hy; rfl

theorem good_Clone_arr (l : List By) (hl : l.length * 16 ≤ 140737488355328) : Good PG nG G0 f_slices_Clone_string [.sl 1 false none (l.map S1)] [] (.rsl 1 0 0 (l.map S1).length) [some (.arr 1 (l.map S1))] := by
  refine Good.thaw (plain_texts l) ?_
  have := good_Clone (G0 := G0) l false (fun h => by cases h) hl
  rw [List.length_map]
  exact this

theorem good_in (n a b : Int) : Good PG nG G0 f_greatsealref_in [.int .i64 n, .int .i64 a, .int .i64 b] [] (.bool (decide (a ≤ n ∧ n ≤ b))) [] := by
  refine good_of_run prOk (by kernel_rfl) (greatsealref_in_run n a b G0 _ ?_)
  simp only [ifK_iff, decide_eq_true_eq, decide_eq_false_iff_not]
  exact ⟨fun h => ⟨by simp [h], trivial⟩, fun h => ⟨by simp [h], trivial⟩⟩

end Go.Ab

namespace Go.Ab
open Go.Proofs
set_option maxRecDepth 100000

def an_greatseallaw_TreeSays : FAnn := ⟨[], [], none, []⟩
def an_greatseallaw_TreeOne : FAnn := ⟨[(8, 1, ⟨[], [], [0]⟩)], [], none, []⟩

theorem greatseallaw_TreeSays_run (nll0 : Bool) (l0 : List (List AV)) (n1 : Int) (G0 : Nat → Option Go.Obj) (R : AV → List (Option Blk) → Prop) (h :
  ∃ s0 n1_1,
  Good PG nG G0 f_tree_Root [AV.sl (1 : Nat) nll0 none l0] [] (AV.tup [AV.str s0, AV.int Go.IntKind.i64 n1_1]) [] ∧
    ∃ n2 n3,
      Good PG nG G0 f_tree_Half [AV.int Go.IntKind.i64 n1] [] (AV.tup [AV.int Go.IntKind.i64 n2, AV.int Go.IntKind.i64 n3]) [] ∧
        ∃ s4 n5,
          Good PG nG G0 f_greatsealref_RootOf [AV.sl (1 : Nat) nll0 none l0] [] (AV.tup [AV.str s4, AV.int Go.IntKind.i64 n5]) [] ∧
            ∃ b6,
              Good PG nG G0 f_greatseallaw_planted [] [] (AV.bool b6) [] ∧
                ifK (!b6) (R (AV.bool false) [])
                  (ifK (!s0 == s4) (R (AV.bool false) [])
                    (ifK (n1_1 != n5) (R (AV.bool false) [])
                      (ifK (decide (n1 < (2 : Int))) (ifK (n3 == (3 : Int)) (R (AV.bool (n2 == (0 : Int))) []) (R (AV.bool false) []))
                        (ifK (decide (n1 > (24 : Int))) (ifK (n3 == (3 : Int)) (R (AV.bool (n2 == (0 : Int))) []) (R (AV.bool false) []))
                          (ifK (n3 == (0 : Int)) (∃ n7, Good PG nG G0 f_greatsealref_HalfOf [AV.int Go.IntKind.i64 n1] [] (AV.int Go.IntKind.i64 n7) [] ∧ R (AV.bool (n2 == n7)) []) (R (AV.bool false) []))))))) :
  Hold (runF PG ty nG G0 an_greatseallaw_TreeSays f_greatseallaw_TreeSays [AV.sl (1 : Nat) nll0 none l0, AV.int Go.IntKind.i64 n1] [] R) := kshow h (by kernel_rfl)

theorem greatseallaw_TreeOne_run (nll0 : Bool) (l0 : List (List AV)) (nlm1 : Bool) (m1 : List (List AV)) (k2 : Int) (s3 : List UInt8) (G0 : Nat → Option Go.Obj) (R : AV → List (Option Blk) → Prop) (h :
  ∃ s0 n1,
  Good PG nG G0 f_tree_Root [AV.sl (1 : Nat) nll0 none l0] [] (AV.tup [AV.str s0, AV.int Go.IntKind.i64 n1]) [] ∧
    ∃ s2 n3,
      Good PG nG G0 f_tree_Root [AV.sl (1 : Nat) nlm1 none m1] [] (AV.tup [AV.str s2, AV.int Go.IntKind.i64 n3]) [] ∧
        ∃ b4,
          Good PG nG G0 f_greatseallaw_planted [] [] (AV.bool b4) [] ∧
            ifK (!b4) (R (AV.bool false) [])
              (ifK (n1 == (0 : Int))
                (ifK (n3 == (0 : Int))
                  (∃ b5,
                    Good PG nG G0 f_slices_Equal_string [AV.sl (1 : Nat) nll0 none l0, AV.sl (1 : Nat) nlm1 none m1] [] (AV.bool b5) [] ∧
                      ifK (!(s0 == s2) == b5) (R (AV.bool false) [])
                        (ifK (n1 != (0 : Int)) (R (AV.bool true) [])
                          (ifK ((↑(List.length l0) : Int) == (0 : Int)) (R (AV.bool true) [])
                            (∃ n6,
                              Good PG nG G0 f_greatseallaw_at [AV.int Go.IntKind.i64 k2, AV.int Go.IntKind.i64 (↑(List.length l0) : Int)] [] (AV.int Go.IntKind.i64 n6) [] ∧
                                ∃ b7 xs8,
                                  ifK b7 (Good PG nG G0 f_slices_Clone_string [AV.sl (1 : Nat) nll0 none l0] [] (AV.sl (1 : Nat) true none []) [] ∧ (0 : Int) ≤ n6 ∧ ∃ s9, none = some [AV.str s9] ∧ False)
                                    (Good PG nG G0 f_slices_Clone_string [AV.sl (1 : Nat) nll0 none l0] [] (AV.rsl (1 : Nat) (0 : Nat) (0 : Nat) (List.length xs8)) [some (Blk.arr (1 : Nat) xs8)] ∧
                                      (0 : Int) ≤ n6 ∧
                                        n6 < (↑(List.length xs8) : Int) ∧
                                          ∃ s10 n11,
                                            Good PG nG G0 f_tree_Root
                                                [AV.sl (1 : Nat) false none
                                                    (List.take (List.length xs8) (List.drop (0 : Nat) (List.set xs8 ((0 : Nat) + Int.toNat n6) (setR (List.getD xs8 ((0 : Nat) + Int.toNat n6) []) (0 : Nat) [AV.str s3]))))]
                                                [] (AV.tup [AV.str s10, AV.int Go.IntKind.i64 n11]) [] ∧
                                              ifK (n11 != (0 : Int)) (R (AV.bool true) []) ((0 : Int) ≤ n6 ∧ ∃ s12, l0[Int.toNat n6]? = some [AV.str s12] ∧ R (AV.bool ((s10 == s0) == (s3 == s12))) []))))))
                  (ifK (n1 != (0 : Int)) (R (AV.bool true) [])
                    (ifK ((↑(List.length l0) : Int) == (0 : Int)) (R (AV.bool true) [])
                      (∃ n13,
                        Good PG nG G0 f_greatseallaw_at [AV.int Go.IntKind.i64 k2, AV.int Go.IntKind.i64 (↑(List.length l0) : Int)] [] (AV.int Go.IntKind.i64 n13) [] ∧
                          ∃ b14 xs15,
                            ifK b14 (Good PG nG G0 f_slices_Clone_string [AV.sl (1 : Nat) nll0 none l0] [] (AV.sl (1 : Nat) true none []) [] ∧ (0 : Int) ≤ n13 ∧ ∃ s16, none = some [AV.str s16] ∧ False)
                              (Good PG nG G0 f_slices_Clone_string [AV.sl (1 : Nat) nll0 none l0] [] (AV.rsl (1 : Nat) (0 : Nat) (0 : Nat) (List.length xs15)) [some (Blk.arr (1 : Nat) xs15)] ∧
                                (0 : Int) ≤ n13 ∧
                                  n13 < (↑(List.length xs15) : Int) ∧
                                    ∃ s17 n18,
                                      Good PG nG G0 f_tree_Root
                                          [AV.sl (1 : Nat) false none
                                              (List.take (List.length xs15) (List.drop (0 : Nat) (List.set xs15 ((0 : Nat) + Int.toNat n13) (setR (List.getD xs15 ((0 : Nat) + Int.toNat n13) []) (0 : Nat) [AV.str s3]))))]
                                          [] (AV.tup [AV.str s17, AV.int Go.IntKind.i64 n18]) [] ∧
                                        ifK (n18 != (0 : Int)) (R (AV.bool true) []) ((0 : Int) ≤ n13 ∧ ∃ s19, l0[Int.toNat n13]? = some [AV.str s19] ∧ R (AV.bool ((s17 == s0) == (s3 == s19))) []))))))
                (ifK (n1 != (0 : Int)) (R (AV.bool true) [])
                  (ifK ((↑(List.length l0) : Int) == (0 : Int)) (R (AV.bool true) [])
                    (∃ n20,
                      Good PG nG G0 f_greatseallaw_at [AV.int Go.IntKind.i64 k2, AV.int Go.IntKind.i64 (↑(List.length l0) : Int)] [] (AV.int Go.IntKind.i64 n20) [] ∧
                        ∃ b21 xs22,
                          ifK b21 (Good PG nG G0 f_slices_Clone_string [AV.sl (1 : Nat) nll0 none l0] [] (AV.sl (1 : Nat) true none []) [] ∧ (0 : Int) ≤ n20 ∧ ∃ s23, none = some [AV.str s23] ∧ False)
                            (Good PG nG G0 f_slices_Clone_string [AV.sl (1 : Nat) nll0 none l0] [] (AV.rsl (1 : Nat) (0 : Nat) (0 : Nat) (List.length xs22)) [some (Blk.arr (1 : Nat) xs22)] ∧
                              (0 : Int) ≤ n20 ∧
                                n20 < (↑(List.length xs22) : Int) ∧
                                  ∃ s24 n25,
                                    Good PG nG G0 f_tree_Root
                                        [AV.sl (1 : Nat) false none
                                            (List.take (List.length xs22) (List.drop (0 : Nat) (List.set xs22 ((0 : Nat) + Int.toNat n20) (setR (List.getD xs22 ((0 : Nat) + Int.toNat n20) []) (0 : Nat) [AV.str s3]))))]
                                        [] (AV.tup [AV.str s24, AV.int Go.IntKind.i64 n25]) [] ∧
                                      ifK (n25 != (0 : Int)) (R (AV.bool true) []) ((0 : Int) ≤ n20 ∧ ∃ s26, l0[Int.toNat n20]? = some [AV.str s26] ∧ R (AV.bool ((s24 == s0) == (s3 == s26))) []))))))) :
  Hold (runF PG ty nG G0 an_greatseallaw_TreeOne f_greatseallaw_TreeOne [AV.sl (1 : Nat) nll0 none l0, AV.sl (1 : Nat) nlm1 none m1, AV.int Go.IntKind.i64 k2, AV.str s3] [] R) := kshow h (by kernel_rfl)

end Go.Ab

namespace Go.Ab
open Go.Proofs Go.Gs
variable {G0 : Nat → Option Obj}

theorem rootOf_ok {l : List By} (h : (rootOf l).2 = 0) : l.length ≤ 24 ∧ rootOf l = tRoot l := by
  unfold rootOf at h ⊢
  split
  · rename_i hc; rw [if_pos hc] at h; cases h
  · exact ⟨by omega, rfl⟩

theorem rootOf_inj {l m : List By} (h1 : (rootOf l).2 = 0) (h2 : (rootOf m).2 = 0) : ((rootOf l).1 == (rootOf m).1) = (l == m) := by
  have e1 := (rootOf_ok h1).2
  have e2 := (rootOf_ok h2).2
  by_cases h : l = m
  · subst h; simp
  · have : (rootOf l).1 ≠ (rootOf m).1 := fun he => h (tRoot_inj l.length l m (Nat.le_refl _) (by rw [← e1]; exact h1) (by rw [← e2]; exact h2) (by rw [← e1, ← e2]; exact he))
    have h3 : (l == m) = false := by simpa using h
    have h4 : ((rootOf l).1 == (rootOf m).1) = false := by simpa using this
    rw [h3, h4]

theorem setR_whole (y : List AV) (v : AV) (h : y.length ≤ 1) : setR y 0 [v] = [v] := by
  cases y with
  | nil => rfl
  | cons a r => cases r with
    | nil => rfl
    | cons => simp at h

theorem treeOne_tail (hG : GlobOk G0) (l : List By) (k : Int) (s : By) (hk : -9223372036854775808 ≤ k ∧ k ≤ 9223372036854775807) (he : (rootOf l).2 = 0) (h0 : l ≠ []) {R : AV → List (Option Blk) → Prop} (hR : R (.bool true) []) :
    ∃ n6, Good PG nG G0 f_greatseallaw_at [.int .i64 k, .int .i64 l.length] [] (.int .i64 n6) [] ∧
      ∃ b7 xs8, ifK b7 (Good PG nG G0 f_slices_Clone_string [.sl 1 false none (l.map S1)] [] (.sl 1 true none []) [] ∧ (0 : Int) ≤ n6 ∧ ∃ s9, (none : Option (List AV)) = some [AV.str s9] ∧ False)
        (Good PG nG G0 f_slices_Clone_string [.sl 1 false none (l.map S1)] [] (.rsl 1 0 0 (List.length xs8)) [some (.arr 1 xs8)] ∧ (0 : Int) ≤ n6 ∧ n6 < ((List.length xs8 : Nat) : Int) ∧
          ∃ s10 n11, Good PG nG G0 f_tree_Root [.sl 1 false none (List.take (List.length xs8) (List.drop 0 (List.set xs8 (0 + Int.toNat n6) (setR (List.getD xs8 (0 + Int.toNat n6) []) 0 [AV.str s]))))] [] (.tup [.str s10, .int .i64 n11]) [] ∧
            ifK (n11 != (0 : Int)) (R (.bool true) [])
              ((0 : Int) ≤ n6 ∧ ∃ s12, (l.map S1)[Int.toNat n6]? = some [AV.str s12] ∧ R (.bool ((s10 == (rootOf l).1) == (s == s12))) [])) := by
  have hlen := (rootOf_ok he).1
  have hpos : 0 < l.length := List.length_pos_iff.2 h0
  have hp := Int.emod_nonneg k (show (l.length : Int) ≠ 0 by omega)
  have hq := Int.emod_lt_of_pos k (show (0 : Int) < l.length by omega)
  refine ⟨_, good_at k l.length hpos (by omega) hk, false, l.map S1, ?_⟩
  generalize hi : k % (l.length : Int) = i at hp hq
  have hin : i.toNat < l.length := by omega
  have hset : List.take (l.map S1).length (List.drop 0 (List.set (l.map S1) (0 + i.toNat) (setR (List.getD (l.map S1) (0 + i.toNat) []) 0 [AV.str s]))) = (l.set i.toNat s).map S1 := by
    rw [List.drop_zero, List.take_of_length_le (by simp), Nat.zero_add, List.map_set]
    congr 1
    rw [setR_whole]
    · rfl
    · rw [List.getD_eq_getElem?_getD, List.getElem?_map]
      cases l[i.toNat]? <;> simp [S1]
  have hrsl := good_Clone_arr (G0 := G0) l (by omega)
  refine ⟨hrsl, hp, by rw [List.length_map]; exact hq, _, _, by rw [hset]; exact good_Root' hG (l.set i.toNat s) false, ?_⟩
  simp only [ifK_iff, bne_iff_ne, ne_eq, bne_eq_false_iff_eq]
  refine ⟨fun _ => hR, fun h => ⟨hp, l[i.toNat], getD_map hin, ?_⟩⟩
  rw [rootOf_inj h he]
  have : (l.set i.toNat s == l) = (s == l[i.toNat]) := by
    by_cases hs : s = l[i.toNat]
    · subst hs; simp
    · have h1 : (s == l[i.toNat]) = false := by simpa using hs
      have h2 : (l.set i.toNat s == l) = false := by
        have : l.set i.toNat s ≠ l := fun e => hs (by
          have := congrArg (·[i.toNat]?) e
          simpa [hin] using this)
        simpa using this
      rw [h1, h2]
  rw [this]; simpa using hR

theorem good_TreeOne (hG : GlobOk G0) (l m : List By) (nl nm : Bool) (k : Int) (s : By) (hk : -9223372036854775808 ≤ k ∧ k ≤ 9223372036854775807) (hnl : nl = true → l = []) :
    Good PG nG G0 f_greatseallaw_TreeOne [.sl 1 nl none (l.map S1), .sl 1 nm none (m.map S1), .int .i64 k, .str s] [] (.bool true) [] := by
  suffices main : ∀ R : AV → List (Option Blk) → Prop, R (.bool true) [] → Hold (runF PG ty nG G0 an_greatseallaw_TreeOne f_greatseallaw_TreeOne [.sl 1 nl none (l.map S1), .sl 1 nm none (m.map S1), .int .i64 k, .str s] [] R) from good_of_run prOk (by kernel_rfl) (main _ ⟨rfl, rfl⟩)
  intro R hR
  refine greatseallaw_TreeOne_run nl _ nm _ k s G0 R ?_
  have tail : (rootOf l).2 = 0 → (((l.map S1).length : Nat) : Int) ≠ 0 → nl = false := by
    intro _ h
    cases nl with
    | false => rfl
    | true => rw [hnl rfl] at h; simp at h
  refine ⟨_, _, good_Root' hG l nl, _, _, good_Root' hG m nm, _, good_planted hG, ?_⟩
  simp only [Bool.not_true]
  rw [ifK_iff]
  refine ⟨fun h => (by cases h), fun _ => ?_⟩
  have step : (rootOf l).2 = 0 → ∀ h : (((l.map S1).length : Nat) : Int) ≠ 0, nl = false ∧ l ≠ [] := by
    intro he h
    refine ⟨tail he h, fun e => h (by rw [e]; rfl)⟩
  rw [ifK_iff]
  refine ⟨fun h1 => ?_, fun h1 => ?_⟩
  · have h1 : (rootOf l).2 = 0 := by simpa using h1
    rw [ifK_iff]
    refine ⟨fun h2 => ?_, fun h2 => ?_⟩
    · have h2 : (rootOf m).2 = 0 := by simpa using h2
      refine ⟨_, good_Equal l m nl nm (by have := (rootOf_ok h1).1; omega), ?_⟩
      rw [rootOf_inj h1 h2, ifK_iff]
      refine ⟨fun h3 => by simp at h3, fun _ => ?_⟩
      rw [ifK_iff]
      refine ⟨fun h3 => hR, fun _ => ?_⟩
      rw [ifK_iff]
      refine ⟨fun _ => hR, fun h4 => ?_⟩
      obtain ⟨rfl, h5⟩ := step h1 (by simpa using h4)
      have := treeOne_tail hG l k s hk h1 h5 hR
      rw [List.length_map]
      exact this
    · rw [ifK_iff]
      refine ⟨fun h3 => hR, fun _ => ?_⟩
      rw [ifK_iff]
      refine ⟨fun _ => hR, fun h4 => ?_⟩
      obtain ⟨rfl, h5⟩ := step h1 (by simpa using h4)
      have := treeOne_tail hG l k s hk h1 h5 hR
      rw [List.length_map]
      exact this
  · have h1 : (rootOf l).2 ≠ 0 := by simpa using h1
    rw [ifK_iff]
    exact ⟨fun _ => hR, fun h => absurd (by simpa using h) h1⟩

theorem good_TreeSays (hG : GlobOk G0) (l : List By) (nl : Bool) (n : Int) : Good PG nG G0 f_greatseallaw_TreeSays [.sl 1 nl none (l.map S1), .int .i64 n] [] (.bool true) [] := by
  refine good_of_run prOk (by kernel_rfl) (greatseallaw_TreeSays_run nl _ n G0 _ ?_)
  refine ⟨_, _, good_Root' hG l nl, _, _, good_Half n, _, _, good_RootOf hG l nl, _, good_planted hG, ?_⟩
  simp only [ifK_iff, decide_eq_true_eq, decide_eq_false_iff_not, Bool.not_true, Bool.false_eq_true, false_implies, true_and, true_implies, beq_self_eq_true, bne_self_eq_false]
  refine ⟨fun h => ?_, fun h => ⟨fun h2 => ?_, fun h2 => ?_⟩⟩
  · simp [h]
  · simp [h2]
  · have h3 : ¬ (n < 2 ∨ 24 < n) := by omega
    simp only [if_neg h3]
    refine ⟨fun _ => ⟨_, good_HalfOf n (by omega), ?_⟩, fun h => by simp at h⟩
    simp
end Go.Ab

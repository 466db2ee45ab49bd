/- What a proof of TrieTrue leans on (5): The types' table of this program, its functions' numbers; DERIVED: THE SHELF's CONTRACTS AT THIS DUMP, IN PLAIN WORDS (tools/lay-plain.mjs out of 'TrydShelf.lean', which tools/lay-shelf.mjs wrote): THE SAME DECLARATIONS UNDER THE SAME NAMES: 'import', 'namespace', 'open', 'def', 'theorem' AND NOTHING ELSE: no command of the shelf's: FOR A HAND-IN. Each laying: the table of numbers ('.._ren') and one theorem, a field a fact of the dump's own or the kernel's comparison; each contract: ONE APPLICATION.; Contracts of the library's functions, as contracts here; What the runs come to; The seals and the lists' seals, in plain words; Contracts: seals, halves, lists; Contracts: the seal of a list, by; no condition. -/
import Derived.Test.YtfobijiffcfnkaaDoorZTrieTrueD
import Derived.Test.YtfobijiffcfnkaaDoorProg
import Derived.Shelf.Strconv.Itoa0
import Derived.Shelf.Strconv.Itoa1
import Derived.Shelf.LaysM
import Derived.Shelf.Strconv.Itoa2
import Derived.Shelf.Strconv.Itoa3
import Derived.Ground.Names2Prog
import Derived.Shelf.Slices.Clone
import Derived.Ground.SlgnProg
import Derived.Shelf.SlicesE.Clone
import Derived.Lib.ItoaNum
namespace Go.Ab
open Go.Proofs
set_option maxRecDepth 100000
def tyL : List (Option TI) := [
  none,
  some ⟨.scalar (.func), 1, 8, [.func]⟩,
  some ⟨.scalar (.int .i64), 1, 8, [.int .i64]⟩,
  some ⟨.scalar (.int .i64), 1, 8, [.int .i64]⟩,
  some ⟨.scalar (.bool), 1, 1, [.bool]⟩,
  some ⟨.scalar (.int .u8), 1, 1, [.int .u8]⟩,
  some ⟨.scalar (.int .u8), 1, 1, [.int .u8]⟩,
  some ⟨.struct [(0, 2), (1, 3), (2, 4), (3, 6)], 4, 24, [.int .i64, .int .i64, .bool, .int .u8]⟩,
  some ⟨.struct [(0, 2), (1, 3), (2, 4), (3, 6)], 4, 24, [.int .i64, .int .i64, .bool, .int .u8]⟩,
  some ⟨.scalar (.str), 1, 16, [.str]⟩,
  some ⟨.scalar (.str), 1, 16, [.str]⟩,
  some ⟨.scalar (.str), 1, 16, [.str]⟩,
  some ⟨.scalar (.int .u64), 1, 8, [.int .u64]⟩,
  none,
  none,
  some ⟨.scalar (.ptr), 1, 8, [.ptr]⟩,
  some ⟨.scalar (.ptr), 1, 8, [.ptr]⟩,
  some ⟨.scalar (.ptr), 1, 8, [.ptr]⟩,
  none,
  none,
  some ⟨.scalar (.iface), 1, 16, [.iface]⟩,
  some ⟨.scalar (.int .i32), 1, 4, [.int .i32]⟩,
  some ⟨.slice 9, 1, 24, [.sl 1]⟩,
  some ⟨.scalar (.int .i64), 1, 8, [.int .i64]⟩,
  none,
  some ⟨.scalar (.func), 1, 8, [.func]⟩,
  none,
  some ⟨.scalar (.func), 1, 8, [.func]⟩,
  some ⟨.scalar (.func), 1, 8, [.func]⟩,
  some ⟨.scalar (.func), 1, 8, [.func]⟩,
  some ⟨.scalar (.func), 1, 8, [.func]⟩,
  some ⟨.scalar (.func), 1, 8, [.func]⟩,
  some ⟨.scalar (.func), 1, 8, [.func]⟩,
  some ⟨.scalar (.func), 1, 8, [.func]⟩,
  some ⟨.scalar (.func), 1, 8, [.func]⟩,
  some ⟨.map 3 9, 1, 8, [.mp]⟩,
  some ⟨.scalar (.func), 1, 8, [.func]⟩,
  none,
  some ⟨.scalar (.func), 1, 8, [.func]⟩,
  none,
  some ⟨.scalar (.func), 1, 8, [.func]⟩,
  some ⟨.scalar (.func), 1, 8, [.func]⟩,
  some ⟨.scalar (.func), 1, 8, [.func]⟩,
  some ⟨.slice 22, 1, 24, [.sl 1]⟩,
  some ⟨.scalar (.func), 1, 8, [.func]⟩,
  some ⟨.scalar (.func), 1, 8, [.func]⟩,
  some ⟨.scalar (.func), 1, 8, [.func]⟩,
  some ⟨.scalar (.func), 1, 8, [.func]⟩,
  some ⟨.scalar (.func), 1, 8, [.func]⟩,
  some ⟨.scalar (.func), 1, 8, [.func]⟩,
  some ⟨.slice 57, 1, 24, [.sl 2]⟩,
  some ⟨.scalar (.func), 1, 8, [.func]⟩,
  none,
  some ⟨.scalar (.func), 1, 8, [.func]⟩,
  some ⟨.scalar (.func), 1, 8, [.func]⟩,
  some ⟨.scalar (.func), 1, 8, [.func]⟩,
  some ⟨.struct [(0, 4), (1, 9)], 2, 24, [.bool, .str]⟩,
  some ⟨.struct [(0, 4), (1, 9)], 2, 24, [.bool, .str]⟩,
  some ⟨.scalar (.func), 1, 8, [.func]⟩,
  some ⟨.scalar (.func), 1, 8, [.func]⟩,
  some ⟨.scalar (.func), 1, 8, [.func]⟩,
  some ⟨.scalar (.func), 1, 8, [.func]⟩,
  some ⟨.scalar (.func), 1, 8, [.func]⟩,
  some ⟨.scalar (.func), 1, 8, [.func]⟩,
  some ⟨.scalar (.func), 1, 8, [.func]⟩,
  some ⟨.scalar (.func), 1, 8, [.func]⟩,
  some ⟨.scalar (.func), 1, 8, [.func]⟩,
  some ⟨.scalar (.func), 1, 8, [.func]⟩,
  some ⟨.scalar (.func), 1, 8, [.func]⟩,
  some ⟨.scalar (.func), 1, 8, [.func]⟩,
  some ⟨.slice 4, 1, 24, [.sl 1]⟩,
  some ⟨.scalar (.func), 1, 8, [.func]⟩,
  some ⟨.scalar (.ptr), 1, 8, [.ptr]⟩,
  some ⟨.struct [(0, 22), (1, 4)], 2, 32, [.sl 1, .bool]⟩,
  some ⟨.struct [(0, 22), (1, 4)], 2, 32, [.sl 1, .bool]⟩,
  none,
  some ⟨.scalar (.func), 1, 8, [.func]⟩,
  some ⟨.scalar (.func), 1, 8, [.func]⟩,
  some ⟨.slice 81, 1, 24, [.sl 2]⟩,
  some ⟨.scalar (.func), 1, 8, [.func]⟩,
  some ⟨.scalar (.func), 1, 8, [.func]⟩,
  some ⟨.arr 2 3, 2, 16, [.int .i64, .int .i64]⟩,
  none,
  some ⟨.scalar (.func), 1, 8, [.func]⟩,
  some ⟨.scalar (.func), 1, 8, [.func]⟩,
  some ⟨.scalar (.func), 1, 8, [.func]⟩,
  some ⟨.scalar (.func), 1, 8, [.func]⟩,
  some ⟨.arr 24 5, 24, 24, [.int .u8, .int .u8, .int .u8, .int .u8, .int .u8, .int .u8, .int .u8, .int .u8, .int .u8, .int .u8, .int .u8, .int .u8, .int .u8, .int .u8, .int .u8, .int .u8, .int .u8, .int .u8, .int .u8, .int .u8, .int .u8, .int .u8, .int .u8, .int .u8]⟩,
  some ⟨.scalar (.int .u64), 1, 8, [.int .u64]⟩,
  some ⟨.scalar (.func), 1, 8, [.func]⟩,
  some ⟨.scalar (.func), 1, 8, [.func]⟩,
  some ⟨.slice 5, 1, 24, [.sl 1]⟩,
  none,
  some ⟨.scalar (.func), 1, 8, [.func]⟩,
  some ⟨.scalar (.func), 1, 8, [.func]⟩,
  some ⟨.arr 20 88, 20, 160, [.int .u64, .int .u64, .int .u64, .int .u64, .int .u64, .int .u64, .int .u64, .int .u64, .int .u64, .int .u64, .int .u64, .int .u64, .int .u64, .int .u64, .int .u64, .int .u64, .int .u64, .int .u64, .int .u64, .int .u64]⟩,
  some ⟨.scalar (.int .u32), 1, 4, [.int .u32]⟩,
  some ⟨.arr 65 5, 65, 65, [.int .u8, .int .u8, .int .u8, .int .u8, .int .u8, .int .u8, .int .u8, .int .u8, .int .u8, .int .u8, .int .u8, .int .u8, .int .u8, .int .u8, .int .u8, .int .u8, .int .u8, .int .u8, .int .u8, .int .u8, .int .u8, .int .u8, .int .u8, .int .u8, .int .u8, .int .u8, .int .u8, .int .u8, .int .u8, .int .u8, .int .u8, .int .u8, .int .u8, .int .u8, .int .u8, .int .u8, .int .u8, .int .u8, .int .u8, .int .u8, .int .u8, .int .u8, .int .u8, .int .u8, .int .u8, .int .u8, .int .u8, .int .u8, .int .u8, .int .u8, .int .u8, .int .u8, .int .u8, .int .u8, .int .u8, .int .u8, .int .u8, .int .u8, .int .u8, .int .u8, .int .u8, .int .u8, .int .u8, .int .u8, .int .u8]⟩,
  some ⟨.scalar (.func), 1, 8, [.func]⟩,
  some ⟨.scalar (.int .u64), 1, 8, [.int .u64]⟩,
  some ⟨.scalar (.func), 1, 8, [.func]⟩,
  some ⟨.scalar (.func), 1, 8, [.func]⟩,
  some ⟨.arr 32 5, 32, 32, [.int .u8, .int .u8, .int .u8, .int .u8, .int .u8, .int .u8, .int .u8, .int .u8, .int .u8, .int .u8, .int .u8, .int .u8, .int .u8, .int .u8, .int .u8, .int .u8, .int .u8, .int .u8, .int .u8, .int .u8, .int .u8, .int .u8, .int .u8, .int .u8, .int .u8, .int .u8, .int .u8, .int .u8, .int .u8, .int .u8, .int .u8, .int .u8]⟩,
  some ⟨.arr 64 5, 64, 64, [.int .u8, .int .u8, .int .u8, .int .u8, .int .u8, .int .u8, .int .u8, .int .u8, .int .u8, .int .u8, .int .u8, .int .u8, .int .u8, .int .u8, .int .u8, .int .u8, .int .u8, .int .u8, .int .u8, .int .u8, .int .u8, .int .u8, .int .u8, .int .u8, .int .u8, .int .u8, .int .u8, .int .u8, .int .u8, .int .u8, .int .u8, .int .u8, .int .u8, .int .u8, .int .u8, .int .u8, .int .u8, .int .u8, .int .u8, .int .u8, .int .u8, .int .u8, .int .u8, .int .u8, .int .u8, .int .u8, .int .u8, .int .u8, .int .u8, .int .u8, .int .u8, .int .u8, .int .u8, .int .u8, .int .u8, .int .u8, .int .u8, .int .u8, .int .u8, .int .u8, .int .u8, .int .u8, .int .u8, .int .u8]⟩,
  none,
  none,
  some ⟨.arr 0 16, 0, 0, []⟩,
  none,
  none,
  some ⟨.scalar (.func), 1, 8, [.func]⟩,
  some ⟨.scalar (.int .u8), 1, 1, [.int .u8]⟩,
  some ⟨.scalar (.int .u8), 1, 1, [.int .u8]⟩,
  some ⟨.scalar (.func), 1, 8, [.func]⟩,
  some ⟨.scalar (.ptr), 1, 8, [.ptr]⟩,
  some ⟨.scalar (.int .i32), 1, 4, [.int .i32]⟩,
  some ⟨.scalar (.int .i32), 1, 4, [.int .i32]⟩,
  none,
  none,
  none]
abbrev ty : Tab := tabOfL tyL
noncomputable abbrev PG : Program := Tryd.prog
theorem prOk : ProgOk PG ty := progOk_of (by kernel_rfl) (by kernel_rfl) (by kernel_rfl)
abbrev nG : Nat := 3
abbrev f_main_main : Nat := 0
abbrev f_gosem_cut : Nat := 1
abbrev f_gosem_cut_init : Nat := 2
abbrev f_greatseallaw_TreeSays : Nat := 3
abbrev f_greatseallaw_TreeOne : Nat := 4
abbrev f_greatseallaw_TrieTrue : Nat := 5
abbrev f_greatseallaw_TrieSays : Nat := 6
abbrev f_greatseallaw_TrieEach : Nat := 7
abbrev f_greatseallaw_TrieOne : Nat := 8
abbrev f_greatseallaw_PathTrue : Nat := 9
abbrev f_greatseallaw_PathOther : Nat := 10
abbrev f_greatseallaw_GrowTrue : Nat := 11
abbrev f_greatseallaw_GrowOn : Nat := 12
abbrev f_greatseallaw_PathSays : Nat := 13
abbrev f_greatseallaw_GrowSays : Nat := 14
abbrev f_tree_Root : Nat := 15
abbrev f_tree_Half : Nat := 16
abbrev f_greatsealref_RootOf : Nat := 17
abbrev f_greatseallaw_planted : Nat := 18
abbrev f_greatsealref_HalfOf : Nat := 19
abbrev f_slices_Equal_string : Nat := 20
abbrev f_greatseallaw_at : Nat := 21
abbrev f_slices_Clone_string : Nat := 22
abbrev f_trie_Root : Nat := 23
abbrev f_greatseallaw_rooted : Nat := 24
abbrev f_trie_Shows : Nat := 25
abbrev f_trie_Path : Nat := 26
abbrev f_greatsealref_CheckMap : Nat := 27
abbrev f_trie_Check : Nat := 28
abbrev f_greatsealref_MapShows : Nat := 29
abbrev f_greatsealref_MapRoots : Nat := 30
abbrev f_greatsealref_MapPath : Nat := 31
abbrev f_maps_Equal_string : Nat := 32
abbrev f_greatseallaw_pathed : Nat := 33
abbrev f_path_Shows : Nat := 34
abbrev f_path_Of : Nat := 35
abbrev f_slices_Equal_Step : Nat := 36
abbrev f_greatseallaw_grown : Nat := 37
abbrev f_grow_Shows : Nat := 38
abbrev f_grow_Of : Nat := 39
abbrev f_greatsealref_PathOf : Nat := 40
abbrev f_greatsealref_PathShows : Nat := 41
abbrev f_greatsealref_GrowthOf : Nat := 42
abbrev f_greatsealref_GrowthShows : Nat := 43
abbrev f_seal_None : Nat := 44
abbrev f_seal_Leaf : Nat := 45
abbrev f_seal_Node : Nat := 46
abbrev f_greatsealref_RootOf_c1 : Nat := 47
abbrev f_greatsealref_LeafOf : Nat := 48
abbrev f_greatsealref_NodeOf : Nat := 49
abbrev f_trie_root : Nat := 50
abbrev f_greatsealref_in : Nat := 51
abbrev f_path_turns : Nat := 52
abbrev f_path_of : Nat := 53
abbrev f_greatseal_grow_shower_both : Nat := 54
abbrev f_grow_of : Nat := 55
abbrev f_greatsealref_spans : Nat := 56
abbrev f_slices_Reverse_pair : Nat := 57
abbrev f_greatsealref_parts : Nat := 58
abbrev f_strconv_Itoa : Nat := 59
abbrev f_greatseal_grow_shower_last : Nat := 60
abbrev f_greatseal_grow_shower_node : Nat := 61
abbrev f_internal_strconv_Itoa : Nat := 62
abbrev f_internal_strconv_FormatInt : Nat := 63
abbrev f_internal_strconv_small : Nat := 64
abbrev f_internal_strconv_numDigits : Nat := 65
abbrev f_internal_strconv_formatBase10 : Nat := 66
abbrev f_internal_strconv_formatBits : Nat := 67
abbrev f_internal_strconv_log10Pow2 : Nat := 68
abbrev f_math_bits_Len64 : Nat := 69
abbrev f_internal_strconv_bool2_int : Nat := 70
abbrev f_internal_strconv_isPowerOfTwo : Nat := 71
abbrev f_math_bits_TrailingZeros : Nat := 72
abbrev f_math_bits_TrailingZeros32 : Nat := 73
abbrev f_math_bits_TrailingZeros64 : Nat := 74
abbrev f_runtime_boundsError_Error : Nat := 75
abbrev f_runtime_boundsError_RuntimeError : Nat := 76
abbrev f_runtime_errorString_Error : Nat := 77
abbrev f_runtime_errorString_RuntimeError : Nat := 78
abbrev f_runtime_plainError_Error : Nat := 79
abbrev f_runtime_plainError_RuntimeError : Nat := 80
abbrev f_runtime_errorAddressString_Error : Nat := 81
abbrev f_runtime_errorAddressString_RuntimeError : Nat := 82
abbrev f_runtime_TypeAssertionError_Error : Nat := 83
abbrev f_runtime_TypeAssertionError_RuntimeError : Nat := 84
abbrev f_runtime_PanicNilError_Error : Nat := 85
abbrev f_runtime_PanicNilError_RuntimeError : Nat := 86
abbrev f_internal_abi_Type_Align : Nat := 87
abbrev f_internal_runtime_maps_unhashableTypeError_Error : Nat := 88
abbrev f_internal_runtime_maps_unhashableTypeError_RuntimeError : Nat := 89
abbrev f_internal_abi_Kind_String : Nat := 90
abbrev f_gosem_cut_vars : Nat := 96
end Go.Ab

namespace Go.Proofs
open Go.Shelf
def Tryd.lays129_ren : Go.Shelf.Ren := ⟨fun | 129 => 69 | n => n, fun | 53 => 88 | 3 => 3 | 4 => 4 | 46 => 99 | 5 => 5 | 9 => 9 | n => n, fun | n => n⟩
theorem Tryd.lays129 : Go.Proofs.Lays.n129 Tryd.prog Tryd.lays129_ren := {
  mixed := by kernel_rfl
  f129 := Tryd.func69.trans (congrArg some (by kernel_rfl))
  t3 := Tryd.underlying3
  a3 := Tryd.isAgg3
  z3 := Tryd.sizeOf3
  v3 := Tryd.zeroValue3
  t4 := Tryd.underlying4
  a4 := Tryd.isAgg4
  z4 := Tryd.sizeOf4
  v4 := Tryd.zeroValue4
  t5 := Tryd.underlying5
  a5 := Tryd.isAgg5
  z5 := Tryd.sizeOf5
  v5 := Tryd.zeroValue5
  t9 := Tryd.underlying9
  a9 := Tryd.isAgg9
  z9 := Tryd.sizeOf9
  v9 := Tryd.zeroValue9
  t46 := Tryd.underlying99
  a46 := Tryd.isAgg99
  z46 := Tryd.sizeOf99
  v46 := Tryd.zeroValue99
  t53 := Tryd.underlying88
  a53 := Tryd.isAgg88
  z53 := Tryd.sizeOf88
  v53 := Tryd.zeroValue88 }
theorem Tryd.bits_Len64 (x : Int) (w : World) (h0 : 0 ≤ x) (h1 : x ≤ 18446744073709551615) :
    Calls Tryd.prog 69 #[.int .u64 x] w fun e w' => e = .returned (.int .i64 (Lib.bitLen x.toNat)) ∧ w' = w := Any.bits_Len64 Tryd.lays129 x w h0 h1
def Tryd.lays317_ren : Go.Shelf.Ren := ⟨fun | 317 => 68 | n => n, fun | 3 => 3 | 46 => 99 | n => n, fun | n => n⟩
theorem Tryd.lays317 : Go.Proofs.Lays.n317 Tryd.prog Tryd.lays317_ren := {
  mixed := by kernel_rfl
  f317 := Tryd.func68.trans (congrArg some (by kernel_rfl))
  t3 := Tryd.underlying3
  a3 := Tryd.isAgg3
  z3 := Tryd.sizeOf3
  v3 := Tryd.zeroValue3
  t46 := Tryd.underlying99
  a46 := Tryd.isAgg99
  z46 := Tryd.sizeOf99
  v46 := Tryd.zeroValue99 }
open Go.Lib in
theorem Tryd.internal_strconv_log10Pow2 (x : Nat) (h : x ≤ 64) (w : World) :
    Calls Tryd.prog 68 #[.int .i64 x] w fun e w' => e = .returned (.int .i64 (Lib.l10 x)) ∧ w' = w := Any.internal_strconv_log10Pow2 Tryd.lays317 x h w
def Tryd.lays318_ren : Go.Shelf.Ren := ⟨fun | 318 => 70 | n => n, fun | 3 => 3 | 4 => 4 | n => n, fun | n => n⟩
theorem Tryd.lays318 : Go.Proofs.Lays.n318 Tryd.prog Tryd.lays318_ren := {
  mixed := by kernel_rfl
  f318 := Tryd.func70.trans (congrArg some (by kernel_rfl))
  t3 := Tryd.underlying3
  a3 := Tryd.isAgg3
  z3 := Tryd.sizeOf3
  v3 := Tryd.zeroValue3
  t4 := Tryd.underlying4
  a4 := Tryd.isAgg4
  z4 := Tryd.sizeOf4
  v4 := Tryd.zeroValue4 }
open Go.Lib in
theorem Tryd.internal_strconv_bool2_int (b : Bool) (w : World) :
    Calls Tryd.prog 70 #[.bool b] w fun e w' => e = .returned (.int .i64 (if b then 1 else 0)) ∧ w' = w := Any.internal_strconv_bool2_int Tryd.lays318 b w
def Tryd.lays283_ren : Go.Shelf.Ren := ⟨fun | 283 => 64 | n => n, fun | 3 => 3 | 9 => 9 | 4 => 4 | n => n, fun | n => n⟩
theorem Tryd.lays283 : Go.Proofs.Lays.n283 Tryd.prog Tryd.lays283_ren := {
  mixed := by kernel_rfl
  f283 := Tryd.func64.trans (congrArg some (by kernel_rfl))
  t3 := Tryd.underlying3
  a3 := Tryd.isAgg3
  z3 := Tryd.sizeOf3
  v3 := Tryd.zeroValue3
  t4 := Tryd.underlying4
  a4 := Tryd.isAgg4
  z4 := Tryd.sizeOf4
  v4 := Tryd.zeroValue4
  t9 := Tryd.underlying9
  a9 := Tryd.isAgg9
  z9 := Tryd.sizeOf9
  v9 := Tryd.zeroValue9 }
open Go.Lib in
theorem Tryd.internal_strconv_small (i : Nat) (h : i < 100) (w : World) :
    Calls Tryd.prog 64 #[.int .i64 i] w fun e w' => e = .returned (.string ⟨(Lib.decDigits i).toArray⟩) ∧ w' = w := Any.internal_strconv_small Tryd.lays283 i h w
def Tryd.laysM284_ren : Go.Shelf.Ren := ⟨fun | 284 => 65 | 129 => 69 | 317 => 68 | 318 => 70 | n => n, fun | 53 => 88 | 3 => 3 | 212 => 95 | 0 => 0 | 4 => 4 | 46 => 99 | 5 => 5 | 9 => 9 | n => n, fun | 17 => 0 | n => n⟩
theorem Tryd.laysM284 : Go.Proofs.LaysM.n284 Tryd.prog Tryd.laysM284_ren := {
  mixed := by kernel_rfl
  f129 := Tryd.func69.trans (congrArg some (by kernel_rfl))
  f284 := Tryd.func65.trans (congrArg some (by kernel_rfl))
  f317 := Tryd.func68.trans (congrArg some (by kernel_rfl))
  f318 := Tryd.func70.trans (congrArg some (by kernel_rfl))
  t0 := Tryd.underlying0
  a0 := Tryd.isAgg0
  z0 := Tryd.sizeOf0
  v0 := Tryd.zeroValue0
  t3 := Tryd.underlying3
  a3 := Tryd.isAgg3
  z3 := Tryd.sizeOf3
  v3 := Tryd.zeroValue3
  t4 := Tryd.underlying4
  a4 := Tryd.isAgg4
  z4 := Tryd.sizeOf4
  v4 := Tryd.zeroValue4
  t5 := Tryd.underlying5
  a5 := Tryd.isAgg5
  z5 := Tryd.sizeOf5
  v5 := Tryd.zeroValue5
  t9 := Tryd.underlying9
  a9 := Tryd.isAgg9
  z9 := Tryd.sizeOf9
  v9 := Tryd.zeroValue9
  t46 := Tryd.underlying99
  a46 := Tryd.isAgg99
  z46 := Tryd.sizeOf99
  v46 := Tryd.zeroValue99
  t53 := Tryd.underlying88
  a53 := Tryd.isAgg88
  z53 := Tryd.sizeOf88
  v53 := Tryd.zeroValue88
  t212 := Tryd.underlying95
  a212 := Tryd.isAgg95
  z212 := Tryd.sizeOf95
  v212 := Tryd.zeroValue95
  g17 := by kernel_rfl
  i0 := by kernel_rfl
  i3 := by kernel_rfl
  i4 := by kernel_rfl
  i5 := by kernel_rfl
  i9 := by kernel_rfl
  i46 := by kernel_rfl
  i53 := by kernel_rfl
  i212 := by kernel_rfl
  m17 := by kernel_rfl }
open Go.Lib in
/-- internal/strconv.numDigits, at a d that is not 0: THE NUMBER OF d's DECIMAL DIGITS. The world is as it was. (LAID: no walk: one application.) -/
theorem Tryd.internal_strconv_numDigits (u : Nat) (h1 : 1 ≤ u) (h2 : u < 18446744073709551616) (w : World) (htab : Lib.TabIs Tryd.prog w "internal/strconv.uint64pow10" .u64 Lib.pow10Tab) :
    Calls Tryd.prog 65 #[.int .u64 u] w fun e w' => e = .returned (.int .i64 (Lib.nDigits u)) ∧ w' = w := Any.internal_strconv_numDigits Tryd.laysM284 u h1 h2 w htab
def Tryd.lays285_ren : Go.Shelf.Ren := ⟨fun | 285 => 66 | n => n, fun | 37 => 91 | 53 => 88 | 3 => 3 | 4 => 4 | 51 => 96 | 9 => 9 | 5 => 5 | 0 => 0 | n => n, fun | n => n⟩
theorem Tryd.lays285 : Go.Proofs.Lays.n285 Tryd.prog Tryd.lays285_ren := {
  mixed := by kernel_rfl
  f285 := Tryd.func66.trans (congrArg some (by kernel_rfl))
  t0 := Tryd.underlying0
  a0 := Tryd.isAgg0
  z0 := Tryd.sizeOf0
  v0 := Tryd.zeroValue0
  t3 := Tryd.underlying3
  a3 := Tryd.isAgg3
  z3 := Tryd.sizeOf3
  v3 := Tryd.zeroValue3
  t4 := Tryd.underlying4
  a4 := Tryd.isAgg4
  z4 := Tryd.sizeOf4
  v4 := Tryd.zeroValue4
  t5 := Tryd.underlying5
  a5 := Tryd.isAgg5
  z5 := Tryd.sizeOf5
  v5 := Tryd.zeroValue5
  t9 := Tryd.underlying9
  a9 := Tryd.isAgg9
  z9 := Tryd.sizeOf9
  v9 := Tryd.zeroValue9
  t37 := Tryd.underlying91
  a37 := Tryd.isAgg91
  z37 := Tryd.sizeOf91
  v37 := Tryd.zeroValue91
  t51 := Tryd.underlying96
  a51 := Tryd.isAgg96
  z51 := Tryd.sizeOf96
  v51 := Tryd.zeroValue96
  t53 := Tryd.underlying88
  a53 := Tryd.isAgg88
  z53 := Tryd.sizeOf88
  v53 := Tryd.zeroValue88 }
open Go.RowKit Go.Sort Go.Lib in
theorem Tryd.internal_strconv_formatBase10 (blk off cap : Nat) (u : Nat) (d : Array UInt8) (w : World) (hH : Holds (fun (b : UInt8) => Value.int .u8 (b.toNat : Int)) w blk off d) (hu : u < 10 ^ d.size) (hu64 : u < 18446744073709551616) (hsz : d.size < 4611686018427387904) :
    Calls Tryd.prog 66 #[.slice (some ⟨blk, off, none⟩) d.size cap, .int .u64 u] w fun e w' =>
      e = .returned (.tuple #[]) ∧ ∃ (n v' : Nat) (dk : Array UInt8), w' = (putRow (fun (b : UInt8) => Value.int .u8 (b.toNat : Int)) w blk off dk).drewN n ∧ FmtInv d.size u 0 v' dk := Any.internal_strconv_formatBase10 Tryd.lays285 blk off cap u d w hH hu hu64 hsz
def Tryd.laysM246_ren : Go.Shelf.Ren := ⟨fun | 246 => 63 | 283 => 64 | 284 => 65 | 285 => 66 | 286 => 67 | 129 => 69 | 317 => 68 | 318 => 70 | 319 => 71 | 320 => 72 | 337 => 73 | 338 => 74 | n => n, fun | 2 => 2 | 3 => 3 | 9 => 9 | 4 => 4 | 171 => 87 | 0 => 0 | 53 => 88 | 37 => 91 | 5 => 5 | 173 => 92 | 212 => 95 | 51 => 96 | 20 => 20 | 213 => 97 | 46 => 99 | 232 => 102 | 233 => 103 | n => n, fun | 17 => 0 | 18 => 1 | 19 => 2 | n => n⟩
theorem Tryd.laysM246 : Go.Proofs.LaysM.n246 Tryd.prog Tryd.laysM246_ren := {
  mixed := by kernel_rfl
  f129 := Tryd.func69.trans (congrArg some (by kernel_rfl))
  f246 := Tryd.func63.trans (congrArg some (by kernel_rfl))
  f283 := Tryd.func64.trans (congrArg some (by kernel_rfl))
  f284 := Tryd.func65.trans (congrArg some (by kernel_rfl))
  f285 := Tryd.func66.trans (congrArg some (by kernel_rfl))
  f286 := Tryd.func67.trans (congrArg some (by kernel_rfl))
  f317 := Tryd.func68.trans (congrArg some (by kernel_rfl))
  f318 := Tryd.func70.trans (congrArg some (by kernel_rfl))
  f319 := Tryd.func71.trans (congrArg some (by kernel_rfl))
  f320 := Tryd.func72.trans (congrArg some (by kernel_rfl))
  f337 := Tryd.func73.trans (congrArg some (by kernel_rfl))
  f338 := Tryd.func74.trans (congrArg some (by kernel_rfl))
  t0 := Tryd.underlying0
  a0 := Tryd.isAgg0
  z0 := Tryd.sizeOf0
  v0 := Tryd.zeroValue0
  t2 := Tryd.underlying2
  a2 := Tryd.isAgg2
  z2 := Tryd.sizeOf2
  v2 := Tryd.zeroValue2
  t3 := Tryd.underlying3
  a3 := Tryd.isAgg3
  z3 := Tryd.sizeOf3
  v3 := Tryd.zeroValue3
  t4 := Tryd.underlying4
  a4 := Tryd.isAgg4
  z4 := Tryd.sizeOf4
  v4 := Tryd.zeroValue4
  t5 := Tryd.underlying5
  a5 := Tryd.isAgg5
  z5 := Tryd.sizeOf5
  v5 := Tryd.zeroValue5
  t9 := Tryd.underlying9
  a9 := Tryd.isAgg9
  z9 := Tryd.sizeOf9
  v9 := Tryd.zeroValue9
  t20 := Tryd.underlying20
  a20 := Tryd.isAgg20
  z20 := Tryd.sizeOf20
  v20 := Tryd.zeroValue20
  t37 := Tryd.underlying91
  a37 := Tryd.isAgg91
  z37 := Tryd.sizeOf91
  v37 := Tryd.zeroValue91
  t46 := Tryd.underlying99
  a46 := Tryd.isAgg99
  z46 := Tryd.sizeOf99
  v46 := Tryd.zeroValue99
  t51 := Tryd.underlying96
  a51 := Tryd.isAgg96
  z51 := Tryd.sizeOf96
  v51 := Tryd.zeroValue96
  t53 := Tryd.underlying88
  a53 := Tryd.isAgg88
  z53 := Tryd.sizeOf88
  v53 := Tryd.zeroValue88
  t171 := Tryd.underlying87
  a171 := Tryd.isAgg87
  z171 := Tryd.sizeOf87
  v171 := Tryd.zeroValue87
  t173 := Tryd.underlying92
  a173 := Tryd.isAgg92
  z173 := Tryd.sizeOf92
  v173 := Tryd.zeroValue92
  t212 := Tryd.underlying95
  a212 := Tryd.isAgg95
  z212 := Tryd.sizeOf95
  v212 := Tryd.zeroValue95
  t213 := Tryd.underlying97
  a213 := Tryd.isAgg97
  z213 := Tryd.sizeOf97
  t232 := Tryd.underlying102
  a232 := Tryd.isAgg102
  z232 := Tryd.sizeOf102
  v232 := Tryd.zeroValue102
  t233 := Tryd.underlying103
  a233 := Tryd.isAgg103
  z233 := Tryd.sizeOf103
  v233 := Tryd.zeroValue103
  g17 := by kernel_rfl
  g18 := by kernel_rfl
  g19 := by kernel_rfl
  i0 := by kernel_rfl
  i2 := by kernel_rfl
  i3 := by kernel_rfl
  i4 := by kernel_rfl
  i5 := by kernel_rfl
  i9 := by kernel_rfl
  i20 := by kernel_rfl
  i37 := by kernel_rfl
  i46 := by kernel_rfl
  i51 := by kernel_rfl
  i53 := by kernel_rfl
  i171 := by kernel_rfl
  i173 := by kernel_rfl
  i212 := by kernel_rfl
  i232 := by kernel_rfl
  i233 := by kernel_rfl
  m17 := by kernel_rfl
  m18 := by kernel_rfl
  m19 := by kernel_rfl }
open Go.RowKit Go.Sort Go.Lib in
theorem Tryd.internal_strconv_FormatInt_10 (n : Int) (h0 : -9223372036854775808 ≤ n) (h1 : n ≤ 9223372036854775807) (w : World) (htab : Lib.TabIs Tryd.prog w "internal/strconv.uint64pow10" .u64 Lib.pow10Tab) :
    Calls Tryd.prog 63 #[.int .i64 n, .int .i64 10] w fun e w' => e = .returned (.string ⟨(Lib.itoa n).toArray⟩) ∧ ∃ k os, w' = grow (w.drewN k) os := Any.internal_strconv_FormatInt_10 Tryd.laysM246 n h0 h1 w htab
def Tryd.lays246_ren : Go.Shelf.Ren := ⟨fun | 246 => 63 | 283 => 64 | 284 => 65 | 285 => 66 | 286 => 67 | 129 => 69 | 317 => 68 | 318 => 70 | 319 => 71 | 320 => 72 | 337 => 73 | 338 => 74 | n => n, fun | 2 => 2 | 3 => 3 | 9 => 9 | 4 => 4 | 171 => 87 | 0 => 0 | 53 => 88 | 37 => 91 | 5 => 5 | 173 => 92 | 212 => 95 | 51 => 96 | 20 => 20 | 213 => 97 | 46 => 99 | 232 => 102 | 233 => 103 | n => n, fun | 17 => 0 | 18 => 1 | 19 => 2 | n => n⟩
theorem Tryd.lays246 : Go.Proofs.Lays.n246 Tryd.prog Tryd.lays246_ren := {
  mixed := by kernel_rfl
  f129 := Tryd.func69.trans (congrArg some (by kernel_rfl))
  f246 := Tryd.func63.trans (congrArg some (by kernel_rfl))
  f283 := Tryd.func64.trans (congrArg some (by kernel_rfl))
  f284 := Tryd.func65.trans (congrArg some (by kernel_rfl))
  f285 := Tryd.func66.trans (congrArg some (by kernel_rfl))
  f286 := Tryd.func67.trans (congrArg some (by kernel_rfl))
  f317 := Tryd.func68.trans (congrArg some (by kernel_rfl))
  f318 := Tryd.func70.trans (congrArg some (by kernel_rfl))
  f319 := Tryd.func71.trans (congrArg some (by kernel_rfl))
  f320 := Tryd.func72.trans (congrArg some (by kernel_rfl))
  f337 := Tryd.func73.trans (congrArg some (by kernel_rfl))
  f338 := Tryd.func74.trans (congrArg some (by kernel_rfl))
  t0 := Tryd.underlying0
  a0 := Tryd.isAgg0
  z0 := Tryd.sizeOf0
  v0 := Tryd.zeroValue0
  t2 := Tryd.underlying2
  a2 := Tryd.isAgg2
  z2 := Tryd.sizeOf2
  v2 := Tryd.zeroValue2
  t3 := Tryd.underlying3
  a3 := Tryd.isAgg3
  z3 := Tryd.sizeOf3
  v3 := Tryd.zeroValue3
  t4 := Tryd.underlying4
  a4 := Tryd.isAgg4
  z4 := Tryd.sizeOf4
  v4 := Tryd.zeroValue4
  t5 := Tryd.underlying5
  a5 := Tryd.isAgg5
  z5 := Tryd.sizeOf5
  v5 := Tryd.zeroValue5
  t9 := Tryd.underlying9
  a9 := Tryd.isAgg9
  z9 := Tryd.sizeOf9
  v9 := Tryd.zeroValue9
  t20 := Tryd.underlying20
  a20 := Tryd.isAgg20
  z20 := Tryd.sizeOf20
  v20 := Tryd.zeroValue20
  t37 := Tryd.underlying91
  a37 := Tryd.isAgg91
  z37 := Tryd.sizeOf91
  v37 := Tryd.zeroValue91
  t46 := Tryd.underlying99
  a46 := Tryd.isAgg99
  z46 := Tryd.sizeOf99
  v46 := Tryd.zeroValue99
  t51 := Tryd.underlying96
  a51 := Tryd.isAgg96
  z51 := Tryd.sizeOf96
  v51 := Tryd.zeroValue96
  t53 := Tryd.underlying88
  a53 := Tryd.isAgg88
  z53 := Tryd.sizeOf88
  v53 := Tryd.zeroValue88
  t171 := Tryd.underlying87
  a171 := Tryd.isAgg87
  z171 := Tryd.sizeOf87
  v171 := Tryd.zeroValue87
  t173 := Tryd.underlying92
  a173 := Tryd.isAgg92
  z173 := Tryd.sizeOf92
  v173 := Tryd.zeroValue92
  t212 := Tryd.underlying95
  a212 := Tryd.isAgg95
  z212 := Tryd.sizeOf95
  v212 := Tryd.zeroValue95
  t213 := Tryd.underlying97
  a213 := Tryd.isAgg97
  z213 := Tryd.sizeOf97
  t232 := Tryd.underlying102
  a232 := Tryd.isAgg102
  z232 := Tryd.sizeOf102
  v232 := Tryd.zeroValue102
  t233 := Tryd.underlying103
  a233 := Tryd.isAgg103
  z233 := Tryd.sizeOf103
  v233 := Tryd.zeroValue103
  g17 := by kernel_rfl
  g18 := by kernel_rfl
  g19 := by kernel_rfl }
open Go.RowKit Go.Sort Go.Lib in
/-- THE ROAD WITHOUT THE TABLE: 0 <= i < 100: two constants are read, nothing is laid: no premise on the world, and the world is as it was. (LAID: no walk: one application.) -/
theorem Tryd.internal_strconv_FormatInt_10_small (i : Nat) (hi : i < 100) (w : World) :
    Calls Tryd.prog 63 #[.int .i64 i, .int .i64 10] w fun e w' => e = .returned (.string ⟨(Lib.decDigits i).toArray⟩) ∧ w' = w := Any.internal_strconv_FormatInt_10_small Tryd.lays246 i hi w
def Tryd.laysM243_ren : Go.Shelf.Ren := ⟨fun | 243 => 62 | 246 => 63 | 283 => 64 | 284 => 65 | 285 => 66 | 286 => 67 | 129 => 69 | 317 => 68 | 318 => 70 | 319 => 71 | 320 => 72 | 337 => 73 | 338 => 74 | n => n, fun | 3 => 3 | 9 => 9 | 2 => 2 | 4 => 4 | 171 => 87 | 0 => 0 | 53 => 88 | 37 => 91 | 5 => 5 | 173 => 92 | 212 => 95 | 51 => 96 | 20 => 20 | 213 => 97 | 46 => 99 | 232 => 102 | 233 => 103 | n => n, fun | 17 => 0 | 18 => 1 | 19 => 2 | n => n⟩
theorem Tryd.laysM243 : Go.Proofs.LaysM.n243 Tryd.prog Tryd.laysM243_ren := {
  mixed := by kernel_rfl
  f129 := Tryd.func69.trans (congrArg some (by kernel_rfl))
  f243 := Tryd.func62.trans (congrArg some (by kernel_rfl))
  f246 := Tryd.func63.trans (congrArg some (by kernel_rfl))
  f283 := Tryd.func64.trans (congrArg some (by kernel_rfl))
  f284 := Tryd.func65.trans (congrArg some (by kernel_rfl))
  f285 := Tryd.func66.trans (congrArg some (by kernel_rfl))
  f286 := Tryd.func67.trans (congrArg some (by kernel_rfl))
  f317 := Tryd.func68.trans (congrArg some (by kernel_rfl))
  f318 := Tryd.func70.trans (congrArg some (by kernel_rfl))
  f319 := Tryd.func71.trans (congrArg some (by kernel_rfl))
  f320 := Tryd.func72.trans (congrArg some (by kernel_rfl))
  f337 := Tryd.func73.trans (congrArg some (by kernel_rfl))
  f338 := Tryd.func74.trans (congrArg some (by kernel_rfl))
  t0 := Tryd.underlying0
  a0 := Tryd.isAgg0
  z0 := Tryd.sizeOf0
  v0 := Tryd.zeroValue0
  t2 := Tryd.underlying2
  a2 := Tryd.isAgg2
  z2 := Tryd.sizeOf2
  v2 := Tryd.zeroValue2
  t3 := Tryd.underlying3
  a3 := Tryd.isAgg3
  z3 := Tryd.sizeOf3
  v3 := Tryd.zeroValue3
  t4 := Tryd.underlying4
  a4 := Tryd.isAgg4
  z4 := Tryd.sizeOf4
  v4 := Tryd.zeroValue4
  t5 := Tryd.underlying5
  a5 := Tryd.isAgg5
  z5 := Tryd.sizeOf5
  v5 := Tryd.zeroValue5
  t9 := Tryd.underlying9
  a9 := Tryd.isAgg9
  z9 := Tryd.sizeOf9
  v9 := Tryd.zeroValue9
  t20 := Tryd.underlying20
  a20 := Tryd.isAgg20
  z20 := Tryd.sizeOf20
  v20 := Tryd.zeroValue20
  t37 := Tryd.underlying91
  a37 := Tryd.isAgg91
  z37 := Tryd.sizeOf91
  v37 := Tryd.zeroValue91
  t46 := Tryd.underlying99
  a46 := Tryd.isAgg99
  z46 := Tryd.sizeOf99
  v46 := Tryd.zeroValue99
  t51 := Tryd.underlying96
  a51 := Tryd.isAgg96
  z51 := Tryd.sizeOf96
  v51 := Tryd.zeroValue96
  t53 := Tryd.underlying88
  a53 := Tryd.isAgg88
  z53 := Tryd.sizeOf88
  v53 := Tryd.zeroValue88
  t171 := Tryd.underlying87
  a171 := Tryd.isAgg87
  z171 := Tryd.sizeOf87
  v171 := Tryd.zeroValue87
  t173 := Tryd.underlying92
  a173 := Tryd.isAgg92
  z173 := Tryd.sizeOf92
  v173 := Tryd.zeroValue92
  t212 := Tryd.underlying95
  a212 := Tryd.isAgg95
  z212 := Tryd.sizeOf95
  v212 := Tryd.zeroValue95
  t213 := Tryd.underlying97
  a213 := Tryd.isAgg97
  z213 := Tryd.sizeOf97
  t232 := Tryd.underlying102
  a232 := Tryd.isAgg102
  z232 := Tryd.sizeOf102
  v232 := Tryd.zeroValue102
  t233 := Tryd.underlying103
  a233 := Tryd.isAgg103
  z233 := Tryd.sizeOf103
  v233 := Tryd.zeroValue103
  g17 := by kernel_rfl
  g18 := by kernel_rfl
  g19 := by kernel_rfl
  i0 := by kernel_rfl
  i2 := by kernel_rfl
  i3 := by kernel_rfl
  i4 := by kernel_rfl
  i5 := by kernel_rfl
  i9 := by kernel_rfl
  i20 := by kernel_rfl
  i37 := by kernel_rfl
  i46 := by kernel_rfl
  i51 := by kernel_rfl
  i53 := by kernel_rfl
  i171 := by kernel_rfl
  i173 := by kernel_rfl
  i212 := by kernel_rfl
  i232 := by kernel_rfl
  i233 := by kernel_rfl
  m17 := by kernel_rfl
  m18 := by kernel_rfl
  m19 := by kernel_rfl }
open Go.RowKit Go.Sort Go.Lib in
theorem Tryd.internal_strconv_Itoa (n : Int) (h0 : -9223372036854775808 ≤ n) (h1 : n ≤ 9223372036854775807) (w : World) (htab : Lib.TabIs Tryd.prog w "internal/strconv.uint64pow10" .u64 Lib.pow10Tab) :
    Calls Tryd.prog 62 #[.int .i64 n] w fun e w' => e = .returned (.string ⟨(Lib.itoa n).toArray⟩) ∧ ∃ k os, w' = grow (w.drewN k) os := Any.internal_strconv_Itoa Tryd.laysM243 n h0 h1 w htab
def Tryd.lays243_ren : Go.Shelf.Ren := ⟨fun | 243 => 62 | 246 => 63 | 283 => 64 | 284 => 65 | 285 => 66 | 286 => 67 | 129 => 69 | 317 => 68 | 318 => 70 | 319 => 71 | 320 => 72 | 337 => 73 | 338 => 74 | n => n, fun | 3 => 3 | 9 => 9 | 2 => 2 | 4 => 4 | 171 => 87 | 0 => 0 | 53 => 88 | 37 => 91 | 5 => 5 | 173 => 92 | 212 => 95 | 51 => 96 | 20 => 20 | 213 => 97 | 46 => 99 | 232 => 102 | 233 => 103 | n => n, fun | 17 => 0 | 18 => 1 | 19 => 2 | n => n⟩
theorem Tryd.lays243 : Go.Proofs.Lays.n243 Tryd.prog Tryd.lays243_ren := {
  mixed := by kernel_rfl
  f129 := Tryd.func69.trans (congrArg some (by kernel_rfl))
  f243 := Tryd.func62.trans (congrArg some (by kernel_rfl))
  f246 := Tryd.func63.trans (congrArg some (by kernel_rfl))
  f283 := Tryd.func64.trans (congrArg some (by kernel_rfl))
  f284 := Tryd.func65.trans (congrArg some (by kernel_rfl))
  f285 := Tryd.func66.trans (congrArg some (by kernel_rfl))
  f286 := Tryd.func67.trans (congrArg some (by kernel_rfl))
  f317 := Tryd.func68.trans (congrArg some (by kernel_rfl))
  f318 := Tryd.func70.trans (congrArg some (by kernel_rfl))
  f319 := Tryd.func71.trans (congrArg some (by kernel_rfl))
  f320 := Tryd.func72.trans (congrArg some (by kernel_rfl))
  f337 := Tryd.func73.trans (congrArg some (by kernel_rfl))
  f338 := Tryd.func74.trans (congrArg some (by kernel_rfl))
  t0 := Tryd.underlying0
  a0 := Tryd.isAgg0
  z0 := Tryd.sizeOf0
  v0 := Tryd.zeroValue0
  t2 := Tryd.underlying2
  a2 := Tryd.isAgg2
  z2 := Tryd.sizeOf2
  v2 := Tryd.zeroValue2
  t3 := Tryd.underlying3
  a3 := Tryd.isAgg3
  z3 := Tryd.sizeOf3
  v3 := Tryd.zeroValue3
  t4 := Tryd.underlying4
  a4 := Tryd.isAgg4
  z4 := Tryd.sizeOf4
  v4 := Tryd.zeroValue4
  t5 := Tryd.underlying5
  a5 := Tryd.isAgg5
  z5 := Tryd.sizeOf5
  v5 := Tryd.zeroValue5
  t9 := Tryd.underlying9
  a9 := Tryd.isAgg9
  z9 := Tryd.sizeOf9
  v9 := Tryd.zeroValue9
  t20 := Tryd.underlying20
  a20 := Tryd.isAgg20
  z20 := Tryd.sizeOf20
  v20 := Tryd.zeroValue20
  t37 := Tryd.underlying91
  a37 := Tryd.isAgg91
  z37 := Tryd.sizeOf91
  v37 := Tryd.zeroValue91
  t46 := Tryd.underlying99
  a46 := Tryd.isAgg99
  z46 := Tryd.sizeOf99
  v46 := Tryd.zeroValue99
  t51 := Tryd.underlying96
  a51 := Tryd.isAgg96
  z51 := Tryd.sizeOf96
  v51 := Tryd.zeroValue96
  t53 := Tryd.underlying88
  a53 := Tryd.isAgg88
  z53 := Tryd.sizeOf88
  v53 := Tryd.zeroValue88
  t171 := Tryd.underlying87
  a171 := Tryd.isAgg87
  z171 := Tryd.sizeOf87
  v171 := Tryd.zeroValue87
  t173 := Tryd.underlying92
  a173 := Tryd.isAgg92
  z173 := Tryd.sizeOf92
  v173 := Tryd.zeroValue92
  t212 := Tryd.underlying95
  a212 := Tryd.isAgg95
  z212 := Tryd.sizeOf95
  v212 := Tryd.zeroValue95
  t213 := Tryd.underlying97
  a213 := Tryd.isAgg97
  z213 := Tryd.sizeOf97
  t232 := Tryd.underlying102
  a232 := Tryd.isAgg102
  z232 := Tryd.sizeOf102
  v232 := Tryd.zeroValue102
  t233 := Tryd.underlying103
  a233 := Tryd.isAgg103
  z233 := Tryd.sizeOf103
  v233 := Tryd.zeroValue103
  g17 := by kernel_rfl
  g18 := by kernel_rfl
  g19 := by kernel_rfl }
open Go.RowKit Go.Sort Go.Lib in
/-- THE ROAD WITHOUT THE TABLE: 0 <= i < 100. (LAID: no walk: one application.) -/
theorem Tryd.internal_strconv_Itoa_small (i : Nat) (hi : i < 100) (w : World) :
    Calls Tryd.prog 62 #[.int .i64 i] w fun e w' => e = .returned (.string ⟨(Lib.decDigits i).toArray⟩) ∧ w' = w := Any.internal_strconv_Itoa_small Tryd.lays243 i hi w
def Tryd.laysM171_ren : Go.Shelf.Ren := ⟨fun | 171 => 59 | 243 => 62 | 246 => 63 | 283 => 64 | 284 => 65 | 285 => 66 | 286 => 67 | 129 => 69 | 317 => 68 | 318 => 70 | 319 => 71 | 320 => 72 | 337 => 73 | 338 => 74 | n => n, fun | 3 => 3 | 9 => 9 | 2 => 2 | 4 => 4 | 171 => 87 | 0 => 0 | 53 => 88 | 37 => 91 | 5 => 5 | 173 => 92 | 212 => 95 | 51 => 96 | 20 => 20 | 213 => 97 | 46 => 99 | 232 => 102 | 233 => 103 | n => n, fun | 17 => 0 | 18 => 1 | 19 => 2 | n => n⟩
theorem Tryd.laysM171 : Go.Proofs.LaysM.n171 Tryd.prog Tryd.laysM171_ren := {
  mixed := by kernel_rfl
  f129 := Tryd.func69.trans (congrArg some (by kernel_rfl))
  f171 := Tryd.func59.trans (congrArg some (by kernel_rfl))
  f243 := Tryd.func62.trans (congrArg some (by kernel_rfl))
  f246 := Tryd.func63.trans (congrArg some (by kernel_rfl))
  f283 := Tryd.func64.trans (congrArg some (by kernel_rfl))
  f284 := Tryd.func65.trans (congrArg some (by kernel_rfl))
  f285 := Tryd.func66.trans (congrArg some (by kernel_rfl))
  f286 := Tryd.func67.trans (congrArg some (by kernel_rfl))
  f317 := Tryd.func68.trans (congrArg some (by kernel_rfl))
  f318 := Tryd.func70.trans (congrArg some (by kernel_rfl))
  f319 := Tryd.func71.trans (congrArg some (by kernel_rfl))
  f320 := Tryd.func72.trans (congrArg some (by kernel_rfl))
  f337 := Tryd.func73.trans (congrArg some (by kernel_rfl))
  f338 := Tryd.func74.trans (congrArg some (by kernel_rfl))
  t0 := Tryd.underlying0
  a0 := Tryd.isAgg0
  z0 := Tryd.sizeOf0
  v0 := Tryd.zeroValue0
  t2 := Tryd.underlying2
  a2 := Tryd.isAgg2
  z2 := Tryd.sizeOf2
  v2 := Tryd.zeroValue2
  t3 := Tryd.underlying3
  a3 := Tryd.isAgg3
  z3 := Tryd.sizeOf3
  v3 := Tryd.zeroValue3
  t4 := Tryd.underlying4
  a4 := Tryd.isAgg4
  z4 := Tryd.sizeOf4
  v4 := Tryd.zeroValue4
  t5 := Tryd.underlying5
  a5 := Tryd.isAgg5
  z5 := Tryd.sizeOf5
  v5 := Tryd.zeroValue5
  t9 := Tryd.underlying9
  a9 := Tryd.isAgg9
  z9 := Tryd.sizeOf9
  v9 := Tryd.zeroValue9
  t20 := Tryd.underlying20
  a20 := Tryd.isAgg20
  z20 := Tryd.sizeOf20
  v20 := Tryd.zeroValue20
  t37 := Tryd.underlying91
  a37 := Tryd.isAgg91
  z37 := Tryd.sizeOf91
  v37 := Tryd.zeroValue91
  t46 := Tryd.underlying99
  a46 := Tryd.isAgg99
  z46 := Tryd.sizeOf99
  v46 := Tryd.zeroValue99
  t51 := Tryd.underlying96
  a51 := Tryd.isAgg96
  z51 := Tryd.sizeOf96
  v51 := Tryd.zeroValue96
  t53 := Tryd.underlying88
  a53 := Tryd.isAgg88
  z53 := Tryd.sizeOf88
  v53 := Tryd.zeroValue88
  t171 := Tryd.underlying87
  a171 := Tryd.isAgg87
  z171 := Tryd.sizeOf87
  v171 := Tryd.zeroValue87
  t173 := Tryd.underlying92
  a173 := Tryd.isAgg92
  z173 := Tryd.sizeOf92
  v173 := Tryd.zeroValue92
  t212 := Tryd.underlying95
  a212 := Tryd.isAgg95
  z212 := Tryd.sizeOf95
  v212 := Tryd.zeroValue95
  t213 := Tryd.underlying97
  a213 := Tryd.isAgg97
  z213 := Tryd.sizeOf97
  t232 := Tryd.underlying102
  a232 := Tryd.isAgg102
  z232 := Tryd.sizeOf102
  v232 := Tryd.zeroValue102
  t233 := Tryd.underlying103
  a233 := Tryd.isAgg103
  z233 := Tryd.sizeOf103
  v233 := Tryd.zeroValue103
  g17 := by kernel_rfl
  g18 := by kernel_rfl
  g19 := by kernel_rfl
  i0 := by kernel_rfl
  i2 := by kernel_rfl
  i3 := by kernel_rfl
  i4 := by kernel_rfl
  i5 := by kernel_rfl
  i9 := by kernel_rfl
  i20 := by kernel_rfl
  i37 := by kernel_rfl
  i46 := by kernel_rfl
  i51 := by kernel_rfl
  i53 := by kernel_rfl
  i171 := by kernel_rfl
  i173 := by kernel_rfl
  i212 := by kernel_rfl
  i232 := by kernel_rfl
  i233 := by kernel_rfl
  m17 := by kernel_rfl
  m18 := by kernel_rfl
  m19 := by kernel_rfl }
open Go.RowKit Go.Sort Go.Lib in
theorem Tryd.strconv_Itoa (n : Int) (h0 : -9223372036854775808 ≤ n) (h1 : n ≤ 9223372036854775807) (w : World) (htab : Lib.TabIs Tryd.prog w "internal/strconv.uint64pow10" .u64 Lib.pow10Tab) :
    Calls Tryd.prog 59 #[.int .i64 n] w fun e w' => e = .returned (.string ⟨(Lib.itoa n).toArray⟩) ∧ ∃ k os, w' = grow (w.drewN k) os := Any.strconv_Itoa Tryd.laysM171 n h0 h1 w htab
def Tryd.lays171_ren : Go.Shelf.Ren := ⟨fun | 171 => 59 | 243 => 62 | 246 => 63 | 283 => 64 | 284 => 65 | 285 => 66 | 286 => 67 | 129 => 69 | 317 => 68 | 318 => 70 | 319 => 71 | 320 => 72 | 337 => 73 | 338 => 74 | n => n, fun | 3 => 3 | 9 => 9 | 2 => 2 | 4 => 4 | 171 => 87 | 0 => 0 | 53 => 88 | 37 => 91 | 5 => 5 | 173 => 92 | 212 => 95 | 51 => 96 | 20 => 20 | 213 => 97 | 46 => 99 | 232 => 102 | 233 => 103 | n => n, fun | 17 => 0 | 18 => 1 | 19 => 2 | n => n⟩
theorem Tryd.lays171 : Go.Proofs.Lays.n171 Tryd.prog Tryd.lays171_ren := {
  mixed := by kernel_rfl
  f129 := Tryd.func69.trans (congrArg some (by kernel_rfl))
  f171 := Tryd.func59.trans (congrArg some (by kernel_rfl))
  f243 := Tryd.func62.trans (congrArg some (by kernel_rfl))
  f246 := Tryd.func63.trans (congrArg some (by kernel_rfl))
  f283 := Tryd.func64.trans (congrArg some (by kernel_rfl))
  f284 := Tryd.func65.trans (congrArg some (by kernel_rfl))
  f285 := Tryd.func66.trans (congrArg some (by kernel_rfl))
  f286 := Tryd.func67.trans (congrArg some (by kernel_rfl))
  f317 := Tryd.func68.trans (congrArg some (by kernel_rfl))
  f318 := Tryd.func70.trans (congrArg some (by kernel_rfl))
  f319 := Tryd.func71.trans (congrArg some (by kernel_rfl))
  f320 := Tryd.func72.trans (congrArg some (by kernel_rfl))
  f337 := Tryd.func73.trans (congrArg some (by kernel_rfl))
  f338 := Tryd.func74.trans (congrArg some (by kernel_rfl))
  t0 := Tryd.underlying0
  a0 := Tryd.isAgg0
  z0 := Tryd.sizeOf0
  v0 := Tryd.zeroValue0
  t2 := Tryd.underlying2
  a2 := Tryd.isAgg2
  z2 := Tryd.sizeOf2
  v2 := Tryd.zeroValue2
  t3 := Tryd.underlying3
  a3 := Tryd.isAgg3
  z3 := Tryd.sizeOf3
  v3 := Tryd.zeroValue3
  t4 := Tryd.underlying4
  a4 := Tryd.isAgg4
  z4 := Tryd.sizeOf4
  v4 := Tryd.zeroValue4
  t5 := Tryd.underlying5
  a5 := Tryd.isAgg5
  z5 := Tryd.sizeOf5
  v5 := Tryd.zeroValue5
  t9 := Tryd.underlying9
  a9 := Tryd.isAgg9
  z9 := Tryd.sizeOf9
  v9 := Tryd.zeroValue9
  t20 := Tryd.underlying20
  a20 := Tryd.isAgg20
  z20 := Tryd.sizeOf20
  v20 := Tryd.zeroValue20
  t37 := Tryd.underlying91
  a37 := Tryd.isAgg91
  z37 := Tryd.sizeOf91
  v37 := Tryd.zeroValue91
  t46 := Tryd.underlying99
  a46 := Tryd.isAgg99
  z46 := Tryd.sizeOf99
  v46 := Tryd.zeroValue99
  t51 := Tryd.underlying96
  a51 := Tryd.isAgg96
  z51 := Tryd.sizeOf96
  v51 := Tryd.zeroValue96
  t53 := Tryd.underlying88
  a53 := Tryd.isAgg88
  z53 := Tryd.sizeOf88
  v53 := Tryd.zeroValue88
  t171 := Tryd.underlying87
  a171 := Tryd.isAgg87
  z171 := Tryd.sizeOf87
  v171 := Tryd.zeroValue87
  t173 := Tryd.underlying92
  a173 := Tryd.isAgg92
  z173 := Tryd.sizeOf92
  v173 := Tryd.zeroValue92
  t212 := Tryd.underlying95
  a212 := Tryd.isAgg95
  z212 := Tryd.sizeOf95
  v212 := Tryd.zeroValue95
  t213 := Tryd.underlying97
  a213 := Tryd.isAgg97
  z213 := Tryd.sizeOf97
  t232 := Tryd.underlying102
  a232 := Tryd.isAgg102
  z232 := Tryd.sizeOf102
  v232 := Tryd.zeroValue102
  t233 := Tryd.underlying103
  a233 := Tryd.isAgg103
  z233 := Tryd.sizeOf103
  v233 := Tryd.zeroValue103
  g17 := by kernel_rfl
  g18 := by kernel_rfl
  g19 := by kernel_rfl }
open Go.RowKit Go.Sort Go.Lib in
/-- THE ROAD WITHOUT THE TABLE: 0 <= i < 100: NO PREMISE ON THE WORLD, AND THE WORLD IS AS IT WAS: a row that keeps its argument in that range need list no table ('laid = []'). (LAID: no walk: one application.) -/
theorem Tryd.strconv_Itoa_small (i : Nat) (hi : i < 100) (w : World) :
    Calls Tryd.prog 59 #[.int .i64 i] w fun e w' => e = .returned (.string ⟨(Lib.decDigits i).toArray⟩) ∧ w' = w := Any.strconv_Itoa_small Tryd.lays171 i hi w
def Tryd.laysNm216_ren : Go.Shelf.Ren := ⟨fun | 16 => 22 | n => n, fun | 24 => 22 | 9 => 9 | 4 => 4 | n => n, fun | n => n⟩
theorem Tryd.laysNm216 : Go.Proofs.Lays2.n16 Tryd.prog Tryd.laysNm216_ren := {
  mixed := by kernel_rfl
  f16 := Tryd.func22.trans (congrArg some (by kernel_rfl))
  t4 := Tryd.underlying4
  a4 := Tryd.isAgg4
  z4 := Tryd.sizeOf4
  v4 := Tryd.zeroValue4
  t9 := Tryd.underlying9
  a9 := Tryd.isAgg9
  z9 := Tryd.sizeOf9
  v9 := Tryd.zeroValue9
  t24 := Tryd.underlying22
  a24 := Tryd.isAgg22
  z24 := Tryd.sizeOf22
  v24 := Tryd.zeroValue22
  i9 := by kernel_rfl }
open Go.RowKit Go.Lib in
theorem Tryd.slices_Clone_string (b off n c : Nat) (zs : List ByteArray) (w : World) (hz : n ≤ zs.length) (hbig : n * 16 ≤ 140737488355328) (hc : ∀ j, j < zs.length → w.cell? ⟨b, off + j, none⟩ = some (.string (zs.getD j ByteArray.empty))) :
    Calls Tryd.prog 22 #[.slice (some ⟨b, off, none⟩) n c] w fun e w' => ∃ v', e = .returned v' ∧ w'.ownsRow w.heap.size 9 1 v' n ((zs.take n).map (Value.string)) ∧ v' ≠ .slice none 0 0 ∧ Below w.heap.size w w' := Any.slices_Clone_string Tryd.laysNm216 b off n c zs w hz hbig hc
open Go.RowKit Go.Lib in
/-- The same at nil: nil comes back; the world is as it was. (LAID: no walk: one application.) -/
theorem Tryd.slices_Clone_string_nil (n c : Nat) (w : World) :
    Calls Tryd.prog 22 #[.slice none n c] w fun e w' => e = .returned (.slice none 0 0) ∧ w' = w := Any.slices_Clone_string_nil Tryd.laysNm216 n c w
open Go.RowKit Go.Lib in
/-- The same at a slice of length 0 that is not nil, WHATEVER ITS ADDRESS (no cell is asked for): a slice that is not nil and owns nothing comes back. (LAID: no walk: one application.) -/
theorem Tryd.slices_Clone_string_zero (a : Addr) (c : Nat) (w : World) :
    Calls Tryd.prog 22 #[.slice (some a) 0 c] w fun e w' => ∃ v', e = .returned v' ∧ w'.ownsRow w.heap.size 9 1 v' 0 [] ∧ v' ≠ .slice none 0 0 ∧ Below w.heap.size w w' := Any.slices_Clone_string_zero Tryd.laysNm216 a c w
def Tryd.laysSlE041_f22_ren : Go.Shelf.Ren := ⟨fun | 41 => 22 | n => n, fun | 22 => 22 | 23 => 9 | 4 => 4 | n => n, fun | n => n⟩
theorem Tryd.laysSlE041_f22 : Go.Proofs.SlLaysE0.n41 Tryd.prog Tryd.laysSlE041_f22_ren := {
  mixed := by kernel_rfl
  f41 := ⟨Tryd.f22.name, by decide, Tryd.func22.trans (congrArg some (by kernel_rfl))⟩
  t4 := Tryd.underlying4
  a4 := Tryd.isAgg4
  z4 := Tryd.sizeOf4
  v4 := Tryd.zeroValue4
  t22 := Tryd.underlying22
  a22 := Tryd.isAgg22
  z22 := Tryd.sizeOf22
  v22 := Tryd.zeroValue22 }
open Go.RowKit Go.Lib in
theorem Tryd.slices_Clone (i0 : TypeInfo) (z : Value) (size bytes : Nat) (hi : Tryd.prog.info? 9 = some i0) (hz0 : i0.zero = some z) (hz1 : i0.size = size) (hz2 : i0.bytes = bytes) (hzs : z.cells.size = size) (hsz : 0 < size) (z23 : ∀ w, (Go.sizeOf 9).run Tryd.prog w = .ok size w) (b off n c : Nat) (news : List Value) (w : World) (hl : news.length = n * size) (hn : n ≤ maxLen) (hbig : n * bytes ≤ 140737488355328) (hc : ∀ j u, news[j]? = some u → w.cell? ⟨b, off + j, none⟩ = some u) (h1 : ∀ u ∈ news, u.oneCell' = true) :
    Calls Tryd.prog 22 #[.slice (some ⟨b, off, none⟩) n c] w fun e w' => ∃ v', e = .returned v' ∧ w'.ownsRow w.heap.size 9 size v' n news ∧ v' ≠ .slice none 0 0 ∧ Below w.heap.size w w' := AnyE.slices_Clone Tryd.laysSlE041_f22 i0 z size bytes hi hz0 hz1 hz2 hzs hsz z23 b off n c news w hl hn hbig hc h1
open Go.RowKit Go.Lib in
/-- The same at nil: nil comes back; the world is as it was; nothing is asked of the element's type. (LAID AT THE INSTANCE 'slices.Clone[[]string,string]': no walk: one application.) -/
theorem Tryd.slices_Clone_nil (n c : Nat) (w : World) :
    Calls Tryd.prog 22 #[.slice none n c] w fun e w' => e = .returned (.slice none 0 0) ∧ w' = w := AnyE.slices_Clone_nil Tryd.laysSlE041_f22 n c w
end Go.Proofs

namespace Go.Ab
open Go.Proofs

/-- What the first variable holds. -/
def GlobOk (G0 : Nat → Option Obj) : Prop := ∀ w : World, (∀ b, b < nG → w.heap[b]? = G0 b) → Lib.TabIs Tryd.prog w "internal/strconv.uint64pow10" .u64 Lib.pow10Tab

theorem good_lib {P : Program} {nG : Nat} {G0 : Nat → Option Obj} {f : FuncId} {args : List AV} {vals : List Value} {r : AV} {v : Value} (hb : hasB P f = true)
    (hargs : ∀ (K : KM) (S : Stb) (w : World) (us : List Value), VRs K S w args us → us = vals) (hr : ∀ (K : KM) (S : Stb) (w : World), VR K S w r v)
    (h : ∀ w : World, (∀ b, b < nG → w.heap[b]? = G0 b) → Calls P f vals.toArray w fun e w' => e = .returned v ∧ ∃ k os, w' = Sort.grow (w.drewN k) os) : Good P nG G0 f args [] r [] := by
  have hb' := hb
  unfold hasB at hb'
  split at hb'
  · rename_i fn hf
    simp only [Bool.and_eq_true, Bool.not_eq_true'] at hb'
    refine ⟨⟨fn, hf, hb'.1, hb'.2⟩, fun w K S us hrel hus => ?_⟩
    rw [hargs K S w us hus]
    refine (h w hrel.fix).mono fun e w' ⟨he, k, os, hw⟩ => ?_
    have hheap : w'.heap = w.heap ++ os := by rw [hw]; rfl
    have hsz : w.heap.size ≤ w'.heap.size := by rw [hheap]; simp
    obtain ⟨g1, g2⟩ := hrel.ext (n0 := 0) (S' := fun _ _ => False) (w' := w') (by rw [hw]; rfl) (by rw [hw]; rfl) (by rw [hw]; rfl) hsz (fun b hb => by rw [hheap, Array.getElem?_append_left hb]) (fun b off hs => hs.elim)
    exact ⟨v, K, _, he, g1, hr _ _ _, g2⟩
  · cases hb'

theorem good_itoa {G0 : Nat → Option Obj} (hG : GlobOk G0) (n : Int) (h0 : -9223372036854775808 ≤ n) (h1 : n ≤ 9223372036854775807) : Good PG nG G0 f_strconv_Itoa [.int .i64 n] [] (.str (Lib.itoa n)) [] := by
  refine good_lib (vals := [.int .i64 n]) (v := .string ⟨(Lib.itoa n).toArray⟩) (by kernel_rfl) (fun K S w us hus => ?_) (fun K S w => (PR.str _).vr) fun w hw => Tryd.strconv_Itoa n h0 h1 w (hG w hw)
  obtain ⟨hl, hv⟩ := hus
  match us, hl with
  | [u], _ =>
    have := VR_int (hv 0 _ u rfl rfl)
    rw [this]
end Go.Ab

namespace Go.Ab
open Go.Proofs
set_option maxRecDepth 100000

def an_tree_Root : FAnn := ⟨[], [], none, []⟩
def an_tree_Half : FAnn := ⟨[], [(0, [0, 4], [])], none, []⟩
def an_seal_None : FAnn := ⟨[], [], none, []⟩
def an_seal_Leaf : FAnn := ⟨[], [], none, []⟩
def an_seal_Node : FAnn := ⟨[], [], none, []⟩
def an_greatsealref_HalfOf : FAnn := ⟨[], [(0, [0, 3], [])], none, []⟩
def an_greatsealref_LeafOf : FAnn := ⟨[], [], none, []⟩
def an_greatsealref_NodeOf : FAnn := ⟨[], [], none, []⟩
def an_slices_Equal_string : FAnn := ⟨[], [(0, [0, 1, 12, 13], [])], none, []⟩
def an_greatseallaw_at : FAnn := ⟨[], [], none, []⟩
def an_greatseallaw_planted : FAnn := ⟨[], [], none, []⟩
def an_greatsealref_RootOf : FAnn := ⟨[(7, 3, ⟨[0, 1], [], []⟩)], [], none, []⟩
def an_greatsealref_RootOf_c1 : FAnn := ⟨[(4, 3, ⟨[0, 1], [], []⟩), (7, 3, ⟨[0, 1], [], []⟩)], [], none, []⟩
def an_slices_Clone_string : FAnn := ⟨[], [], some [2], []⟩
def an_greatsealref_in : FAnn := ⟨[], [], none, []⟩

theorem tree_Root_run (nll0 : Bool) (l0 : List (List AV)) (G0 : Nat → Option Go.Obj) (R : AV → List (Option Blk) → Prop) (h :
  ifK (decide ((↑(List.length l0) : Int) > (24 : Int))) (R (AV.tup [AV.str [], AV.int Go.IntKind.i64 (2 : Int)]) [])
  (ifK ((↑(List.length l0) : Int) == (0 : Int)) (∃ s0, Good PG nG G0 f_seal_None [] [] (AV.str s0) [] ∧ R (AV.tup [AV.str s0, AV.int Go.IntKind.i64 (0 : Int)]) [])
    (ifK ((↑(List.length l0) : Int) == (1 : Int))
      ((0 : Int) ≤ (0 : Int) ∧ ∃ s1, l0[(0 : Nat)]? = some [AV.str s1] ∧ ∃ s2 n3, Good PG nG G0 f_seal_Leaf [AV.str s1] [] (AV.tup [AV.str s2, AV.int Go.IntKind.i64 n3]) [] ∧ R (AV.tup [AV.str s2, AV.int Go.IntKind.i64 n3]) [])
      (∃ n4 n5,
        Good PG nG G0 f_tree_Half [AV.int Go.IntKind.i64 (↑(List.length l0) : Int)] [] (AV.tup [AV.int Go.IntKind.i64 n4, AV.int Go.IntKind.i64 n5]) [] ∧
          ifK (n5 != (0 : Int)) (R (AV.tup [AV.str [], AV.int Go.IntKind.i64 n5]) [])
            ((0 : Int) ≤ (0 : Int) ∧
              (0 : Int) ≤ n4 ∧
                n4 ≤ (↑(List.length l0) : Int) ∧
                  ∃ s6 n7,
                    Good PG nG G0 f_tree_Root [AV.sl (1 : Nat) nll0 none (List.drop (0 : Nat) (List.take (Int.toNat n4) l0))] [] (AV.tup [AV.str s6, AV.int Go.IntKind.i64 n7]) [] ∧
                      ifK (n7 != (0 : Int)) (R (AV.tup [AV.str [], AV.int Go.IntKind.i64 n7]) [])
                        ((0 : Int) ≤ n4 ∧
                          n4 ≤ (↑(List.length l0) : Int) ∧
                            (↑(List.length l0) : Int) ≤ (↑(List.length l0) : Int) ∧
                              ∃ s8 n9,
                                Good PG nG G0 f_tree_Root [AV.sl (1 : Nat) nll0 none (List.drop (Int.toNat n4) (List.take (Int.toNat (↑(List.length l0) : Int)) l0))] [] (AV.tup [AV.str s8, AV.int Go.IntKind.i64 n9]) [] ∧
                                  ifK (n9 != (0 : Int)) (R (AV.tup [AV.str [], AV.int Go.IntKind.i64 n9]) [])
                                    (∃ s10 n11, Good PG nG G0 f_seal_Node [AV.str s6, AV.str s8] [] (AV.tup [AV.str s10, AV.int Go.IntKind.i64 n11]) [] ∧ R (AV.tup [AV.str s10, AV.int Go.IntKind.i64 n11]) []))))))) :
  Hold (runF PG ty nG G0 an_tree_Root f_tree_Root [AV.sl (1 : Nat) nll0 none l0] [] R) := kshow h (by kernel_rfl)

theorem tree_Half_run (n0 : Int) (G0 : Nat → Option Go.Obj) (R : AV → List (Option Blk) → Prop) (h :
  ifK (decide (n0 < (2 : Int))) (R (AV.tup [AV.int Go.IntKind.i64 (0 : Int), AV.int Go.IntKind.i64 (3 : Int)]) [])
  (ifK (decide (n0 > (24 : Int))) (R (AV.tup [AV.int Go.IntKind.i64 (0 : Int), AV.int Go.IntKind.i64 (3 : Int)]) [])
    (Does PG nG G0 (fnOf PG f_tree_Half) (0 : Nat) (lp PG f_tree_Half (0 : Nat)) (mkT (18 : Nat) [((0 : Nat), AV.int Go.IntKind.i64 n0), ((4 : Nat), AV.int Go.IntKind.i64 (1 : Int))]) [] R))) :
  Hold (runF PG ty nG G0 an_tree_Half f_tree_Half [AV.int Go.IntKind.i64 n0] [] R) := kshow h (by kernel_rfl)

theorem tree_Half_l0_run (G0 : Nat → Option Obj) (n0 : Int) (n1 : Int) (R : AV → List (Option Blk) → Prop) (h :
  ifK (decide (Go.IntKind.wrap Go.IntKind.i64 ((2 : Int) * n1) < n0))
  (Does PG nG G0 (fnOf PG f_tree_Half) (0 : Nat) (lp PG f_tree_Half (0 : Nat)) (mkT (18 : Nat) [((0 : Nat), AV.int Go.IntKind.i64 n0), ((4 : Nat), AV.int Go.IntKind.i64 (Go.IntKind.wrap Go.IntKind.i64 (n1 * (2 : Int))))]) [] R)
  (R (AV.tup [AV.int Go.IntKind.i64 n1, AV.int Go.IntKind.i64 (0 : Int)]) [])) :
  Hold (runL PG ty nG G0 an_tree_Half f_tree_Half (0 : Nat) (0 : Nat) (mkT (18 : Nat) [((0 : Nat), AV.int Go.IntKind.i64 n0), ((4 : Nat), AV.int Go.IntKind.i64 n1)]) [] R) := kshow h (by kernel_rfl)

theorem seal_None_run (G0 : Nat → Option Go.Obj) (R : AV → List (Option Blk) → Prop) (h :
  R (AV.str [(69 : UInt8)]) []) :
  Hold (runF PG ty nG G0 an_seal_None f_seal_None [] [] R) := kshow h (by kernel_rfl)

theorem seal_Leaf_run (s0 : List UInt8) (G0 : Nat → Option Go.Obj) (R : AV → List (Option Blk) → Prop) (h :
  ifK (decide ((↑(List.length s0) : Int) > (20000 : Int))) (R (AV.tup [AV.str [], AV.int Go.IntKind.i64 (2 : Int)]) [])
  ((1 : Nat) + List.length s0 ≤ (9223372036854775807 : Nat) ∧ R (AV.tup [AV.str ([(76 : UInt8)] ++ s0), AV.int Go.IntKind.i64 (0 : Int)]) [])) :
  Hold (runF PG ty nG G0 an_seal_Leaf f_seal_Leaf [AV.str s0] [] R) := kshow h (by kernel_rfl)

theorem seal_Node_run (a0 : List UInt8) (b1 : List UInt8) (G0 : Nat → Option Go.Obj) (R : AV → List (Option Blk) → Prop) (h :
  ifK (decide ((↑(List.length a0) : Int) > (20000 : Int))) (R (AV.tup [AV.str [], AV.int Go.IntKind.i64 (2 : Int)]) [])
  (ifK (decide ((↑(List.length b1) : Int) > Go.IntKind.wrap Go.IntKind.i64 ((20000 : Int) - (↑(List.length a0) : Int)))) (R (AV.tup [AV.str [], AV.int Go.IntKind.i64 (2 : Int)]) [])
    (∃ s0,
      Good PG nG G0 f_strconv_Itoa [AV.int Go.IntKind.i64 (↑(List.length a0) : Int)] [] (AV.str s0) [] ∧
        (1 : Nat) + List.length s0 ≤ (9223372036854775807 : Nat) ∧
          List.length ([(78 : UInt8)] ++ s0) + (1 : Nat) ≤ (9223372036854775807 : Nat) ∧
            List.length ([(78 : UInt8)] ++ s0 ++ [(58 : UInt8)]) + List.length a0 ≤ (9223372036854775807 : Nat) ∧
              List.length ([(78 : UInt8)] ++ s0 ++ [(58 : UInt8)] ++ a0) + List.length b1 ≤ (9223372036854775807 : Nat) ∧ R (AV.tup [AV.str ([(78 : UInt8)] ++ s0 ++ [(58 : UInt8)] ++ a0 ++ b1), AV.int Go.IntKind.i64 (0 : Int)]) []))) :
  Hold (runF PG ty nG G0 an_seal_Node f_seal_Node [AV.str a0, AV.str b1] [] R) := kshow h (by kernel_rfl)

theorem greatsealref_HalfOf_run (n0 : Int) (G0 : Nat → Option Go.Obj) (R : AV → List (Option Blk) → Prop) (h :
  Does PG nG G0 (fnOf PG f_greatsealref_HalfOf) (0 : Nat) (lp PG f_greatsealref_HalfOf (0 : Nat)) (mkT (10 : Nat) [((0 : Nat), AV.int Go.IntKind.i64 n0), ((3 : Nat), AV.int Go.IntKind.i64 (16 : Int))]) [] R) :
  Hold (runF PG ty nG G0 an_greatsealref_HalfOf f_greatsealref_HalfOf [AV.int Go.IntKind.i64 n0] [] R) := kshow h (by kernel_rfl)

theorem greatsealref_HalfOf_l0_run (G0 : Nat → Option Obj) (n0 : Int) (n1 : Int) (R : AV → List (Option Blk) → Prop) (h :
  ifK (decide (n1 < n0)) (R (AV.int Go.IntKind.i64 n1) [])
  ((2 : Int) ≠ (0 : Int) ∧
    Does PG nG G0 (fnOf PG f_greatsealref_HalfOf) (0 : Nat) (lp PG f_greatsealref_HalfOf (0 : Nat)) (mkT (10 : Nat) [((0 : Nat), AV.int Go.IntKind.i64 n0), ((3 : Nat), AV.int Go.IntKind.i64 (Go.IntKind.wrap Go.IntKind.i64 (Int.tdiv n1 (2 : Int))))]) [] R)) :
  Hold (runL PG ty nG G0 an_greatsealref_HalfOf f_greatsealref_HalfOf (0 : Nat) (0 : Nat) (mkT (10 : Nat) [((0 : Nat), AV.int Go.IntKind.i64 n0), ((3 : Nat), AV.int Go.IntKind.i64 n1)]) [] R) := kshow h (by kernel_rfl)

theorem greatsealref_LeafOf_run (s0 : List UInt8) (G0 : Nat → Option Go.Obj) (R : AV → List (Option Blk) → Prop) (h :
  ifK (decide ((↑(List.length s0) : Int) > (20000 : Int))) (R (AV.tup [AV.str [], AV.int Go.IntKind.i64 (2 : Int)]) [])
  ((1 : Nat) + List.length s0 ≤ (9223372036854775807 : Nat) ∧ R (AV.tup [AV.str ([(76 : UInt8)] ++ s0), AV.int Go.IntKind.i64 (0 : Int)]) [])) :
  Hold (runF PG ty nG G0 an_greatsealref_LeafOf f_greatsealref_LeafOf [AV.str s0] [] R) := kshow h (by kernel_rfl)

theorem greatsealref_NodeOf_run (a0 : List UInt8) (b1 : List UInt8) (G0 : Nat → Option Go.Obj) (R : AV → List (Option Blk) → Prop) (h :
  ifK (decide (Go.IntKind.wrap Go.IntKind.i64 ((↑(List.length a0) : Int) + (↑(List.length b1) : Int)) > (20000 : Int))) (R (AV.tup [AV.str [], AV.int Go.IntKind.i64 (2 : Int)]) [])
  (∃ s0,
    Good PG nG G0 f_strconv_Itoa [AV.int Go.IntKind.i64 (↑(List.length a0) : Int)] [] (AV.str s0) [] ∧
      (1 : Nat) + List.length s0 ≤ (9223372036854775807 : Nat) ∧
        List.length ([(78 : UInt8)] ++ s0) + (1 : Nat) ≤ (9223372036854775807 : Nat) ∧
          List.length ([(78 : UInt8)] ++ s0 ++ [(58 : UInt8)]) + List.length a0 ≤ (9223372036854775807 : Nat) ∧
            List.length ([(78 : UInt8)] ++ s0 ++ [(58 : UInt8)] ++ a0) + List.length b1 ≤ (9223372036854775807 : Nat) ∧ R (AV.tup [AV.str ([(78 : UInt8)] ++ s0 ++ [(58 : UInt8)] ++ a0 ++ b1), AV.int Go.IntKind.i64 (0 : Int)]) [])) :
  Hold (runF PG ty nG G0 an_greatsealref_NodeOf f_greatsealref_NodeOf [AV.str a0, AV.str b1] [] R) := kshow h (by kernel_rfl)

theorem slices_Equal_string_run (nls10 : Bool) (s10 : List (List AV)) (nls21 : Bool) (s21 : List (List AV)) (G0 : Nat → Option Go.Obj) (R : AV → List (Option Blk) → Prop) (h :
  ifK ((↑(List.length s10) : Int) != (↑(List.length s21) : Int)) (R (AV.bool false) [])
  (Does PG nG G0 (fnOf PG f_slices_Equal_string) (0 : Nat) (lp PG f_slices_Equal_string (0 : Nat))
    (mkT (26 : Nat) [((0 : Nat), AV.sl (1 : Nat) nls10 none s10), ((1 : Nat), AV.sl (1 : Nat) nls21 none s21), ((12 : Nat), AV.int Go.IntKind.i64 (↑(List.length s10) : Int)), ((13 : Nat), AV.int Go.IntKind.i64 (0 : Int))]) [] R)) :
  Hold (runF PG ty nG G0 an_slices_Equal_string f_slices_Equal_string [AV.sl (1 : Nat) nls10 none s10, AV.sl (1 : Nat) nls21 none s21] [] R) := kshow h (by kernel_rfl)

theorem slices_Equal_string_l0_run (G0 : Nat → Option Obj) (b0 : Bool) (xs1 : List (List AV)) (b2 : Bool) (xs3 : List (List AV)) (n4 : Int) (n5 : Int) (R : AV → List (Option Blk) → Prop) (h :
  ifK (decide (n5 < n4))
  ((0 : Int) ≤ n5 ∧
    ∃ s6,
      xs1[Int.toNat n5]? = some [AV.str s6] ∧
        (0 : Int) ≤ n5 ∧
          ∃ s7,
            xs3[Int.toNat n5]? = some [AV.str s7] ∧
              ifK (!s6 == s7) (R (AV.bool false) [])
                (Does PG nG G0 (fnOf PG f_slices_Equal_string) (0 : Nat) (lp PG f_slices_Equal_string (0 : Nat))
                  (mkT (26 : Nat)
                    [((0 : Nat), AV.sl (1 : Nat) b0 none xs1), ((1 : Nat), AV.sl (1 : Nat) b2 none xs3), ((12 : Nat), AV.int Go.IntKind.i64 n4), ((13 : Nat), AV.int Go.IntKind.i64 (Go.IntKind.wrap Go.IntKind.i64 (n5 + (1 : Int))))])
                  [] R))
  (R (AV.bool true) [])) :
  Hold (runL PG ty nG G0 an_slices_Equal_string f_slices_Equal_string (0 : Nat) (0 : Nat)
  (mkT (26 : Nat) [((0 : Nat), AV.sl (1 : Nat) b0 none xs1), ((1 : Nat), AV.sl (1 : Nat) b2 none xs3), ((12 : Nat), AV.int Go.IntKind.i64 n4), ((13 : Nat), AV.int Go.IntKind.i64 n5)]) [] R) := kshow h (by kernel_rfl)

theorem greatseallaw_at_run (k0 : Int) (n1 : Int) (G0 : Nat → Option Go.Obj) (R : AV → List (Option Blk) → Prop) (h :
  n1 ≠ (0 : Int) ∧ ifK (decide (Int.tmod k0 n1 < (0 : Int))) (R (AV.int Go.IntKind.i64 (Go.IntKind.wrap Go.IntKind.i64 (Int.tmod k0 n1 + n1))) []) (R (AV.int Go.IntKind.i64 (Int.tmod k0 n1)) [])) :
  Hold (runF PG ty nG G0 an_greatseallaw_at f_greatseallaw_at [AV.int Go.IntKind.i64 k0, AV.int Go.IntKind.i64 n1] [] R) := kshow h (by kernel_rfl)

theorem greatseallaw_planted_run (G0 : Nat → Option Go.Obj) (R : AV → List (Option Blk) → Prop) (h :
  ∃ s0 n1,
  Good PG nG G0 f_tree_Root [AV.sl (1 : Nat) false none [[AV.str [(97 : UInt8)]], [AV.str [(98 : UInt8)]], [AV.str [(99 : UInt8)]]]] [] (AV.tup [AV.str s0, AV.int Go.IntKind.i64 n1]) [] ∧
    ∃ n2 n3,
      Good PG nG G0 f_tree_Half [AV.int Go.IntKind.i64 (5 : Int)] [] (AV.tup [AV.int Go.IntKind.i64 n2, AV.int Go.IntKind.i64 n3]) [] ∧
        ∃ n4 n5,
          Good PG nG G0 f_tree_Half [AV.int Go.IntKind.i64 (1 : Int)] [] (AV.tup [AV.int Go.IntKind.i64 n4, AV.int Go.IntKind.i64 n5]) [] ∧
            ∃ s6 n7,
              Good PG nG G0 f_tree_Root [AV.sl (1 : Nat) true none []] [] (AV.tup [AV.str s6, AV.int Go.IntKind.i64 n7]) [] ∧
                ifK (n1 == (0 : Int))
                  (ifK (n3 == (0 : Int))
                    (ifK (n5 == (3 : Int))
                      (ifK (n7 == (0 : Int))
                        (ifK (n2 == (4 : Int))
                          (ifK (s0 == [(78 : UInt8), (55 : UInt8), (58 : UInt8), (78 : UInt8), (50 : UInt8), (58 : UInt8), (76 : UInt8), (97 : UInt8), (76 : UInt8), (98 : UInt8), (76 : UInt8), (99 : UInt8)])
                            (R (AV.bool (s6 == [(69 : UInt8)])) []) (R (AV.bool false) []))
                          (R (AV.bool false) []))
                        (R (AV.bool false) []))
                      (R (AV.bool false) []))
                    (R (AV.bool false) []))
                  (R (AV.bool false) [])) :
  Hold (runF PG ty nG G0 an_greatseallaw_planted f_greatseallaw_planted [] [] R) := kshow h (by kernel_rfl)

theorem greatsealref_RootOf_run (nll0 : Bool) (l0 : List (List AV)) (G0 : Nat → Option Go.Obj) (R : AV → List (Option Blk) → Prop) (h :
  ifK (decide ((↑(List.length l0) : Int) > (24 : Int))) (R (AV.tup [AV.str [], AV.int Go.IntKind.i64 (2 : Int)]) [])
  (ifK ((↑(List.length l0) : Int) == (0 : Int)) (R (AV.tup [AV.str [(69 : UInt8)], AV.int Go.IntKind.i64 (0 : Int)]) [])
    (∃ s0 n1 b2 xs3,
      Good PG nG G0 f_greatsealref_RootOf_c1 [AV.int Go.IntKind.i64 (0 : Int), AV.int Go.IntKind.i64 (↑(List.length l0) : Int), AV.ref (0 : Nat) (0 : Nat), AV.ref (1 : Nat) (0 : Nat)]
          [some (Blk.var [AV.sl (1 : Nat) nll0 none l0]), some (Blk.var [AV.func f_greatsealref_RootOf_c1 [AV.ref (0 : Nat) (0 : Nat), AV.ref (1 : Nat) (0 : Nat)]])] (AV.tup [AV.str s0, AV.int Go.IntKind.i64 n1])
          [some (Blk.var [AV.sl (1 : Nat) b2 none xs3]), some (Blk.var [AV.func f_greatsealref_RootOf_c1 [AV.ref (0 : Nat) (0 : Nat), AV.ref (1 : Nat) (0 : Nat)]])] ∧
        R (AV.tup [AV.str s0, AV.int Go.IntKind.i64 n1]) []))) :
  Hold (runF PG ty nG G0 an_greatsealref_RootOf f_greatsealref_RootOf [AV.sl (1 : Nat) nll0 none l0] [] R) := kshow h (by kernel_rfl)

theorem greatsealref_RootOf_c1_run (f : Int) (t : Int) (nl : Bool) (xs : List (List AV)) (G0 : Nat → Option Go.Obj) (R : AV → List (Option Blk) → Prop) (h :
  ifK (Go.IntKind.wrap Go.IntKind.i64 (t - f) == (1 : Int))
  ((0 : Int) ≤ f ∧
    ∃ s0,
      xs[Int.toNat f]? = some [AV.str s0] ∧
        ∃ s1 n2,
          Good PG nG G0 f_greatsealref_LeafOf [AV.str s0] [] (AV.tup [AV.str s1, AV.int Go.IntKind.i64 n2]) [] ∧
            R (AV.tup [AV.str s1, AV.int Go.IntKind.i64 n2]) [some (Blk.var [AV.sl (1 : Nat) nl none xs]), some (Blk.var [AV.func f_greatsealref_RootOf_c1 [AV.ref (0 : Nat) (0 : Nat), AV.ref (1 : Nat) (0 : Nat)]])])
  (∃ n3,
    Good PG nG G0 f_greatsealref_HalfOf [AV.int Go.IntKind.i64 (Go.IntKind.wrap Go.IntKind.i64 (t - f))] [] (AV.int Go.IntKind.i64 n3) [] ∧
      ∃ s4 n5 b6 xs7,
        Good PG nG G0 f_greatsealref_RootOf_c1 [AV.int Go.IntKind.i64 f, AV.int Go.IntKind.i64 (Go.IntKind.wrap Go.IntKind.i64 (f + n3)), AV.ref (0 : Nat) (0 : Nat), AV.ref (1 : Nat) (0 : Nat)]
            [some (Blk.var [AV.sl (1 : Nat) nl none xs]), some (Blk.var [AV.func f_greatsealref_RootOf_c1 [AV.ref (0 : Nat) (0 : Nat), AV.ref (1 : Nat) (0 : Nat)]])] (AV.tup [AV.str s4, AV.int Go.IntKind.i64 n5])
            [some (Blk.var [AV.sl (1 : Nat) b6 none xs7]), some (Blk.var [AV.func f_greatsealref_RootOf_c1 [AV.ref (0 : Nat) (0 : Nat), AV.ref (1 : Nat) (0 : Nat)]])] ∧
          ifK (n5 != (0 : Int)) (R (AV.tup [AV.str [], AV.int Go.IntKind.i64 n5]) [some (Blk.var [AV.sl (1 : Nat) b6 none xs7]), some (Blk.var [AV.func f_greatsealref_RootOf_c1 [AV.ref (0 : Nat) (0 : Nat), AV.ref (1 : Nat) (0 : Nat)]])])
            (∃ s8 n9 b10 xs11,
              Good PG nG G0 f_greatsealref_RootOf_c1 [AV.int Go.IntKind.i64 (Go.IntKind.wrap Go.IntKind.i64 (f + n3)), AV.int Go.IntKind.i64 t, AV.ref (0 : Nat) (0 : Nat), AV.ref (1 : Nat) (0 : Nat)]
                  [some (Blk.var [AV.sl (1 : Nat) b6 none xs7]), some (Blk.var [AV.func f_greatsealref_RootOf_c1 [AV.ref (0 : Nat) (0 : Nat), AV.ref (1 : Nat) (0 : Nat)]])] (AV.tup [AV.str s8, AV.int Go.IntKind.i64 n9])
                  [some (Blk.var [AV.sl (1 : Nat) b10 none xs11]), some (Blk.var [AV.func f_greatsealref_RootOf_c1 [AV.ref (0 : Nat) (0 : Nat), AV.ref (1 : Nat) (0 : Nat)]])] ∧
                ifK (n9 != (0 : Int)) (R (AV.tup [AV.str [], AV.int Go.IntKind.i64 n9]) [some (Blk.var [AV.sl (1 : Nat) b10 none xs11]), some (Blk.var [AV.func f_greatsealref_RootOf_c1 [AV.ref (0 : Nat) (0 : Nat), AV.ref (1 : Nat) (0 : Nat)]])])
                  (∃ s12 n13,
                    Good PG nG G0 f_greatsealref_NodeOf [AV.str s4, AV.str s8] [] (AV.tup [AV.str s12, AV.int Go.IntKind.i64 n13]) [] ∧
                      R (AV.tup [AV.str s12, AV.int Go.IntKind.i64 n13]) [some (Blk.var [AV.sl (1 : Nat) b10 none xs11]), some (Blk.var [AV.func f_greatsealref_RootOf_c1 [AV.ref (0 : Nat) (0 : Nat), AV.ref (1 : Nat) (0 : Nat)]])])))) :
  Hold (runF PG ty nG G0 an_greatsealref_RootOf_c1 f_greatsealref_RootOf_c1 [AV.int Go.IntKind.i64 f, AV.int Go.IntKind.i64 t, AV.ref (0 : Nat) (0 : Nat), AV.ref (1 : Nat) (0 : Nat)]
  [some (Blk.var [AV.sl (1 : Nat) nl none xs]), some (Blk.var [AV.func f_greatsealref_RootOf_c1 [AV.ref (0 : Nat) (0 : Nat), AV.ref (1 : Nat) (0 : Nat)]])] R) := kshow h (by kernel_rfl)

theorem slices_Clone_string_run (nls0 : Bool) (s0 : List (List AV)) (G0 : Nat → Option Go.Obj) (R : AV → List (Option Blk) → Prop) (h :
  ifK nls0 (R (AV.sl (1 : Nat) true (some (0 : Nat)) []) [some (Blk.grow (1 : Nat) (0 : Nat))])
  (((0 : Nat) + List.length s0) * (16 : Nat) ≤ (140737488355328 : Nat) ∧ (0 : Nat) = (0 : Nat) ∧ R (AV.sl (1 : Nat) (false && List.isEmpty s0) (some (0 : Nat)) ([] ++ s0)) [some (Blk.grow (1 : Nat) ((0 : Nat) + List.length s0))])) :
  Hold (runF PG ty nG G0 an_slices_Clone_string f_slices_Clone_string [AV.sl (1 : Nat) nls0 none s0] [] R) := kshow h (by kernel_rfl)

theorem greatsealref_in_run (n0 : Int) (from1 : Int) (to2 : Int) (G0 : Nat → Option Go.Obj) (R : AV → List (Option Blk) → Prop) (h :
  ifK (decide (from1 ≤ n0)) (R (AV.bool (decide (n0 ≤ to2))) []) (R (AV.bool false) [])) :
  Hold (runF PG ty nG G0 an_greatsealref_in f_greatsealref_in [AV.int Go.IntKind.i64 n0, AV.int Go.IntKind.i64 from1, AV.int Go.IntKind.i64 to2] [] R) := kshow h (by kernel_rfl)

end Go.Ab

namespace Go.Gs

abbrev By := List UInt8

def tLeaf (s : By) : By × Int := if 20000 < s.length then ([], 2) else (76 :: s, 0)
def tNode (a b : By) : By × Int := if 20000 < a.length + b.length then ([], 2) else (78 :: (Lib.itoa a.length ++ 58 :: (a ++ b)), 0)

def halfN (n : Nat) : Nat := if n ≤ 2 then 1 else if n ≤ 4 then 2 else if n ≤ 8 then 4 else if n ≤ 16 then 8 else 16

theorem halfN_spec (n : Nat) : (halfN n = 1 ∧ n ≤ 2) ∨ (halfN n = 2 ∧ 2 < n ∧ n ≤ 4) ∨ (halfN n = 4 ∧ 4 < n ∧ n ≤ 8) ∨ (halfN n = 8 ∧ 8 < n ∧ n ≤ 16) ∨ (halfN n = 16 ∧ 16 < n) := by
  unfold halfN; split; omega; split; omega; split; omega; split <;> omega

theorem halfN_pos (n : Nat) : 0 < halfN n := by unfold halfN; split; omega; split; omega; split; omega; split <;> omega
theorem halfN_lt {n : Nat} (h : 2 ≤ n) : halfN n < n := by unfold halfN; split; omega; split; omega; split; omega; split <;> omega

/-- The seal of a list of no more than 24. -/
def tRoot (l : List By) : By × Int :=
  if _h0 : l.length = 0 then ([69], 0)
  else if _h1 : l.length = 1 then tLeaf (l.headD [])
  else
    if (tRoot (l.take (halfN l.length))).2 ≠ 0 then ([], (tRoot (l.take (halfN l.length))).2)
    else if (tRoot (l.drop (halfN l.length))).2 ≠ 0 then ([], (tRoot (l.drop (halfN l.length))).2)
    else tNode (tRoot (l.take (halfN l.length))).1 (tRoot (l.drop (halfN l.length))).1
  termination_by l.length
  decreasing_by
  all_goals
    have := halfN_pos l.length
    have := halfN_lt (n := l.length) (by omega)
    simp only [List.length_take, List.length_drop]
    omega

/-- The seal of any list. -/
def rootOf (l : List By) : By × Int := if 24 < l.length then ([], 2) else tRoot l

theorem decDigits_len (u : Nat) : (Lib.decDigits u).length ≤ u + 1 := by
  induction u using Nat.strongRecOn with
  | _ u ih =>
    rw [Lib.decDigits]
    split
    · simp
    · rename_i h
      have := ih (u / 10) (by omega)
      simp only [List.length_append, List.length_cons, List.length_nil]
      omega

theorem itoa_len (n : Nat) : (Lib.itoa n).length ≤ n + 1 := by
  unfold Lib.itoa
  rw [if_neg (by omega)]
  exact decDigits_len n

theorem tNode_len (a b : By) : (tNode a b).1.length ≤ 40100 := by
  unfold tNode
  have := itoa_len a.length
  split
  · simp
  · simp only [List.length_cons, List.length_append]; omega

theorem tRoot_zero {l : List By} (h : l.length = 0) : tRoot l = ([69], 0) := by rw [tRoot, dif_pos h]
theorem tRoot_one {l : List By} (h : l.length = 1) : tRoot l = tLeaf (l.headD []) := by rw [tRoot, dif_neg (by omega), dif_pos h]
theorem tRoot_two {l : List By} (h : 2 ≤ l.length) : tRoot l =
    if (tRoot (l.take (halfN l.length))).2 ≠ 0 then ([], (tRoot (l.take (halfN l.length))).2)
    else if (tRoot (l.drop (halfN l.length))).2 ≠ 0 then ([], (tRoot (l.drop (halfN l.length))).2)
    else tNode (tRoot (l.take (halfN l.length))).1 (tRoot (l.drop (halfN l.length))).1 := by
  rw [tRoot, dif_neg (by omega), dif_neg (by omega)]

theorem tLeaf_len (s : By) : (tLeaf s).1.length ≤ 20001 := by unfold tLeaf; split <;> simp; omega

theorem tRoot_len (l : List By) : (tRoot l).1.length ≤ 40100 := by
  rcases Nat.lt_or_ge l.length 2 with h | h
  · by_cases h0 : l.length = 0
    · rw [tRoot_zero h0]; simp
    · rw [tRoot_one (by omega)]; have := tLeaf_len (l.headD []); omega
  · rw [tRoot_two h]
    split
    · simp
    · split
      · simp
      · exact tNode_len _ _

/-- A number brought within bounds. -/
def atN (k : Int) (n : Nat) : Nat := (k % (n : Int)).toNat

theorem atN_lt (k : Int) {n : Nat} (h : 0 < n) : atN k n < n := by
  unfold atN
  have := Int.emod_nonneg k (b := (n : Int)) (by omega)
  have := Int.emod_lt_of_pos k (b := (n : Int)) (by omega)
  omega

theorem atN_cast (k : Int) {n : Nat} (h : 0 < n) : ((atN k n : Nat) : Int) = k % (n : Int) := by
  unfold atN
  have := Int.emod_nonneg k (b := (n : Int)) (by omega)
  omega
end Go.Gs

namespace Go.Ab
open Go.Proofs Go.Gs

theorem wrap64 {n : Int} (h0 : -9223372036854775808 ≤ n) (h1 : n ≤ 9223372036854775807) : IntKind.i64.wrap n = n := by
  rw [IntKind.wrap_i64]; omega

theorem ifT {A B : Prop} : ifK true A B = A := rfl
theorem ifF {A B : Prop} : ifK false A B = B := rfl

variable {G0 : Nat → Option Obj}

theorem good_None : Good PG nG G0 f_seal_None [] [] (.str [69]) [] := good_of_run prOk (by kernel_rfl) (seal_None_run G0 _ ⟨rfl, rfl⟩)

theorem good_Leaf (s : By) : Good PG nG G0 f_seal_Leaf [.str s] [] (.tup [.str (tLeaf s).1, .int .i64 (tLeaf s).2]) [] := by
  refine good_of_run prOk (by kernel_rfl) (seal_Leaf_run s G0 _ ?_)
  simp only [ifK_iff, decide_eq_true_eq, decide_eq_false_iff_not]
  unfold tLeaf
  refine ⟨fun h => ?_, fun h => ⟨by omega, ?_⟩⟩
  · rw [if_pos (by omega)]; exact ⟨rfl, trivial⟩
  · rw [if_neg (by omega)]; exact ⟨rfl, trivial⟩

theorem good_LeafOf (s : By) : Good PG nG G0 f_greatsealref_LeafOf [.str s] [] (.tup [.str (tLeaf s).1, .int .i64 (tLeaf s).2]) [] := by
  refine good_of_run prOk (by kernel_rfl) (greatsealref_LeafOf_run s G0 _ ?_)
  simp only [ifK_iff, decide_eq_true_eq, decide_eq_false_iff_not]
  unfold tLeaf
  refine ⟨fun h => ?_, fun h => ⟨by omega, ?_⟩⟩
  · rw [if_pos (by omega)]; exact ⟨rfl, trivial⟩
  · rw [if_neg (by omega)]; exact ⟨rfl, trivial⟩

theorem good_Node (hG : GlobOk G0) (a b : By) : Good PG nG G0 f_seal_Node [.str a, .str b] [] (.tup [.str (tNode a b).1, .int .i64 (tNode a b).2]) [] := by
  refine good_of_run prOk (by kernel_rfl) (seal_Node_run a b G0 _ ?_)
  simp only [ifK_iff, decide_eq_true_eq, decide_eq_false_iff_not]
  unfold tNode
  refine ⟨fun h => ?_, fun h => ⟨fun h2 => ?_, fun h2 => ?_⟩⟩
  · rw [if_pos (by omega)]; exact ⟨rfl, trivial⟩
  · rw [wrap64 (by omega) (by omega)] at h2
    rw [if_pos (by omega)]; exact ⟨rfl, trivial⟩
  · rw [wrap64 (by omega) (by omega)] at h2
    have := itoa_len a.length
    refine ⟨_, good_itoa hG _ (by omega) (by omega), by omega, ?_, ?_, ?_, ?_⟩
    · simp only [List.length_append, List.length_cons, List.length_nil]; omega
    · simp only [List.length_append, List.length_cons, List.length_nil]; omega
    · simp only [List.length_append, List.length_cons, List.length_nil]; omega
    · rw [if_neg (by omega)]; simp

theorem good_NodeOf (hG : GlobOk G0) (a b : By) (ha : a.length ≤ 4611686018427387903) (hb : b.length ≤ 4611686018427387903) : Good PG nG G0 f_greatsealref_NodeOf [.str a, .str b] [] (.tup [.str (tNode a b).1, .int .i64 (tNode a b).2]) [] := by
  refine good_of_run prOk (by kernel_rfl) (greatsealref_NodeOf_run a b G0 _ ?_)
  simp only [ifK_iff, decide_eq_true_eq, decide_eq_false_iff_not]
  unfold tNode
  rw [wrap64 (by omega) (by omega)]
  refine ⟨fun h => ?_, fun h => ?_⟩
  · rw [if_pos (by omega)]; exact ⟨rfl, trivial⟩
  · have := itoa_len a.length
    refine ⟨_, good_itoa hG _ (by omega) (by omega), by omega, ?_, ?_, ?_, ?_⟩
    · simp only [List.length_append, List.length_cons, List.length_nil]; omega
    · simp only [List.length_append, List.length_cons, List.length_nil]; omega
    · simp only [List.length_append, List.length_cons, List.length_nil]; omega
    · rw [if_neg (by omega)]; simp

theorem half_loop (n : Int) (R : AV → List (Option Blk) → Prop) (hn : 2 ≤ n) (hn2 : n ≤ 24) (k : Int) (hk : k = 1 ∨ k = 2 ∨ k = 4 ∨ k = 8 ∨ k = 16) (hkn : k < n)
    (hR : R (.tup [.int .i64 (halfN n.toNat), .int .i64 0]) []) : Does PG nG G0 (fnOf PG f_tree_Half) 0 (lp PG f_tree_Half 0) (mkT 18 [(0, .int .i64 n), (4, .int .i64 k)]) [] R := by
  have key : ∀ m : Nat, ∀ k : Int, (k = 1 ∨ k = 2 ∨ k = 4 ∨ k = 8 ∨ k = 16) → k < n → (32 - k).toNat ≤ m → Does PG nG G0 (fnOf PG f_tree_Half) 0 (lp PG f_tree_Half 0) (mkT 18 [(0, .int .i64 n), (4, .int .i64 k)]) [] R := by
    intro m
    induction m with
    | zero => intro k hk _ h; omega
    | succ m ih =>
      intro k hk hkn h
      refine does_of_run prOk (tree_Half_l0_run G0 n k R ?_)
      simp only [ifK_iff, decide_eq_true_eq, decide_eq_false_iff_not]
      rw [wrap64 (by omega) (by omega), wrap64 (by omega) (by omega)]
      refine ⟨fun h2 => ih _ (by omega) (by omega) (by omega), fun h2 => ?_⟩
      have hs := halfN_spec n.toNat
      have : (halfN n.toNat : Int) = k := by omega
      rw [← this]; exact hR
  exact key _ k hk hkn (Nat.le_refl _)

theorem good_Half (n : Int) : Good PG nG G0 f_tree_Half [.int .i64 n] [] (.tup [.int .i64 (if n < 2 ∨ 24 < n then 0 else halfN n.toNat), .int .i64 (if n < 2 ∨ 24 < n then 3 else 0)]) [] := by
  refine good_of_run prOk (by kernel_rfl) (tree_Half_run n G0 _ ?_)
  simp only [ifK_iff, decide_eq_true_eq, decide_eq_false_iff_not]
  refine ⟨fun h => ?_, fun h => ⟨fun h2 => ?_, fun h2 => ?_⟩⟩
  · rw [if_pos (.inl h), if_pos (.inl h)]; exact ⟨rfl, trivial⟩
  · rw [if_pos (.inr h2), if_pos (.inr h2)]; exact ⟨rfl, trivial⟩
  · rw [if_neg (by omega), if_neg (by omega)]
    exact half_loop n _ (by omega) (by omega) 1 (.inl rfl) (by omega) ⟨rfl, rfl⟩

theorem good_Half' (n : Nat) (h : 2 ≤ n) (h2 : n ≤ 24) : Good PG nG G0 f_tree_Half [.int .i64 n] [] (.tup [.int .i64 (halfN n), .int .i64 0]) [] := by
  have := good_Half (G0 := G0) n
  rw [if_neg (by omega), if_neg (by omega)] at this
  simpa using this

theorem good_HalfOf (n : Int) (h : 2 ≤ n) : Good PG nG G0 f_greatsealref_HalfOf [.int .i64 n] [] (.int .i64 (halfN n.toNat)) [] := by
  refine good_of_run prOk (by kernel_rfl) (greatsealref_HalfOf_run n G0 _ ?_)
  have key : ∀ m : Nat, ∀ k : Int, (k = 1 ∨ k = 2 ∨ k = 4 ∨ k = 8 ∨ k = 16) → k.toNat ≤ m → (halfN n.toNat : Int) ≤ k →
      Does PG nG G0 (fnOf PG f_greatsealref_HalfOf) 0 (lp PG f_greatsealref_HalfOf 0) (mkT 10 [(0, .int .i64 n), (3, .int .i64 k)]) [] fun r' H'' => r' = .int .i64 (halfN n.toNat) ∧ H'' = [] := by
    intro m
    induction m with
    | zero => intro k hk h _; omega
    | succ m ih =>
      intro k hk hm hle
      refine does_of_run prOk (greatsealref_HalfOf_l0_run G0 n k _ ?_)
      simp only [ifK_iff, decide_eq_true_eq, decide_eq_false_iff_not]
      have hs := halfN_spec n.toNat
      have hd : Int.tdiv k 2 = k / 2 := by rw [Int.tdiv_eq_ediv_of_nonneg (by omega)]
      rw [hd, wrap64 (by omega) (by omega)]
      refine ⟨fun h2 => ⟨?_, trivial⟩, fun h2 => ⟨by omega, ih _ (by omega) (by omega) (by omega)⟩⟩
      congr 1
      omega
  have hs := halfN_spec n.toNat
  exact key 16 16 (by omega) (by omega) (by omega)
end Go.Ab

namespace Go.Ab
open Go.Proofs Go.Gs
variable {G0 : Nat → Option Obj}

theorem map_get {l : List By} {i : Nat} {s : By} (h : l[i]? = some s) : (l.map S1)[i]? = some [AV.str s] := by rw [List.getElem?_map, h]; rfl

theorem good_Root (hG : GlobOk G0) : ∀ (m : Nat) (l : List By) (nl : Bool), l.length ≤ m → Good PG nG G0 f_tree_Root [.sl 1 nl none (l.map S1)] [] (.tup [.str (rootOf l).1, .int .i64 (rootOf l).2]) [] := by
  intro m
  induction m with
  | zero =>
    intro l nl hm
    refine good_of_run prOk (by kernel_rfl) (tree_Root_run nl _ G0 _ ?_)
    have h0 : l = [] := List.eq_nil_of_length_eq_zero (by omega)
    subst h0
    simp only [ifK_iff, decide_eq_true_eq, decide_eq_false_iff_not, List.map_nil, List.length_nil]
    refine ⟨fun h => by omega, fun _ => ⟨fun _ => ⟨_, good_None, ?_⟩, fun h => by simp at h⟩⟩
    simp [rootOf, tRoot_zero]
  | succ m ih =>
    intro l nl hm
    refine good_of_run prOk (by kernel_rfl) (tree_Root_run nl _ G0 _ ?_)
    simp only [ifK_iff, decide_eq_true_eq, decide_eq_false_iff_not, List.length_map, beq_iff_eq, beq_eq_false_iff_ne]
    refine ⟨fun h => ?_, fun h => ⟨fun h0 => ⟨_, good_None, ?_⟩, fun h0 => ⟨fun h1 => ⟨by omega, ?_⟩, fun h1 => ?_⟩⟩⟩
    · rw [rootOf, if_pos (by omega)]; exact ⟨rfl, trivial⟩
    · rw [rootOf, if_neg (by omega), tRoot_zero (by omega)]; exact ⟨rfl, trivial⟩
    · obtain ⟨s, hs⟩ : ∃ s, l = [s] := List.length_eq_one_iff.1 (by omega)
      subst hs
      refine ⟨s, rfl, _, _, good_Leaf s, ?_⟩
      rw [rootOf, if_neg (by omega), tRoot_one rfl]; exact ⟨rfl, trivial⟩
    · have h2 : 2 ≤ l.length := by omega
      have hk1 := halfN_pos l.length
      have hk2 := halfN_lt h2
      have e1 : List.drop 0 (List.take (Int.toNat (halfN l.length : Int)) (l.map S1)) = (l.take (halfN l.length)).map S1 := by simp
      have e2 : List.drop (Int.toNat (halfN l.length : Int)) (List.take (Int.toNat (l.length : Int)) (l.map S1)) = (l.drop (halfN l.length)).map S1 := by
        simp [List.take_of_length_le]
      have r1 : rootOf (l.take (halfN l.length)) = tRoot (l.take (halfN l.length)) := by rw [rootOf, if_neg (by simp only [List.length_take]; omega)]
      have r2 : rootOf (l.drop (halfN l.length)) = tRoot (l.drop (halfN l.length)) := by rw [rootOf, if_neg (by simp only [List.length_drop]; omega)]
      have r0 : rootOf l = tRoot l := by rw [rootOf, if_neg (by omega)]
      have g1 := ih (l.take (halfN l.length)) nl (by simp only [List.length_take]; omega)
      have g2 := ih (l.drop (halfN l.length)) nl (by simp only [List.length_drop]; omega)
      rw [r1] at g1
      rw [r2] at g2
      refine ⟨_, _, good_Half' l.length h2 (by omega), ?_⟩
      simp only [bne_self_eq_false, Bool.false_eq_true, false_implies, true_and, true_implies]
      refine ⟨by omega, by omega, by omega, _, _, by rw [e1]; exact g1, fun h3 => ?_, fun h3 => ⟨by omega, by omega, Int.le_refl _, _, _, by rw [e2]; exact g2, fun h4 => ?_, fun h4 => ⟨_, _, good_Node hG _ _, ?_⟩⟩⟩
      · have h3 : (tRoot (l.take (halfN l.length))).2 ≠ 0 := by simpa using h3
        rw [r0, tRoot_two h2, if_pos h3]; exact ⟨rfl, trivial⟩
      · have h3 : (tRoot (l.take (halfN l.length))).2 = 0 := by simpa using h3
        have h4 : (tRoot (l.drop (halfN l.length))).2 ≠ 0 := by simpa using h4
        rw [r0, tRoot_two h2, if_neg (by simpa using h3), if_pos h4]; exact ⟨rfl, trivial⟩
      · have h3 : (tRoot (l.take (halfN l.length))).2 = 0 := by simpa using h3
        have h4 : (tRoot (l.drop (halfN l.length))).2 = 0 := by simpa using h4
        rw [r0, tRoot_two h2, if_neg (by simpa using h3), if_neg (by simpa using h4)]; exact ⟨rfl, trivial⟩

theorem good_Root' (hG : GlobOk G0) (l : List By) (nl : Bool) : Good PG nG G0 f_tree_Root [.sl 1 nl none (l.map S1)] [] (.tup [.str (rootOf l).1, .int .i64 (rootOf l).2]) [] := good_Root hG _ l nl (Nat.le_refl _)

/-- The heap of the document's own answer: the list, the function that calls itself. -/
def rootH (nl : Bool) (l : List By) : List (Option Blk) := [some (.var [.sl 1 nl none (l.map S1)]), some (.var [.func f_greatsealref_RootOf_c1 [.ref 0 0, .ref 1 0]])]

theorem good_RootOf1 (hG : GlobOk G0) (l : List By) (nl : Bool) (hl : l.length ≤ 24) : ∀ (m f t : Nat), f < t → t ≤ l.length → t - f ≤ m →
    Good PG nG G0 f_greatsealref_RootOf_c1 [.int .i64 f, .int .i64 t, .ref 0 0, .ref 1 0] (rootH nl l) (.tup [.str (tRoot ((l.drop f).take (t - f))).1, .int .i64 (tRoot ((l.drop f).take (t - f))).2]) (rootH nl l) := by
  intro m
  induction m with
  | zero => intro f t h1 _ h2; omega
  | succ m ih =>
    intro f t hft htl hm
    have hsub : ((l.drop f).take (t - f)).length = t - f := by simp only [List.length_take, List.length_drop]; omega
    refine good_of_run prOk (by kernel_rfl) (greatsealref_RootOf_c1_run f t nl (l.map S1) G0 _ ?_)
    simp only [ifK_iff, beq_iff_eq, beq_eq_false_iff_ne]
    have hw : IntKind.i64.wrap ((t : Int) - f) = ((t - f : Nat) : Int) := by rw [wrap64 (by omega) (by omega)]; omega
    rw [hw]
    refine ⟨fun h1 => ⟨by omega, ?_⟩, fun h1 => ?_⟩
    · obtain ⟨s, hs⟩ : ∃ s, l[f]? = some s := ⟨_, List.getElem?_eq_getElem (by omega)⟩
      have hsub1 : (l.drop f).take (t - f) = [s] := by
        have : t - f = 1 := by omega
        rw [this, List.take_one, List.head?_drop, hs]; rfl
      refine ⟨s, by simpa using map_get hs, _, _, good_LeafOf s, ?_⟩
      rw [tRoot_one (by omega), hsub1]
      exact ⟨rfl, rfl⟩
    · have h2 : 2 ≤ t - f := by omega
      have hk1 := halfN_pos (t - f)
      have hk2 := halfN_lt h2
      have hw2 : IntKind.i64.wrap ((f : Int) + (halfN (t - f) : Nat)) = ((f + halfN (t - f) : Nat) : Int) := by rw [wrap64 (by omega) (by omega)]; omega
      have s1 : ((l.drop f).take (t - f)).take (halfN (t - f)) = (l.drop f).take (f + halfN (t - f) - f) := by
        rw [List.take_take]; congr 1; omega
      have s2 : ((l.drop f).take (t - f)).drop (halfN (t - f)) = (l.drop (f + halfN (t - f))).take (t - (f + halfN (t - f))) := by
        rw [List.drop_take, List.drop_drop]; congr 1; omega
      have g1 := ih f (f + halfN (t - f)) (by omega) (by omega) (by omega)
      have g2 := ih (f + halfN (t - f)) t (by omega) htl (by omega)
      rw [← s1] at g1
      rw [← s2] at g2
      have gh := good_HalfOf (G0 := G0) ((t - f : Nat) : Int) (by omega)
      rw [Int.toNat_natCast] at gh
      have hr := tRoot_two (l := (l.drop f).take (t - f)) (by rw [hsub]; exact h2)
      rw [hsub] at hr
      refine ⟨_, gh, ?_⟩
      rw [hw2]
      refine ⟨_, _, nl, l.map S1, g1, fun h3 => ?_, fun h3 => ⟨_, _, nl, l.map S1, g2, fun h4 => ?_, fun h4 => ⟨_, _, good_NodeOf hG _ _ (by have := tRoot_len (((l.drop f).take (t - f)).take (halfN (t - f))); omega) (by have := tRoot_len (((l.drop f).take (t - f)).drop (halfN (t - f))); omega), ?_⟩⟩⟩
      · have h3 : (tRoot (((l.drop f).take (t - f)).take (halfN (t - f)))).2 ≠ 0 := by simpa using h3
        rw [hr, if_pos h3]; exact ⟨rfl, rfl⟩
      · have h3 : (tRoot (((l.drop f).take (t - f)).take (halfN (t - f)))).2 = 0 := by simpa using h3
        have h4 : (tRoot (((l.drop f).take (t - f)).drop (halfN (t - f)))).2 ≠ 0 := by simpa using h4
        rw [hr, if_neg (by simpa using h3), if_pos h4]; exact ⟨rfl, rfl⟩
      · have h3 : (tRoot (((l.drop f).take (t - f)).take (halfN (t - f)))).2 = 0 := by simpa using h3
        have h4 : (tRoot (((l.drop f).take (t - f)).drop (halfN (t - f)))).2 = 0 := by simpa using h4
        rw [hr, if_neg (by simpa using h3), if_neg (by simpa using h4)]; exact ⟨rfl, rfl⟩

theorem good_RootOf (hG : GlobOk G0) (l : List By) (nl : Bool) : Good PG nG G0 f_greatsealref_RootOf [.sl 1 nl none (l.map S1)] [] (.tup [.str (rootOf l).1, .int .i64 (rootOf l).2]) [] := by
  refine good_of_run prOk (by kernel_rfl) (greatsealref_RootOf_run nl _ G0 _ ?_)
  simp only [ifK_iff, decide_eq_true_eq, decide_eq_false_iff_not, List.length_map, beq_iff_eq, beq_eq_false_iff_ne]
  refine ⟨fun h => ?_, fun h => ⟨fun h0 => ?_, fun h0 => ?_⟩⟩
  · rw [rootOf, if_pos (by omega)]; exact ⟨rfl, trivial⟩
  · rw [rootOf, if_neg (by omega), tRoot_zero (by omega)]; exact ⟨rfl, trivial⟩
  · have g := good_RootOf1 hG l nl (by omega) l.length 0 l.length (by omega) (Nat.le_refl _) (by omega)
    have e : (l.drop 0).take (l.length - 0) = l := by simp
    rw [e] at g
    refine ⟨_, _, nl, l.map S1, g, ?_⟩
    rw [rootOf, if_neg (by omega)]; exact ⟨rfl, trivial⟩
end Go.Ab

namespace Go.Ab
open Go.Proofs Go.Gs
variable {G0 : Nat → Option Obj}

theorem getD_map {l : List By} {i : Nat} (h : i < l.length) : (l.map S1)[i]? = some [AV.str l[i]] := by rw [List.getElem?_map, List.getElem?_eq_getElem h]; rfl

theorem eq_loop (a b : List By) (na nb : Bool) (hl : a.length = b.length) (hb : (a.length : Int) ≤ 9223372036854775806) : ∀ (m i : Nat), a.length - i ≤ m → i ≤ a.length → (∀ j, j < i → a[j]? = b[j]?) →
    Does PG nG G0 (fnOf PG f_slices_Equal_string) 0 (lp PG f_slices_Equal_string 0) (mkT 26 [(0, .sl 1 na none (a.map S1)), (1, .sl 1 nb none (b.map S1)), (12, .int .i64 (a.map S1).length), (13, .int .i64 i)]) [] fun r' H'' => r' = .bool (a == b) ∧ H'' = [] := by
  intro m
  induction m with
  | zero =>
    intro i h1 h2 h3
    refine does_of_run prOk (slices_Equal_string_l0_run G0 na _ nb _ _ _ _ ?_)
    simp only [ifK_iff, decide_eq_true_eq, decide_eq_false_iff_not, List.length_map]
    refine ⟨fun h => by omega, fun h => ⟨?_, trivial⟩⟩
    have : a = b := List.ext_getElem? fun j => by
      rcases Nat.lt_or_ge j i with hj | hj
      · exact h3 j hj
      · rw [List.getElem?_eq_none (by omega), List.getElem?_eq_none (by omega)]
    simp [this]
  | succ m ih =>
    intro i h1 h2 h3
    refine does_of_run prOk (slices_Equal_string_l0_run G0 na _ nb _ _ _ _ ?_)
    simp only [ifK_iff, decide_eq_true_eq, decide_eq_false_iff_not, List.length_map, Int.toNat_natCast, Bool.not_eq_true', Bool.not_eq_false']
    refine ⟨fun h => ⟨by omega, a[i]'(by omega), getD_map (by omega), by omega, b[i]'(by omega), getD_map (by omega), fun h4 => ⟨?_, trivial⟩, fun h4 => ?_⟩, fun h => ⟨?_, trivial⟩⟩
    · have hne : a[i]'(by omega) ≠ b[i]'(by omega) := by simpa using h4
      have : a ≠ b := by rintro rfl; exact hne rfl
      simp [this]
    · have he : a[i]'(by omega) = b[i]'(by omega) := by simpa using h4
      have := ih (i + 1) (by omega) (by omega) fun j hj => by
        rcases Nat.lt_or_ge j i with hj2 | hj2
        · exact h3 j hj2
        · obtain rfl : j = i := by omega
          rw [List.getElem?_eq_getElem (by omega), List.getElem?_eq_getElem (by omega), he]
      rw [wrap64 (by omega) (by omega)]
      rw [List.length_map] at this
      exact this
    · have : a = b := List.ext_getElem? fun j => by
        rcases Nat.lt_or_ge j i with hj | hj
        · exact h3 j hj
        · rw [List.getElem?_eq_none (by omega), List.getElem?_eq_none (by omega)]
      simp [this]

theorem good_Equal (a b : List By) (na nb : Bool) (hb : (a.length : Int) ≤ 9223372036854775806) : Good PG nG G0 f_slices_Equal_string [.sl 1 na none (a.map S1), .sl 1 nb none (b.map S1)] [] (.bool (a == b)) [] := by
  refine good_of_run prOk (by kernel_rfl) (slices_Equal_string_run na _ nb _ G0 _ ?_)
  simp only [ifK_iff, bne_iff_ne, ne_eq, List.length_map, bne_eq_false_iff_eq]
  refine ⟨fun h => ⟨?_, trivial⟩, fun h => ?_⟩
  · have : a ≠ b := by rintro rfl; exact h rfl
    simp [this]
  · have := eq_loop (G0 := G0) a b na nb (by omega) hb a.length 0 (by omega) (by omega) (fun j hj => by omega)
    rw [List.length_map] at this
    exact this

theorem good_planted (hG : GlobOk G0) : Good PG nG G0 f_greatseallaw_planted [] [] (.bool true) [] := by
  refine good_of_run prOk (by kernel_rfl) (greatseallaw_planted_run G0 _ ?_)
  have g1 := good_Root' hG [[97], [98], [99]] false
  have g2 := good_Root' hG [] true
  have e1 : rootOf [[97], [98], [99]] = ([78, 55, 58, 78, 50, 58, 76, 97, 76, 98, 76, 99], 0) := by
    simp [rootOf, tRoot, halfN, tLeaf, tNode, Lib.itoa, Lib.decDigits]
  have e2 : rootOf [] = ([69], 0) := by simp [rootOf, tRoot]
  rw [e1] at g1
  rw [e2] at g2
  have h5 := good_Half (G0 := G0) 5
  have h1 := good_Half (G0 := G0) 1
  have hh : halfN (Int.toNat 5) = 4 := by decide
  rw [hh] at h5
  refine ⟨_, _, g1, _, _, h5, _, _, h1, _, _, g2, ?_⟩
  simp [ifK]

end Go.Ab

namespace Go.Gs

def valD (l : List UInt8) : Nat := l.foldl (fun v c => v * 10 + (c.toNat - 48)) 0

theorem digit_toNat (k : Nat) (h : k < 10) : (UInt8.ofNat (48 + k)).toNat = 48 + k := by
  simp [UInt8.toNat_ofNat']; omega

theorem valD_dec (u : Nat) : valD (Lib.decDigits u) = u := by
  induction u using Nat.strongRecOn with
  | _ u ih =>
    rw [Lib.decDigits]
    split
    · rename_i h
      simp only [valD, List.foldl_cons, List.foldl_nil]
      rw [digit_toNat u h]; omega
    · rename_i h
      have := ih (u / 10) (by omega)
      unfold valD at this ⊢
      rw [List.foldl_append, this]
      simp only [List.foldl_cons, List.foldl_nil]
      rw [digit_toNat _ (by omega)]; omega

theorem dec_inj {m n : Nat} (h : Lib.decDigits m = Lib.decDigits n) : m = n := by
  rw [← valD_dec m, h, valD_dec]

theorem dec_digit (u : Nat) : ∀ c ∈ Lib.decDigits u, 48 ≤ c.toNat ∧ c.toNat ≤ 57 := by
  induction u using Nat.strongRecOn with
  | _ u ih =>
    rw [Lib.decDigits]
    split
    · rename_i h
      intro c hc
      have hc := List.mem_singleton.1 hc
      subst hc
      rw [digit_toNat u h]; omega
    · rename_i h
      intro c hc
      rcases List.mem_append.1 hc with hc | hc
      · exact ih (u / 10) (by omega) c hc
      · have hc := List.mem_singleton.1 hc
        subst hc
        rw [digit_toNat _ (by omega)]; omega

theorem split_first {x : UInt8} : ∀ {a b c d : List UInt8}, x ∉ a → x ∉ c → a ++ x :: b = c ++ x :: d → a = c ∧ b = d
  | [], b, [], d, _, _, h => by simp at h; exact ⟨rfl, h⟩
  | [], b, y :: c, d, _, hc, h => by simp at h; exact absurd h.1 (fun e => hc (by simp [e]))
  | y :: a, b, [], d, ha, _, h => by simp at h; exact absurd h.1.symm (fun e => ha (by simp [e]))
  | y :: a, b, z :: c, d, ha, hc, h => by
    simp only [List.cons_append, List.cons.injEq] at h
    obtain ⟨h1, h2⟩ := split_first (fun e => ha (by simp [e])) (fun e => hc (by simp [e])) h.2
    exact ⟨by rw [h.1, h1], h2⟩

theorem itoa_nat (n : Nat) : Lib.itoa n = Lib.decDigits n := by
  unfold Lib.itoa
  rw [if_neg (by omega)]; simp

theorem node_inj {a b c d : By} (h : (78 : UInt8) :: (Lib.itoa a.length ++ 58 :: (a ++ b)) = 78 :: (Lib.itoa c.length ++ 58 :: (c ++ d))) : a = c ∧ b = d := by
  rw [itoa_nat, itoa_nat] at h
  simp only [List.cons.injEq, true_and] at h
  have no : ∀ n : Nat, (58 : UInt8) ∉ Lib.decDigits n := fun n hc => by
    have := dec_digit n _ hc
    simp at this
  obtain ⟨h1, h2⟩ := split_first (no _) (no _) h
  have hl := dec_inj h1
  exact List.append_inj h2 hl

theorem tNode_ok {a b : By} (h : (tNode a b).2 = 0) : (tNode a b).1 = 78 :: (Lib.itoa a.length ++ 58 :: (a ++ b)) := by
  unfold tNode at h ⊢
  split
  · rename_i hc; rw [if_pos hc] at h; cases h
  · rfl

theorem tLeaf_ok {s : By} (h : (tLeaf s).2 = 0) : (tLeaf s).1 = 76 :: s := by
  unfold tLeaf at h ⊢
  split
  · rename_i hc; rw [if_pos hc] at h; cases h
  · rfl

/-- Which of three a good seal is. -/
theorem tRoot_cases {l : List By} (h : (tRoot l).2 = 0) :
    (l = [] ∧ (tRoot l).1 = [69]) ∨ (∃ s, l = [s] ∧ (tRoot l).1 = 76 :: s) ∨
    (2 ≤ l.length ∧ (tRoot (l.take (halfN l.length))).2 = 0 ∧ (tRoot (l.drop (halfN l.length))).2 = 0 ∧
      (tRoot l).1 = 78 :: (Lib.itoa (tRoot (l.take (halfN l.length))).1.length ++ 58 :: ((tRoot (l.take (halfN l.length))).1 ++ (tRoot (l.drop (halfN l.length))).1))) := by
  rcases Nat.lt_or_ge l.length 2 with h2 | h2
  · by_cases h0 : l.length = 0
    · exact .inl ⟨List.eq_nil_of_length_eq_zero h0, by rw [tRoot_zero h0]⟩
    · obtain ⟨s, rfl⟩ := List.length_eq_one_iff.1 (show l.length = 1 by omega)
      rw [tRoot_one rfl] at h ⊢
      exact .inr (.inl ⟨s, rfl, tLeaf_ok h⟩)
  · rw [tRoot_two h2] at h ⊢
    split at h
    · rename_i hc; exact absurd h hc
    · rename_i h3
      split at h
      · rename_i hc; exact absurd h hc
      · rename_i h4
        have h3 : (tRoot (l.take (halfN l.length))).2 = 0 := by simpa using h3
        have h4 : (tRoot (l.drop (halfN l.length))).2 = 0 := by simpa using h4
        rw [if_neg (by simpa using h3), if_neg (by simpa using h4)]
        exact .inr (.inr ⟨h2, h3, h4, tNode_ok h⟩)

/-- NO TWO LISTS HAVE ONE SEAL. -/
theorem tRoot_inj : ∀ (n : Nat) (l m : List By), l.length ≤ n → (tRoot l).2 = 0 → (tRoot m).2 = 0 → (tRoot l).1 = (tRoot m).1 → l = m := by
  intro n
  induction n with
  | zero =>
    intro l m hn h1 h2 he
    have hl : l = [] := List.eq_nil_of_length_eq_zero (by omega)
    subst hl
    rw [tRoot_zero rfl] at he
    rcases tRoot_cases h2 with ⟨rfl, _⟩ | ⟨s, rfl, h⟩ | ⟨_, _, _, h⟩
    · rfl
    · rw [h] at he; simp at he
    · rw [h] at he; simp at he
  | succ n ih =>
    intro l m hn h1 h2 he
    have d1 : (69 : UInt8) ≠ 76 := by decide
    have d2 : (69 : UInt8) ≠ 78 := by decide
    have d3 : (76 : UInt8) ≠ 78 := by decide
    rcases tRoot_cases h1 with ⟨e1, g1⟩ | ⟨s, e1, g1⟩ | ⟨a1, a2, a3, g1⟩ <;> rcases tRoot_cases h2 with ⟨e2, g2⟩ | ⟨t, e2, g2⟩ | ⟨b1, b2, b3, g2⟩ <;> rw [g1, g2] at he
    · rw [e1, e2]
    · exact absurd (List.cons.inj he).1 d1
    · exact absurd (List.cons.inj he).1 d2
    · exact absurd (List.cons.inj he).1.symm d1
    · rw [e1, e2, (List.cons.inj he).2]
    · exact absurd (List.cons.inj he).1 d3
    · exact absurd (List.cons.inj he).1.symm d2
    · exact absurd (List.cons.inj he).1.symm d3
    · obtain ⟨e1, e2⟩ := node_inj he
      have hk1 := halfN_pos l.length
      have hk2 := halfN_lt a1
      have i1 := ih _ _ (by simp only [List.length_take]; omega) a2 b2 e1
      have i2 := ih _ _ (by simp only [List.length_drop]; omega) a3 b3 e2
      rw [← List.take_append_drop (halfN l.length) l, ← List.take_append_drop (halfN m.length) m, i1, i2]
end Go.Gs

namespace Go.Ab
open Go.Proofs Go.Gs
variable {G0 : Nat → Option Obj}

theorem good_at (k : Int) (n : Nat) (hn : 0 < n) (h1 : (n : Int) ≤ 1000000000) (h2 : -9223372036854775808 ≤ k ∧ k ≤ 9223372036854775807) : Good PG nG G0 f_greatseallaw_at [.int .i64 k, .int .i64 n] [] (.int .i64 (k % n)) [] := by
  refine good_of_run prOk (by kernel_rfl) (greatseallaw_at_run k n G0 _ ?_)
  simp only [ifK_iff, decide_eq_true_eq, decide_eq_false_iff_not]
  have ht : Int.tmod k n = if k < 0 ∧ k % n ≠ 0 then k % n - n else k % n := by
    rw [Int.tmod_eq_emod]
    by_cases h0 : 0 ≤ k
    · rw [if_pos (.inl h0), if_neg (by omega)]; omega
    · by_cases hd : (n : Int) ∣ k
      · have : k % n = 0 := Int.emod_eq_zero_of_dvd hd
        rw [if_pos (.inr hd), if_neg (by omega)]; omega
      · have : k % n ≠ 0 := fun h => hd (Int.dvd_of_emod_eq_zero h)
        rw [if_neg (by omega), if_pos ⟨by omega, this⟩]
        omega
  have hp := Int.emod_nonneg k (show (n : Int) ≠ 0 by omega)
  have hq := Int.emod_lt_of_pos k (show (0 : Int) < n by omega)
  rw [ht]
  refine ⟨by omega, fun h => ⟨?_, trivial⟩, fun h => ⟨?_, trivial⟩⟩
  · rw [wrap64 (by split <;> omega) (by split <;> omega)]
    congr 1
    split at h <;> rename_i hc
    · rw [if_pos hc]; omega
    · omega
  · congr 1
    split at h <;> rename_i hc
    · omega
    · rw [if_neg hc]

theorem good_Clone (l : List By) (nl : Bool) (hnl : nl = true → l = []) (hl : l.length * 16 ≤ 140737488355328) : Good PG nG G0 f_slices_Clone_string [.sl 1 nl none (l.map S1)] [] (.sl 1 nl (some 0) (l.map S1)) [some (.grow 1 l.length)] := by
  refine good_of_run prOk (by kernel_rfl) (slices_Clone_string_run nl _ G0 _ ?_)
  simp only [ifK_iff, List.length_map, Nat.zero_add, List.nil_append, Bool.false_and]
  refine ⟨fun h => ?_, fun h => ⟨hl, trivial, ?_⟩⟩
  · have := hnl h
    subst this; subst h
    exact ⟨rfl, rfl⟩
  · subst h; exact ⟨rfl, trivial⟩

theorem plain_texts (l : List By) : plainXs (l.map S1) := by
  intro x hx y hy
  obtain ⟨s, _, rfl⟩ := List.mem_map.1 hx
  simp [S1] at hy
  subst hy; rfl

theorem good_Clone_arr (l : List By) (hl : l.length * 16 ≤ 140737488355328) : Good PG nG G0 f_slices_Clone_string [.sl 1 false none (l.map S1)] [] (.rsl 1 0 0 (l.map S1).length) [some (.arr 1 (l.map S1))] := by
  refine Good.thaw (plain_texts l) ?_
  have := good_Clone (G0 := G0) l false (fun h => by cases h) hl
  rw [List.length_map]
  exact this

theorem good_in (n a b : Int) : Good PG nG G0 f_greatsealref_in [.int .i64 n, .int .i64 a, .int .i64 b] [] (.bool (decide (a ≤ n ∧ n ≤ b))) [] := by
  refine good_of_run prOk (by kernel_rfl) (greatsealref_in_run n a b G0 _ ?_)
  simp only [ifK_iff, decide_eq_true_eq, decide_eq_false_iff_not]
  exact ⟨fun h => ⟨by simp [h], trivial⟩, fun h => ⟨by simp [h], trivial⟩⟩

end Go.Ab

namespace Go.Ab
open Go.Proofs
set_option maxRecDepth 100000

def an_trie_Check : FAnn := ⟨[], [(0, [0, 7], []), (2, [24], [])], none, []⟩
def an_trie_Root : FAnn := ⟨[], [], none, []⟩
def an_trie_root : FAnn := ⟨[], [], none, []⟩
def an_trie_Shows : FAnn := ⟨[], [(0, [0, 1, 11, 40, 41, 42], [])], none, []⟩
def an_trie_Path : FAnn := ⟨[], [(0, [0, 1, 7, 8], [7])], none, []⟩
def an_greatsealref_CheckMap : FAnn := ⟨[], [(0, [0, 3, 7], [])], none, []⟩
def an_greatsealref_MapShows : FAnn := ⟨[], [(0, [0, 1, 11, 12, 34, 35, 36], [])], none, []⟩
def an_maps_Equal_string : FAnn := ⟨[], [(0, [1, 15], [])], none, []⟩

theorem trie_Check_run (nlm0 : Bool) (m0 : List (AV × AV)) (G0 : Nat → Option Go.Obj) (R : AV → List (Option Blk) → Prop) (h :
  Does PG nG G0 (fnOf PG f_trie_Check) (0 : Nat) (lp PG f_trie_Check (0 : Nat)) (mkT (35 : Nat) [((0 : Nat), AV.mp nlm0 m0), ((7 : Nat), AV.int Go.IntKind.i64 (0 : Int))]) [] R) :
  Hold (runF PG ty nG G0 an_trie_Check f_trie_Check [AV.mp nlm0 m0] [] R) := kshow h (by kernel_rfl)

theorem trie_Check_l0_run (G0 : Nat → Option Obj) (b0 : Bool) (es1 : List (AV × AV)) (n2 : Int) (R : AV → List (Option Blk) → Prop) (h :
  ifK (decide (n2 < (16 : Int)))
  (∃ s3 b4,
    mlookD Go.IntKind.i64 n2 (AV.str []) es1 = some (AV.str s3, b4) ∧
      ifK b4
        (ifK (decide ((↑(List.length s3) : Int) > (12 : Int))) (R (AV.int Go.IntKind.i64 (2 : Int)) [])
          (Does PG nG G0 (fnOf PG f_trie_Check) (0 : Nat) (lp PG f_trie_Check (0 : Nat)) (mkT (35 : Nat) [((0 : Nat), AV.mp b0 es1), ((7 : Nat), AV.int Go.IntKind.i64 (Go.IntKind.wrap Go.IntKind.i64 (n2 + (1 : Int))))]) [] R))
        (Does PG nG G0 (fnOf PG f_trie_Check) (0 : Nat) (lp PG f_trie_Check (0 : Nat)) (mkT (35 : Nat) [((0 : Nat), AV.mp b0 es1), ((7 : Nat), AV.int Go.IntKind.i64 (Go.IntKind.wrap Go.IntKind.i64 (n2 + (1 : Int))))]) [] R))
  (Does PG nG G0 (fnOf PG f_trie_Check) (0 : Nat) (lp PG f_trie_Check (1 : Nat)) (mkT (35 : Nat) [((24 : Nat), AV.iter (0 : Nat))]) [some (Blk.iter es1 none)] R)) :
  Hold (runL PG ty nG G0 an_trie_Check f_trie_Check (0 : Nat) (0 : Nat) (mkT (35 : Nat) [((0 : Nat), AV.mp b0 es1), ((7 : Nat), AV.int Go.IntKind.i64 n2)]) [] R) := kshow h (by kernel_rfl)

theorem trie_Check_l1_run (G0 : Nat → Option Obj) (es5 : List (AV × AV)) (R : AV → List (Option Blk) → Prop) (h :
  (∀ (i : Nat) (p : AV × AV), es5[i]? = some p → ∃ n6 s7, p = (AV.int Go.IntKind.i64 n6, AV.str s7)) ∧
  (es5 = [] → R (AV.int Go.IntKind.i64 (0 : Int)) []) ∧
    ∀ (i : Nat) (n : Int) (s : List UInt8),
      es5[i]? = some (AV.int Go.IntKind.i64 n, AV.str s) →
        ifK (decide (n < (0 : Int))) (R (AV.int Go.IntKind.i64 (5 : Int)) [])
          (ifK (decide (n ≥ (16 : Int))) (R (AV.int Go.IntKind.i64 (5 : Int)) [])
            (Does PG nG G0 (fnOf PG f_trie_Check) (0 : Nat) (lp PG f_trie_Check (1 : Nat)) (mkT (35 : Nat) [((24 : Nat), AV.iter (0 : Nat))]) [some (Blk.iter (List.eraseIdx es5 i) none)] R))) :
  Hold (runL PG ty nG G0 an_trie_Check f_trie_Check (1 : Nat) (0 : Nat) (mkT (35 : Nat) [((24 : Nat), AV.iter (0 : Nat))]) [some (Blk.iter es5 none)] R) := kshow h (by kernel_rfl)

theorem trie_Root_run (nlm0 : Bool) (m0 : List (AV × AV)) (G0 : Nat → Option Go.Obj) (R : AV → List (Option Blk) → Prop) (h :
  ∃ n0,
  Good PG nG G0 f_trie_Check [AV.mp nlm0 m0] [] (AV.int Go.IntKind.i64 n0) [] ∧
    ifK (n0 != (0 : Int)) (R (AV.tup [AV.str [], AV.int Go.IntKind.i64 n0]) [])
      (∃ s1 n2, Good PG nG G0 f_trie_root [AV.mp nlm0 m0, AV.int Go.IntKind.i64 (0 : Int), AV.int Go.IntKind.i64 (16 : Int)] [] (AV.tup [AV.str s1, AV.int Go.IntKind.i64 n2]) [] ∧ R (AV.tup [AV.str s1, AV.int Go.IntKind.i64 n2]) [])) :
  Hold (runF PG ty nG G0 an_trie_Root f_trie_Root [AV.mp nlm0 m0] [] R) := kshow h (by kernel_rfl)

theorem trie_root_run (nlm0 : Bool) (m0 : List (AV × AV)) (from1 : Int) (many2 : Int) (G0 : Nat → Option Go.Obj) (R : AV → List (Option Blk) → Prop) (h :
  ifK (many2 == (1 : Int))
  (∃ s0 b1,
    mlookD Go.IntKind.i64 from1 (AV.str []) m0 = some (AV.str s0, b1) ∧
      ifK b1 (∃ s2 n3, Good PG nG G0 f_seal_Leaf [AV.str s0] [] (AV.tup [AV.str s2, AV.int Go.IntKind.i64 n3]) [] ∧ R (AV.tup [AV.str s2, AV.int Go.IntKind.i64 n3]) [])
        (∃ s4, Good PG nG G0 f_seal_None [] [] (AV.str s4) [] ∧ R (AV.tup [AV.str s4, AV.int Go.IntKind.i64 (0 : Int)]) []))
  ((2 : Int) ≠ (0 : Int) ∧
    ∃ s5 n6,
      Good PG nG G0 f_trie_root [AV.mp nlm0 m0, AV.int Go.IntKind.i64 from1, AV.int Go.IntKind.i64 (Go.IntKind.wrap Go.IntKind.i64 (Int.tdiv many2 (2 : Int)))] [] (AV.tup [AV.str s5, AV.int Go.IntKind.i64 n6]) [] ∧
        ifK (n6 != (0 : Int)) (R (AV.tup [AV.str [], AV.int Go.IntKind.i64 n6]) [])
          ((2 : Int) ≠ (0 : Int) ∧
            (2 : Int) ≠ (0 : Int) ∧
              ∃ s7 n8,
                Good PG nG G0 f_trie_root
                    [AV.mp nlm0 m0, AV.int Go.IntKind.i64 (Go.IntKind.wrap Go.IntKind.i64 (from1 + Go.IntKind.wrap Go.IntKind.i64 (Int.tdiv many2 (2 : Int)))),
                      AV.int Go.IntKind.i64 (Go.IntKind.wrap Go.IntKind.i64 (Int.tdiv many2 (2 : Int)))]
                    [] (AV.tup [AV.str s7, AV.int Go.IntKind.i64 n8]) [] ∧
                  ifK (n8 != (0 : Int)) (R (AV.tup [AV.str [], AV.int Go.IntKind.i64 n8]) [])
                    (∃ s9 n10, Good PG nG G0 f_seal_Node [AV.str s5, AV.str s7] [] (AV.tup [AV.str s9, AV.int Go.IntKind.i64 n10]) [] ∧ R (AV.tup [AV.str s9, AV.int Go.IntKind.i64 n10]) [])))) :
  Hold (runF PG ty nG G0 an_trie_root f_trie_root [AV.mp nlm0 m0, AV.int Go.IntKind.i64 from1, AV.int Go.IntKind.i64 many2] [] R) := kshow h (by kernel_rfl)

theorem trie_Shows_run (all0 : List UInt8) (key1 : Int) (value2 : List UInt8) (there3 : Bool) (nll4 : Bool) (l4 : List (List AV)) (G0 : Nat → Option Go.Obj) (R : AV → List (Option Blk) → Prop) (h :
  ifK (decide (key1 < (0 : Int))) (R (AV.int Go.IntKind.i64 (5 : Int)) [])
  (ifK (decide (key1 ≥ (16 : Int))) (R (AV.int Go.IntKind.i64 (5 : Int)) [])
    (ifK (!there3)
      (ifK (!value2 == []) (R (AV.int Go.IntKind.i64 (4 : Int)) [])
        (ifK ((↑(List.length l4) : Int) != (4 : Int)) (R (AV.int Go.IntKind.i64 (7 : Int)) [])
          (∃ s0,
            Good PG nG G0 f_seal_None [] [] (AV.str s0) [] ∧
              ifK there3
                (∃ s1 n2,
                  Good PG nG G0 f_seal_Leaf [AV.str value2] [] (AV.tup [AV.str s1, AV.int Go.IntKind.i64 n2]) [] ∧
                    ifK (n2 != (0 : Int)) (R (AV.int Go.IntKind.i64 n2) [])
                      (Does PG nG G0 (fnOf PG f_trie_Shows) (0 : Nat) (lp PG f_trie_Shows (0 : Nat))
                        (mkT (71 : Nat)
                          [((0 : Nat), AV.str all0), ((1 : Nat), AV.int Go.IntKind.i64 key1), ((11 : Nat), AV.str s1), ((40 : Nat), AV.sl (1 : Nat) nll4 none l4), ((41 : Nat), AV.int Go.IntKind.i64 (↑(List.length l4) : Int)),
                            ((42 : Nat), AV.int Go.IntKind.i64 (0 : Int))])
                        [] R))
                (Does PG nG G0 (fnOf PG f_trie_Shows) (0 : Nat) (lp PG f_trie_Shows (0 : Nat))
                  (mkT (71 : Nat)
                    [((0 : Nat), AV.str all0), ((1 : Nat), AV.int Go.IntKind.i64 key1), ((11 : Nat), AV.str s0), ((40 : Nat), AV.sl (1 : Nat) nll4 none l4), ((41 : Nat), AV.int Go.IntKind.i64 (↑(List.length l4) : Int)),
                      ((42 : Nat), AV.int Go.IntKind.i64 (0 : Int))])
                  [] R))))
      (ifK ((↑(List.length l4) : Int) != (4 : Int)) (R (AV.int Go.IntKind.i64 (7 : Int)) [])
        (∃ s3,
          Good PG nG G0 f_seal_None [] [] (AV.str s3) [] ∧
            ifK there3
              (∃ s4 n5,
                Good PG nG G0 f_seal_Leaf [AV.str value2] [] (AV.tup [AV.str s4, AV.int Go.IntKind.i64 n5]) [] ∧
                  ifK (n5 != (0 : Int)) (R (AV.int Go.IntKind.i64 n5) [])
                    (Does PG nG G0 (fnOf PG f_trie_Shows) (0 : Nat) (lp PG f_trie_Shows (0 : Nat))
                      (mkT (71 : Nat)
                        [((0 : Nat), AV.str all0), ((1 : Nat), AV.int Go.IntKind.i64 key1), ((11 : Nat), AV.str s4), ((40 : Nat), AV.sl (1 : Nat) nll4 none l4), ((41 : Nat), AV.int Go.IntKind.i64 (↑(List.length l4) : Int)),
                          ((42 : Nat), AV.int Go.IntKind.i64 (0 : Int))])
                      [] R))
              (Does PG nG G0 (fnOf PG f_trie_Shows) (0 : Nat) (lp PG f_trie_Shows (0 : Nat))
                (mkT (71 : Nat)
                  [((0 : Nat), AV.str all0), ((1 : Nat), AV.int Go.IntKind.i64 key1), ((11 : Nat), AV.str s3), ((40 : Nat), AV.sl (1 : Nat) nll4 none l4), ((41 : Nat), AV.int Go.IntKind.i64 (↑(List.length l4) : Int)),
                    ((42 : Nat), AV.int Go.IntKind.i64 (0 : Int))])
                [] R)))))) :
  Hold (runF PG ty nG G0 an_trie_Shows f_trie_Shows [AV.str all0, AV.int Go.IntKind.i64 key1, AV.str value2, AV.bool there3, AV.sl (1 : Nat) nll4 none l4] [] R) := kshow h (by kernel_rfl)

theorem trie_Shows_l0_run (G0 : Nat → Option Obj) (s6 : List UInt8) (n7 : Int) (s8 : List UInt8) (b9 : Bool) (xs10 : List (List AV)) (n11 : Int) (n12 : Int) (R : AV → List (Option Blk) → Prop) (h :
  ifK (decide (n12 < n11))
  ((0 : Int) ≤ n12 ∧
    ∃ s13,
      xs10[Int.toNat n12]? = some [AV.str s13] ∧
        (0 : Int) ≤ n12 ∧
          ifK (Go.IntKind.wrap Go.IntKind.i64 (↑(BitVec.toNat (BitVec.ofInt (64 : Nat) (Int.fdiv n7 ((2 : Int) ^ min (Int.toNat n12) (64 : Nat))) &&& BitVec.ofInt (64 : Nat) (1 : Int))) : Int) == (1 : Int))
            (∃ s14 n15,
              Good PG nG G0 f_seal_Node [AV.str s13, AV.str s8] [] (AV.tup [AV.str s14, AV.int Go.IntKind.i64 n15]) [] ∧
                ifK (n15 != (0 : Int)) (R (AV.int Go.IntKind.i64 n15) [])
                  (Does PG nG G0 (fnOf PG f_trie_Shows) (0 : Nat) (lp PG f_trie_Shows (0 : Nat))
                    (mkT (71 : Nat)
                      [((0 : Nat), AV.str s6), ((1 : Nat), AV.int Go.IntKind.i64 n7), ((11 : Nat), AV.str s14), ((40 : Nat), AV.sl (1 : Nat) b9 none xs10), ((41 : Nat), AV.int Go.IntKind.i64 n11),
                        ((42 : Nat), AV.int Go.IntKind.i64 (Go.IntKind.wrap Go.IntKind.i64 (n12 + (1 : Int))))])
                    [] R))
            (∃ s16 n17,
              Good PG nG G0 f_seal_Node [AV.str s8, AV.str s13] [] (AV.tup [AV.str s16, AV.int Go.IntKind.i64 n17]) [] ∧
                ifK (n17 != (0 : Int)) (R (AV.int Go.IntKind.i64 n17) [])
                  (Does PG nG G0 (fnOf PG f_trie_Shows) (0 : Nat) (lp PG f_trie_Shows (0 : Nat))
                    (mkT (71 : Nat)
                      [((0 : Nat), AV.str s6), ((1 : Nat), AV.int Go.IntKind.i64 n7), ((11 : Nat), AV.str s16), ((40 : Nat), AV.sl (1 : Nat) b9 none xs10), ((41 : Nat), AV.int Go.IntKind.i64 n11),
                        ((42 : Nat), AV.int Go.IntKind.i64 (Go.IntKind.wrap Go.IntKind.i64 (n12 + (1 : Int))))])
                    [] R)))
  (ifK (!s8 == s6) (R (AV.int Go.IntKind.i64 (7 : Int)) []) (R (AV.int Go.IntKind.i64 (0 : Int)) []))) :
  Hold (runL PG ty nG G0 an_trie_Shows f_trie_Shows (0 : Nat) (0 : Nat)
  (mkT (71 : Nat) [((0 : Nat), AV.str s6), ((1 : Nat), AV.int Go.IntKind.i64 n7), ((11 : Nat), AV.str s8), ((40 : Nat), AV.sl (1 : Nat) b9 none xs10), ((41 : Nat), AV.int Go.IntKind.i64 n11), ((42 : Nat), AV.int Go.IntKind.i64 n12)]) [] R) := kshow h (by kernel_rfl)

theorem trie_Path_run (nlm0 : Bool) (m0 : List (AV × AV)) (key1 : Int) (G0 : Nat → Option Go.Obj) (R : AV → List (Option Blk) → Prop) (h :
  ∃ n0,
  Good PG nG G0 f_trie_Check [AV.mp nlm0 m0] [] (AV.int Go.IntKind.i64 n0) [] ∧
    ifK (n0 != (0 : Int)) (R (AV.tup [AV.sl (1 : Nat) true none [], AV.int Go.IntKind.i64 n0]) [])
      (ifK (decide (key1 < (0 : Int))) (R (AV.tup [AV.sl (1 : Nat) true none [], AV.int Go.IntKind.i64 (5 : Int)]) [])
        (ifK (decide (key1 ≥ (16 : Int))) (R (AV.tup [AV.sl (1 : Nat) true none [], AV.int Go.IntKind.i64 (5 : Int)]) [])
          (Does PG nG G0 (fnOf PG f_trie_Path) (0 : Nat) (lp PG f_trie_Path (0 : Nat))
            (mkT (49 : Nat) [((0 : Nat), AV.mp nlm0 m0), ((1 : Nat), AV.int Go.IntKind.i64 key1), ((7 : Nat), AV.sl (1 : Nat) true (some (0 : Nat)) []), ((8 : Nat), AV.int Go.IntKind.i64 (1 : Int))]) [some (Blk.grow (1 : Nat) (0 : Nat))]
            R)))) :
  Hold (runF PG ty nG G0 an_trie_Path f_trie_Path [AV.mp nlm0 m0, AV.int Go.IntKind.i64 key1] [] R) := kshow h (by kernel_rfl)

theorem trie_Path_l0_run (G0 : Nat → Option Obj) (b1 : Bool) (es2 : List (AV × AV)) (n3 : Int) (b4 : Bool) (xs5 : List (List AV)) (n6 : Int) (m7 : Nat) (R : AV → List (Option Blk) → Prop) (h :
  ifK (decide (n6 < (16 : Int)))
  (n6 ≠ (0 : Int) ∧
    ∃ s8 n9,
      Good PG nG G0 f_trie_root
          [AV.mp b1 es2,
            AV.int Go.IntKind.i64 (Go.IntKind.wrap Go.IntKind.i64 (↑(BitVec.toNat (BitVec.ofInt (64 : Nat) (Go.IntKind.wrap Go.IntKind.i64 (Go.IntKind.wrap Go.IntKind.i64 (Int.tdiv n3 n6) * n6)) ^^^ BitVec.ofInt (64 : Nat) n6)) : Int)),
            AV.int Go.IntKind.i64 n6]
          [] (AV.tup [AV.str s8, AV.int Go.IntKind.i64 n9]) [] ∧
        ifK (n9 != (0 : Int)) (R (AV.tup [AV.sl (1 : Nat) true none [], AV.int Go.IntKind.i64 n9]) [])
          ((List.length xs5 + List.length [[AV.str s8]]) * (16 : Nat) ≤ (140737488355328 : Nat) ∧
            List.length xs5 = m7 ∧
              Does PG nG G0 (fnOf PG f_trie_Path) (0 : Nat) (lp PG f_trie_Path (0 : Nat))
                (mkT (49 : Nat)
                  [((0 : Nat), AV.mp b1 es2), ((1 : Nat), AV.int Go.IntKind.i64 n3), ((7 : Nat), AV.sl (1 : Nat) (b4 && List.isEmpty [[AV.str s8]]) (some (0 : Nat)) (xs5 ++ [[AV.str s8]])),
                    ((8 : Nat), AV.int Go.IntKind.i64 (Go.IntKind.wrap Go.IntKind.i64 (n6 * (2 : Int))))])
                [some (Blk.grow (1 : Nat) (m7 + List.length [[AV.str s8]]))] R))
  (R (AV.tup [AV.sl (1 : Nat) b4 none xs5, AV.int Go.IntKind.i64 (0 : Int)]) [])) :
  Hold (runL PG ty nG G0 an_trie_Path f_trie_Path (0 : Nat) (0 : Nat)
  (mkT (49 : Nat) [((0 : Nat), AV.mp b1 es2), ((1 : Nat), AV.int Go.IntKind.i64 n3), ((7 : Nat), AV.sl (1 : Nat) b4 (some (0 : Nat)) xs5), ((8 : Nat), AV.int Go.IntKind.i64 n6)]) [some (Blk.grow (1 : Nat) m7)] R) := kshow h (by kernel_rfl)

theorem greatsealref_CheckMap_run (nlm0 : Bool) (m0 : List (AV × AV)) (G0 : Nat → Option Go.Obj) (R : AV → List (Option Blk) → Prop) (h :
  Does PG nG G0 (fnOf PG f_greatsealref_CheckMap) (0 : Nat) (lp PG f_greatsealref_CheckMap (0 : Nat)) (mkT (27 : Nat) [((0 : Nat), AV.mp nlm0 m0), ((3 : Nat), AV.int Go.IntKind.i64 (0 : Int)), ((7 : Nat), AV.int Go.IntKind.i64 (0 : Int))]) [] R) :
  Hold (runF PG ty nG G0 an_greatsealref_CheckMap f_greatsealref_CheckMap [AV.mp nlm0 m0] [] R) := kshow h (by kernel_rfl)

theorem greatsealref_CheckMap_l0_run (G0 : Nat → Option Obj) (b0 : Bool) (es1 : List (AV × AV)) (n2 : Int) (n3 : Int) (R : AV → List (Option Blk) → Prop) (h :
  ifK (decide (n3 < (16 : Int)))
  (∃ s4 b5,
    mlookD Go.IntKind.i64 n3 (AV.str []) es1 = some (AV.str s4, b5) ∧
      ifK b5
        (ifK (decide ((↑(List.length s4) : Int) > (12 : Int))) (R (AV.int Go.IntKind.i64 (2 : Int)) [])
          (Does PG nG G0 (fnOf PG f_greatsealref_CheckMap) (0 : Nat) (lp PG f_greatsealref_CheckMap (0 : Nat))
            (mkT (27 : Nat) [((0 : Nat), AV.mp b0 es1), ((3 : Nat), AV.int Go.IntKind.i64 (Go.IntKind.wrap Go.IntKind.i64 (n2 + (1 : Int)))), ((7 : Nat), AV.int Go.IntKind.i64 (Go.IntKind.wrap Go.IntKind.i64 (n3 + (1 : Int))))]) [] R))
        (Does PG nG G0 (fnOf PG f_greatsealref_CheckMap) (0 : Nat) (lp PG f_greatsealref_CheckMap (0 : Nat))
          (mkT (27 : Nat) [((0 : Nat), AV.mp b0 es1), ((3 : Nat), AV.int Go.IntKind.i64 n2), ((7 : Nat), AV.int Go.IntKind.i64 (Go.IntKind.wrap Go.IntKind.i64 (n3 + (1 : Int))))]) [] R))
  (ifK (decide (n2 < (↑(List.length es1) : Int))) (R (AV.int Go.IntKind.i64 (5 : Int)) []) (R (AV.int Go.IntKind.i64 (0 : Int)) []))) :
  Hold (runL PG ty nG G0 an_greatsealref_CheckMap f_greatsealref_CheckMap (0 : Nat) (0 : Nat) (mkT (27 : Nat) [((0 : Nat), AV.mp b0 es1), ((3 : Nat), AV.int Go.IntKind.i64 n2), ((7 : Nat), AV.int Go.IntKind.i64 n3)]) [] R) := kshow h (by kernel_rfl)

theorem greatsealref_MapShows_run (all0 : List UInt8) (key1 : Int) (value2 : List UInt8) (there3 : Bool) (nll4 : Bool) (l4 : List (List AV)) (G0 : Nat → Option Go.Obj) (R : AV → List (Option Blk) → Prop) (h :
  ∃ b0,
  Good PG nG G0 f_greatsealref_in [AV.int Go.IntKind.i64 key1, AV.int Go.IntKind.i64 (0 : Int), AV.int Go.IntKind.i64 (15 : Int)] [] (AV.bool b0) [] ∧
    ifK (!b0) (R (AV.int Go.IntKind.i64 (5 : Int)) [])
      (ifK (!there3)
        (ifK (decide ((↑(List.length value2) : Int) > (0 : Int))) (R (AV.int Go.IntKind.i64 (4 : Int)) [])
          (ifK ((↑(List.length l4) : Int) != (4 : Int)) (R (AV.int Go.IntKind.i64 (7 : Int)) [])
            (ifK there3
              (∃ s1 n2,
                Good PG nG G0 f_greatsealref_LeafOf [AV.str value2] [] (AV.tup [AV.str s1, AV.int Go.IntKind.i64 n2]) [] ∧
                  Does PG nG G0 (fnOf PG f_greatsealref_MapShows) (0 : Nat) (lp PG f_greatsealref_MapShows (0 : Nat))
                    (mkT (69 : Nat)
                      [((0 : Nat), AV.str all0), ((1 : Nat), AV.int Go.IntKind.i64 key1), ((11 : Nat), AV.str s1), ((12 : Nat), AV.int Go.IntKind.i64 n2), ((34 : Nat), AV.sl (1 : Nat) nll4 none l4),
                        ((35 : Nat), AV.int Go.IntKind.i64 (↑(List.length l4) : Int)), ((36 : Nat), AV.int Go.IntKind.i64 (0 : Int))])
                    [] R)
              (Does PG nG G0 (fnOf PG f_greatsealref_MapShows) (0 : Nat) (lp PG f_greatsealref_MapShows (0 : Nat))
                (mkT (69 : Nat)
                  [((0 : Nat), AV.str all0), ((1 : Nat), AV.int Go.IntKind.i64 key1), ((11 : Nat), AV.str [(69 : UInt8)]), ((12 : Nat), AV.int Go.IntKind.i64 (0 : Int)), ((34 : Nat), AV.sl (1 : Nat) nll4 none l4),
                    ((35 : Nat), AV.int Go.IntKind.i64 (↑(List.length l4) : Int)), ((36 : Nat), AV.int Go.IntKind.i64 (0 : Int))])
                [] R))))
        (ifK ((↑(List.length l4) : Int) != (4 : Int)) (R (AV.int Go.IntKind.i64 (7 : Int)) [])
          (ifK there3
            (∃ s3 n4,
              Good PG nG G0 f_greatsealref_LeafOf [AV.str value2] [] (AV.tup [AV.str s3, AV.int Go.IntKind.i64 n4]) [] ∧
                Does PG nG G0 (fnOf PG f_greatsealref_MapShows) (0 : Nat) (lp PG f_greatsealref_MapShows (0 : Nat))
                  (mkT (69 : Nat)
                    [((0 : Nat), AV.str all0), ((1 : Nat), AV.int Go.IntKind.i64 key1), ((11 : Nat), AV.str s3), ((12 : Nat), AV.int Go.IntKind.i64 n4), ((34 : Nat), AV.sl (1 : Nat) nll4 none l4),
                      ((35 : Nat), AV.int Go.IntKind.i64 (↑(List.length l4) : Int)), ((36 : Nat), AV.int Go.IntKind.i64 (0 : Int))])
                  [] R)
            (Does PG nG G0 (fnOf PG f_greatsealref_MapShows) (0 : Nat) (lp PG f_greatsealref_MapShows (0 : Nat))
              (mkT (69 : Nat)
                [((0 : Nat), AV.str all0), ((1 : Nat), AV.int Go.IntKind.i64 key1), ((11 : Nat), AV.str [(69 : UInt8)]), ((12 : Nat), AV.int Go.IntKind.i64 (0 : Int)), ((34 : Nat), AV.sl (1 : Nat) nll4 none l4),
                  ((35 : Nat), AV.int Go.IntKind.i64 (↑(List.length l4) : Int)), ((36 : Nat), AV.int Go.IntKind.i64 (0 : Int))])
              [] R))))) :
  Hold (runF PG ty nG G0 an_greatsealref_MapShows f_greatsealref_MapShows [AV.str all0, AV.int Go.IntKind.i64 key1, AV.str value2, AV.bool there3, AV.sl (1 : Nat) nll4 none l4] [] R) := kshow h (by kernel_rfl)

theorem greatsealref_MapShows_l0_run (G0 : Nat → Option Obj) (s5 : List UInt8) (n6 : Int) (s7 : List UInt8) (n8 : Int) (b9 : Bool) (xs10 : List (List AV)) (n11 : Int) (n12 : Int) (R : AV → List (Option Blk) → Prop) (h :
  ifK (decide (n12 < n11))
  ((0 : Int) ≤ n12 ∧
    ∃ s13,
      xs10[Int.toNat n12]? = some [AV.str s13] ∧
        ifK (n8 != (0 : Int)) (R (AV.int Go.IntKind.i64 n8) [])
          ((2 : Int) ≠ (0 : Int) ∧
            ifK (Int.tmod n6 (2 : Int) == (0 : Int))
              (∃ s14 n15,
                Good PG nG G0 f_greatsealref_NodeOf [AV.str s7, AV.str s13] [] (AV.tup [AV.str s14, AV.int Go.IntKind.i64 n15]) [] ∧
                  (2 : Int) ≠ (0 : Int) ∧
                    Does PG nG G0 (fnOf PG f_greatsealref_MapShows) (0 : Nat) (lp PG f_greatsealref_MapShows (0 : Nat))
                      (mkT (69 : Nat)
                        [((0 : Nat), AV.str s5), ((1 : Nat), AV.int Go.IntKind.i64 (Go.IntKind.wrap Go.IntKind.i64 (Int.tdiv n6 (2 : Int)))), ((11 : Nat), AV.str s14), ((12 : Nat), AV.int Go.IntKind.i64 n15),
                          ((34 : Nat), AV.sl (1 : Nat) b9 none xs10), ((35 : Nat), AV.int Go.IntKind.i64 n11), ((36 : Nat), AV.int Go.IntKind.i64 (Go.IntKind.wrap Go.IntKind.i64 (n12 + (1 : Int))))])
                      [] R)
              (∃ s16 n17,
                Good PG nG G0 f_greatsealref_NodeOf [AV.str s13, AV.str s7] [] (AV.tup [AV.str s16, AV.int Go.IntKind.i64 n17]) [] ∧
                  (2 : Int) ≠ (0 : Int) ∧
                    Does PG nG G0 (fnOf PG f_greatsealref_MapShows) (0 : Nat) (lp PG f_greatsealref_MapShows (0 : Nat))
                      (mkT (69 : Nat)
                        [((0 : Nat), AV.str s5), ((1 : Nat), AV.int Go.IntKind.i64 (Go.IntKind.wrap Go.IntKind.i64 (Int.tdiv n6 (2 : Int)))), ((11 : Nat), AV.str s16), ((12 : Nat), AV.int Go.IntKind.i64 n17),
                          ((34 : Nat), AV.sl (1 : Nat) b9 none xs10), ((35 : Nat), AV.int Go.IntKind.i64 n11), ((36 : Nat), AV.int Go.IntKind.i64 (Go.IntKind.wrap Go.IntKind.i64 (n12 + (1 : Int))))])
                      [] R)))
  (ifK (n8 == (0 : Int)) (ifK (!s7 == s5) (R (AV.int Go.IntKind.i64 (7 : Int)) []) (R (AV.int Go.IntKind.i64 n8) [])) (R (AV.int Go.IntKind.i64 n8) []))) :
  Hold (runL PG ty nG G0 an_greatsealref_MapShows f_greatsealref_MapShows (0 : Nat) (0 : Nat)
  (mkT (69 : Nat)
    [((0 : Nat), AV.str s5), ((1 : Nat), AV.int Go.IntKind.i64 n6), ((11 : Nat), AV.str s7), ((12 : Nat), AV.int Go.IntKind.i64 n8), ((34 : Nat), AV.sl (1 : Nat) b9 none xs10), ((35 : Nat), AV.int Go.IntKind.i64 n11),
      ((36 : Nat), AV.int Go.IntKind.i64 n12)])
  [] R) := kshow h (by kernel_rfl)

theorem maps_Equal_string_run (nlm10 : Bool) (m10 : List (AV × AV)) (nlm21 : Bool) (m21 : List (AV × AV)) (G0 : Nat → Option Go.Obj) (R : AV → List (Option Blk) → Prop) (h :
  ifK ((↑(List.length m10) : Int) != (↑(List.length m21) : Int)) (R (AV.bool false) [])
  (Does PG nG G0 (fnOf PG f_maps_Equal_string) (0 : Nat) (lp PG f_maps_Equal_string (0 : Nat)) (mkT (34 : Nat) [((1 : Nat), AV.mp nlm21 m21), ((15 : Nat), AV.iter (0 : Nat))]) [some (Blk.iter m10 none)] R)) :
  Hold (runF PG ty nG G0 an_maps_Equal_string f_maps_Equal_string [AV.mp nlm10 m10, AV.mp nlm21 m21] [] R) := kshow h (by kernel_rfl)

theorem maps_Equal_string_l0_run (G0 : Nat → Option Obj) (b0 : Bool) (es1 : List (AV × AV)) (es2 : List (AV × AV)) (R : AV → List (Option Blk) → Prop) (h :
  (∀ (i : Nat) (p : AV × AV), es2[i]? = some p → ∃ n3 s4, p = (AV.int Go.IntKind.i64 n3, AV.str s4)) ∧
  (es2 = [] → R (AV.bool true) []) ∧
    ∀ (i : Nat) (n : Int) (s : List UInt8),
      es2[i]? = some (AV.int Go.IntKind.i64 n, AV.str s) →
        ∃ s5 b6,
          mlookD Go.IntKind.i64 n (AV.str []) es1 = some (AV.str s5, b6) ∧
            ifK (!b6) (R (AV.bool false) [])
              (ifK (!s == s5) (R (AV.bool false) [])
                (Does PG nG G0 (fnOf PG f_maps_Equal_string) (0 : Nat) (lp PG f_maps_Equal_string (0 : Nat)) (mkT (34 : Nat) [((1 : Nat), AV.mp b0 es1), ((15 : Nat), AV.iter (0 : Nat))]) [some (Blk.iter (List.eraseIdx es2 i) none)] R))) :
  Hold (runL PG ty nG G0 an_maps_Equal_string f_maps_Equal_string (0 : Nat) (0 : Nat) (mkT (34 : Nat) [((1 : Nat), AV.mp b0 es1), ((15 : Nat), AV.iter (0 : Nat))]) [some (Blk.iter es2 none)] R) := kshow h (by kernel_rfl)

end Go.Ab

namespace Go.Ab
open Go.Proofs
set_option maxRecDepth 100000

def an_greatsealref_MapRoots : FAnn := ⟨[], [(0, [0, 3, 13], [3]), (2, [3, 8], [3, 8]), (4, [3, 8, 9, 10], [9])], none, []⟩
def an_greatsealref_MapPath : FAnn := ⟨[], [(0, [1, 5, 6, 10], [6])], none, []⟩
def an_greatseallaw_rooted : FAnn := ⟨[], [], none, [(2, [0])]⟩

theorem greatsealref_MapRoots_run (nlm0 : Bool) (m0 : List (AV × AV)) (G0 : Nat → Option Go.Obj) (R : AV → List (Option Blk) → Prop) (h :
  Does PG nG G0 (fnOf PG f_greatsealref_MapRoots) (0 : Nat) (lp PG f_greatsealref_MapRoots (0 : Nat)) (mkT (67 : Nat) [((0 : Nat), AV.mp nlm0 m0), ((3 : Nat), AV.sl (1 : Nat) true (some (0 : Nat)) []), ((13 : Nat), AV.int Go.IntKind.i64 (0 : Int))])
  [some (Blk.grow (1 : Nat) (0 : Nat))] R) :
  Hold (runF PG ty nG G0 an_greatsealref_MapRoots f_greatsealref_MapRoots [AV.mp nlm0 m0] [] R) := kshow h (by kernel_rfl)

theorem greatsealref_MapRoots_l0_run (G0 : Nat → Option Obj) (b0 : Bool) (es1 : List (AV × AV)) (b2 : Bool) (xs3 : List (List AV)) (n4 : Int) (m5 : Nat) (R : AV → List (Option Blk) → Prop) (h :
  ifK (decide (n4 < (16 : Int)))
  (∃ s6 b7,
    mlookD Go.IntKind.i64 n4 (AV.str []) es1 = some (AV.str s6, b7) ∧
      ifK b7
        (∃ s8 n9,
          Good PG nG G0 f_greatsealref_LeafOf [AV.str s6] [] (AV.tup [AV.str s8, AV.int Go.IntKind.i64 n9]) [] ∧
            (List.length xs3 + List.length [[AV.str s8]]) * (16 : Nat) ≤ (140737488355328 : Nat) ∧
              List.length xs3 = m5 ∧
                Does PG nG G0 (fnOf PG f_greatsealref_MapRoots) (0 : Nat) (lp PG f_greatsealref_MapRoots (0 : Nat))
                  (mkT (67 : Nat)
                    [((0 : Nat), AV.mp b0 es1), ((3 : Nat), AV.sl (1 : Nat) (b2 && List.isEmpty [[AV.str s8]]) (some (0 : Nat)) (xs3 ++ [[AV.str s8]])), ((13 : Nat), AV.int Go.IntKind.i64 (Go.IntKind.wrap Go.IntKind.i64 (n4 + (1 : Int))))])
                  [some (Blk.grow (1 : Nat) (m5 + List.length [[AV.str s8]]))] R)
        ((List.length xs3 + (1 : Nat)) * (16 : Nat) ≤ (140737488355328 : Nat) ∧
          List.length xs3 = m5 ∧
            Does PG nG G0 (fnOf PG f_greatsealref_MapRoots) (0 : Nat) (lp PG f_greatsealref_MapRoots (0 : Nat))
              (mkT (67 : Nat)
                [((0 : Nat), AV.mp b0 es1), ((3 : Nat), AV.sl (1 : Nat) (b2 && false) (some (0 : Nat)) (xs3 ++ [[AV.str [(69 : UInt8)]]])), ((13 : Nat), AV.int Go.IntKind.i64 (Go.IntKind.wrap Go.IntKind.i64 (n4 + (1 : Int))))])
              [some (Blk.grow (1 : Nat) (m5 + (1 : Nat)))] R))
  (Does PG nG G0 (fnOf PG f_greatsealref_MapRoots) (0 : Nat) (lp PG f_greatsealref_MapRoots (1 : Nat)) (mkT (67 : Nat) [((3 : Nat), AV.sl (1 : Nat) b2 (some (0 : Nat)) xs3), ((8 : Nat), AV.sl (1 : Nat) false (some (1 : Nat)) [[AV.sl (1 : Nat) b2 none xs3]])])
    [some (Blk.grow (1 : Nat) m5), some (Blk.grow (1 : Nat) (1 : Nat))] R)) :
  Hold (runL PG ty nG G0 an_greatsealref_MapRoots f_greatsealref_MapRoots (0 : Nat) (0 : Nat) (mkT (67 : Nat) [((0 : Nat), AV.mp b0 es1), ((3 : Nat), AV.sl (1 : Nat) b2 (some (0 : Nat)) xs3), ((13 : Nat), AV.int Go.IntKind.i64 n4)])
  [some (Blk.grow (1 : Nat) m5)] R) := kshow h (by kernel_rfl)

theorem greatsealref_MapRoots_l1_run (G0 : Nat → Option Obj) (b10 : Bool) (xs11 : List (List AV)) (b12 : Bool) (xs13 : List (List AV)) (m14 : Nat) (m15 : Nat) (R : AV → List (Option Blk) → Prop) (h :
  ifK (decide ((↑(List.length xs11) : Int) > (1 : Int)))
  (Does PG nG G0 (fnOf PG f_greatsealref_MapRoots) (0 : Nat) (lp PG f_greatsealref_MapRoots (2 : Nat))
    (mkT (67 : Nat) [((3 : Nat), AV.sl (1 : Nat) b10 (some (0 : Nat)) xs11), ((8 : Nat), AV.sl (1 : Nat) b12 (some (1 : Nat)) xs13), ((9 : Nat), AV.sl (1 : Nat) true (some (2 : Nat)) []), ((10 : Nat), AV.int Go.IntKind.i64 (0 : Int))])
    [some (Blk.grow (1 : Nat) m14), some (Blk.grow (1 : Nat) m15), some (Blk.grow (1 : Nat) (0 : Nat))] R)
  (R (AV.sl (1 : Nat) b12 none xs13) [])) :
  Hold (runL PG ty nG G0 an_greatsealref_MapRoots f_greatsealref_MapRoots (1 : Nat) (0 : Nat) (mkT (67 : Nat) [((3 : Nat), AV.sl (1 : Nat) b10 (some (0 : Nat)) xs11), ((8 : Nat), AV.sl (1 : Nat) b12 (some (1 : Nat)) xs13)])
  [some (Blk.grow (1 : Nat) m14), some (Blk.grow (1 : Nat) m15)] R) := kshow h (by kernel_rfl)

theorem greatsealref_MapRoots_l2_run (G0 : Nat → Option Obj) (b16 : Bool) (xs17 : List (List AV)) (b18 : Bool) (xs19 : List (List AV)) (b20 : Bool) (xs21 : List (List AV)) (n22 : Int) (m23 : Nat) (m24 : Nat) (m25 : Nat) (R : AV → List (Option Blk) → Prop) (h :
  ifK (decide (n22 < (↑(List.length xs17) : Int)))
  ((0 : Int) ≤ n22 ∧
    ∃ s26,
      xs17[Int.toNat n22]? = some [AV.str s26] ∧
        (0 : Int) ≤ Go.IntKind.wrap Go.IntKind.i64 (n22 + (1 : Int)) ∧
          ∃ s27,
            xs17[Int.toNat (Go.IntKind.wrap Go.IntKind.i64 (n22 + (1 : Int)))]? = some [AV.str s27] ∧
              ∃ s28 n29,
                Good PG nG G0 f_greatsealref_NodeOf [AV.str s26, AV.str s27] [] (AV.tup [AV.str s28, AV.int Go.IntKind.i64 n29]) [] ∧
                  (List.length xs21 + List.length [[AV.str s28]]) * (16 : Nat) ≤ (140737488355328 : Nat) ∧
                    List.length xs21 = m25 ∧
                      Does PG nG G0 (fnOf PG f_greatsealref_MapRoots) (0 : Nat) (lp PG f_greatsealref_MapRoots (2 : Nat))
                        (mkT (67 : Nat)
                          [((3 : Nat), AV.sl (1 : Nat) b16 (some (0 : Nat)) xs17), ((8 : Nat), AV.sl (1 : Nat) b18 (some (1 : Nat)) xs19),
                            ((9 : Nat), AV.sl (1 : Nat) (b20 && List.isEmpty [[AV.str s28]]) (some (2 : Nat)) (xs21 ++ [[AV.str s28]])), ((10 : Nat), AV.int Go.IntKind.i64 (Go.IntKind.wrap Go.IntKind.i64 (n22 + (2 : Int))))])
                        [some (Blk.grow (1 : Nat) m23), some (Blk.grow (1 : Nat) m24), some (Blk.grow (1 : Nat) (m25 + List.length [[AV.str s28]]))] R)
  ((List.length xs19 + List.length [[AV.sl (1 : Nat) b20 none xs21]]) * (24 : Nat) ≤ (140737488355328 : Nat) ∧
    List.length xs19 = m24 ∧
      Does PG nG G0 (fnOf PG f_greatsealref_MapRoots) (0 : Nat) (lp PG f_greatsealref_MapRoots (1 : Nat))
        (mkT (67 : Nat) [((3 : Nat), AV.sl (1 : Nat) b20 (some (0 : Nat)) xs21), ((8 : Nat), AV.sl (1 : Nat) (b18 && List.isEmpty [[AV.sl (1 : Nat) b20 none xs21]]) (some (1 : Nat)) (xs19 ++ [[AV.sl (1 : Nat) b20 none xs21]]))])
        [some (Blk.grow (1 : Nat) m25), some (Blk.grow (1 : Nat) (m24 + List.length [[AV.sl (1 : Nat) b20 none xs21]]))] R)) :
  Hold (runL PG ty nG G0 an_greatsealref_MapRoots f_greatsealref_MapRoots (2 : Nat) (0 : Nat)
  (mkT (67 : Nat) [((3 : Nat), AV.sl (1 : Nat) b16 (some (0 : Nat)) xs17), ((8 : Nat), AV.sl (1 : Nat) b18 (some (1 : Nat)) xs19), ((9 : Nat), AV.sl (1 : Nat) b20 (some (2 : Nat)) xs21), ((10 : Nat), AV.int Go.IntKind.i64 n22)])
  [some (Blk.grow (1 : Nat) m23), some (Blk.grow (1 : Nat) m24), some (Blk.grow (1 : Nat) m25)] R) := kshow h (by kernel_rfl)

theorem greatsealref_MapPath_run (nlm0 : Bool) (m0 : List (AV × AV)) (key1 : Int) (G0 : Nat → Option Go.Obj) (R : AV → List (Option Blk) → Prop) (h :
  ∃ b0 xs1,
  Good PG nG G0 f_greatsealref_MapRoots [AV.mp nlm0 m0] [] (AV.sl (1 : Nat) b0 none xs1) [] ∧
    Does PG nG G0 (fnOf PG f_greatsealref_MapPath) (0 : Nat) (lp PG f_greatsealref_MapPath (0 : Nat))
      (mkT (28 : Nat) [((1 : Nat), AV.int Go.IntKind.i64 key1), ((5 : Nat), AV.sl (1 : Nat) b0 none xs1), ((6 : Nat), AV.sl (1 : Nat) true (some (0 : Nat)) []), ((10 : Nat), AV.int Go.IntKind.i64 (0 : Int))])
      [some (Blk.grow (1 : Nat) (0 : Nat))] R) :
  Hold (runF PG ty nG G0 an_greatsealref_MapPath f_greatsealref_MapPath [AV.mp nlm0 m0, AV.int Go.IntKind.i64 key1] [] R) := kshow h (by kernel_rfl)

theorem greatsealref_MapPath_l0_run (G0 : Nat → Option Obj) (n2 : Int) (b3 : Bool) (xs4 : List (List AV)) (b5 : Bool) (xs6 : List (List AV)) (n7 : Int) (m8 : Nat) (R : AV → List (Option Blk) → Prop) (h :
  ifK (decide (n7 < (4 : Int)))
  ((0 : Int) ≤ n7 ∧
    ∃ b9 xs10,
      xs4[Int.toNat n7]? = some [AV.sl (1 : Nat) b9 none xs10] ∧
        (0 : Int) ≤ n7 ∧
          (0 : Int) ≤ Go.IntKind.wrap Go.IntKind.i64 (↑(BitVec.toNat (BitVec.ofInt (64 : Nat) (Int.fdiv n2 ((2 : Int) ^ min (Int.toNat n7) (64 : Nat))) ^^^ BitVec.ofInt (64 : Nat) (1 : Int))) : Int) ∧
            ∃ s11,
              xs10[Int.toNat (Go.IntKind.wrap Go.IntKind.i64 (↑(BitVec.toNat (BitVec.ofInt (64 : Nat) (Int.fdiv n2 ((2 : Int) ^ min (Int.toNat n7) (64 : Nat))) ^^^ BitVec.ofInt (64 : Nat) (1 : Int))) : Int))]? = some [AV.str s11] ∧
                (List.length xs6 + List.length [[AV.str s11]]) * (16 : Nat) ≤ (140737488355328 : Nat) ∧
                  List.length xs6 = m8 ∧
                    Does PG nG G0 (fnOf PG f_greatsealref_MapPath) (0 : Nat) (lp PG f_greatsealref_MapPath (0 : Nat))
                      (mkT (28 : Nat)
                        [((1 : Nat), AV.int Go.IntKind.i64 n2), ((5 : Nat), AV.sl (1 : Nat) b3 none xs4), ((6 : Nat), AV.sl (1 : Nat) (b5 && List.isEmpty [[AV.str s11]]) (some (0 : Nat)) (xs6 ++ [[AV.str s11]])),
                          ((10 : Nat), AV.int Go.IntKind.i64 (Go.IntKind.wrap Go.IntKind.i64 (n7 + (1 : Int))))])
                      [some (Blk.grow (1 : Nat) (m8 + List.length [[AV.str s11]]))] R)
  (R (AV.sl (1 : Nat) b5 none xs6) [])) :
  Hold (runL PG ty nG G0 an_greatsealref_MapPath f_greatsealref_MapPath (0 : Nat) (0 : Nat)
  (mkT (28 : Nat) [((1 : Nat), AV.int Go.IntKind.i64 n2), ((5 : Nat), AV.sl (1 : Nat) b3 none xs4), ((6 : Nat), AV.sl (1 : Nat) b5 (some (0 : Nat)) xs6), ((10 : Nat), AV.int Go.IntKind.i64 n7)]) [some (Blk.grow (1 : Nat) m8)] R) := kshow h (by kernel_rfl)

theorem greatseallaw_rooted_run (G0 : Nat → Option Go.Obj) (R : AV → List (Option Blk) → Prop) (h :
  ∃ xs0,
  some [(AV.int Go.IntKind.i64 (5 : Int), AV.str [(120 : UInt8)])] = some xs0 ∧
    ∃ s1 n2,
      Good PG nG G0 f_trie_Root [AV.mp false xs0] [] (AV.tup [AV.str s1, AV.int Go.IntKind.i64 n2]) [] ∧
        ∃ b3 xs4 n5,
          Good PG nG G0 f_trie_Path [AV.mp false xs0, AV.int Go.IntKind.i64 (4 : Int)] [] (AV.tup [AV.sl (1 : Nat) b3 none xs4, AV.int Go.IntKind.i64 n5]) [] ∧
            ifK (n2 == (0 : Int))
              (ifK (n5 == (0 : Int))
                (ifK ((↑(List.length xs4) : Int) == (4 : Int))
                  ((0 : Int) ≤ (0 : Int) ∧
                    ∃ s6,
                      xs4[(0 : Nat)]? = some [AV.str s6] ∧
                        ifK (s6 == [(76 : UInt8), (120 : UInt8)])
                          (∃ n7,
                            Good PG nG G0 f_trie_Shows [AV.str s1, AV.int Go.IntKind.i64 (4 : Int), AV.str [], AV.bool false, AV.sl (1 : Nat) b3 none xs4] [] (AV.int Go.IntKind.i64 n7) [] ∧
                              ifK (n7 == (0 : Int))
                                (∃ n8,
                                  Good PG nG G0 f_trie_Shows [AV.str s1, AV.int Go.IntKind.i64 (4 : Int), AV.str [(121 : UInt8)], AV.bool true, AV.sl (1 : Nat) b3 none xs4] [] (AV.int Go.IntKind.i64 n8) [] ∧
                                    ifK (n8 == (7 : Int))
                                      (∃ xs9, some [(AV.int Go.IntKind.i64 (16 : Int), AV.str [])] = some xs9 ∧ ∃ n10, Good PG nG G0 f_trie_Check [AV.mp false xs9] [] (AV.int Go.IntKind.i64 n10) [] ∧ R (AV.bool (n10 == (5 : Int))) [])
                                      (R (AV.bool false) []))
                                (R (AV.bool false) []))
                          (R (AV.bool false) []))
                  (R (AV.bool false) []))
                (R (AV.bool false) []))
              (R (AV.bool false) [])) :
  Hold (runF PG ty nG G0 an_greatseallaw_rooted f_greatseallaw_rooted [] [] R) := kshow h (by kernel_rfl)

end Go.Ab

namespace Go.Gs

/-- A good seal of two or more, opened. -/
theorem tRoot_split {l : List By} (h : (tRoot l).2 = 0) (h2 : 2 ≤ l.length) :
    (tRoot (l.take (halfN l.length))).2 = 0 ∧ (tRoot (l.drop (halfN l.length))).2 = 0 ∧
      tNode (tRoot (l.take (halfN l.length))).1 (tRoot (l.drop (halfN l.length))).1 = ((tRoot l).1, 0) := by
  rcases tRoot_cases h with ⟨rfl, _⟩ | ⟨s, rfl, _⟩ | ⟨_, h3, h4, _⟩
  · simp at h2
  · simp at h2
  · refine ⟨h3, h4, ?_⟩
    have := tRoot_two h2
    rw [if_neg (by simpa using h3), if_neg (by simpa using h4)] at this
    rw [← this, ← h]

theorem tNode_inj {a b c d x : By} (h : tNode a b = (x, 0)) (k : tNode c d = (x, 0)) : a = c ∧ b = d := by
  have h1 := tNode_ok (a := a) (b := b) (by rw [h])
  have h2 := tNode_ok (a := c) (b := d) (by rw [k])
  rw [h] at h1
  rw [k] at h2
  exact node_inj (h1.symm.trans h2)

theorem tLeaf_inj {a b x : By} (h : tLeaf a = (x, 0)) (k : tLeaf b = (x, 0)) : a = b := by
  have h1 := tLeaf_ok (s := a) (by rw [h])
  have h2 := tLeaf_ok (s := b) (by rw [k])
  rw [h] at h1
  rw [k] at h2
  simpa using h1.symm.trans h2

/-- From below: does what is beside stand left? -/
def turnsN (n i : Nat) : List Bool :=
  if _h : n ≤ 1 then [] else if i < halfN n then turnsN (halfN n) i ++ [false] else turnsN (n - halfN n) (i - halfN n) ++ [true]
  termination_by n
  decreasing_by
  all_goals
    have := halfN_pos n
    have := halfN_lt (n := n) (by omega)
    omega

theorem turnsN_one {n i : Nat} (h : n ≤ 1) : turnsN n i = [] := by rw [turnsN, dif_pos h]
theorem turnsN_two {n i : Nat} (h : 2 ≤ n) : turnsN n i = if i < halfN n then turnsN (halfN n) i ++ [false] else turnsN (n - halfN n) (i - halfN n) ++ [true] := by
  rw [turnsN, dif_neg (by omega)]

/-- What stands beside, from below. -/
def pathOf (l : List By) (i : Nat) : List (Bool × By) :=
  if _h : l.length ≤ 1 then [] else
    if i < halfN l.length then pathOf (l.take (halfN l.length)) i ++ [(false, (tRoot (l.drop (halfN l.length))).1)]
    else pathOf (l.drop (halfN l.length)) (i - halfN l.length) ++ [(true, (tRoot (l.take (halfN l.length))).1)]
  termination_by l.length
  decreasing_by
  all_goals
    have := halfN_pos l.length
    have := halfN_lt (n := l.length) (by omega)
    simp only [List.length_take, List.length_drop]
    omega

theorem pathOf_one {l : List By} {i : Nat} (h : l.length ≤ 1) : pathOf l i = [] := by rw [pathOf, dif_pos h]
theorem pathOf_two {l : List By} {i : Nat} (h : 2 ≤ l.length) : pathOf l i =
    if i < halfN l.length then pathOf (l.take (halfN l.length)) i ++ [(false, (tRoot (l.drop (halfN l.length))).1)]
    else pathOf (l.drop (halfN l.length)) (i - halfN l.length) ++ [(true, (tRoot (l.take (halfN l.length))).1)] := by
  rw [pathOf, dif_neg (by omega)]

theorem pathOf_sides : ∀ (n : Nat) (l : List By) (i : Nat), l.length ≤ n → (pathOf l i).map (·.1) = turnsN l.length i := by
  intro n
  induction n with
  | zero => intro l i h; rw [pathOf_one (by omega), turnsN_one (by omega)]; rfl
  | succ n ih =>
    intro l i h
    rcases Nat.lt_or_ge l.length 2 with h2 | h2
    · rw [pathOf_one (by omega), turnsN_one (by omega)]; rfl
    · have hk1 := halfN_pos l.length
      have hk2 := halfN_lt h2
      rw [pathOf_two h2, turnsN_two h2]
      split
      · rw [List.map_append, ih _ _ (by simp only [List.length_take]; omega)]
        simp only [List.length_take, List.map_cons, List.map_nil]
        rw [Nat.min_eq_left (by omega)]
      · rw [List.map_append, ih _ _ (by simp only [List.length_drop]; omega)]
        simp only [List.length_drop, List.map_cons, List.map_nil]

/-- One step up. -/
def up1 (now : By) (st : Bool × By) : By × Int := if st.1 then tNode st.2 now else tNode now st.2

/-- The way up: from a seal, by sides that are due and steps. -/
def climb : By → List Bool → List (Bool × By) → By × Int
  | now, b :: bs, st :: r => if st.1 ≠ b then ([], 7) else if (up1 now st).2 ≠ 0 then ([], (up1 now st).2) else climb (up1 now st).1 bs r
  | now, _, _ => (now, 0)

theorem climb_append : ∀ (bs : List Bool) (now : By) (r : List (Bool × By)) (cs : List Bool) (q : List (Bool × By)), bs.length = r.length →
    climb now (bs ++ cs) (r ++ q) = if (climb now bs r).2 ≠ 0 then ([], (climb now bs r).2) else climb (climb now bs r).1 cs q
  | [], now, [], cs, q, _ => by simp [climb]
  | b :: bs, now, st :: r, cs, q, h => by
    simp only [List.cons_append, climb]
    split
    · simp
    · split
      · simp
      · exact climb_append bs _ r cs q (by simpa using h)
  | [], _, _ :: _, _, _, h => by simp at h
  | _ :: _, _, [], _, _, h => by simp at h

/-- THE WAY UP ENDS AT THE LIST's SEAL ONLY FROM THE TEXT THAT STANDS THERE, BY THE STEPS THAT STAND THERE. -/
theorem climb_iff : ∀ (n : Nat) (l : List By) (i : Nat) (now : By) (steps : List (Bool × By)), l.length ≤ n → (tRoot l).2 = 0 → (hi : i < l.length) → steps.length = (turnsN l.length i).length →
    (climb now (turnsN l.length i) steps = ((tRoot l).1, 0) ↔ tLeaf l[i] = (now, 0) ∧ steps = pathOf l i) := by
  intro n
  induction n with
  | zero => intro l i now steps h _ hi; omega
  | succ n ih =>
    intro l i now steps hn hr hi hlen
    rcases Nat.lt_or_ge l.length 2 with h2 | h2
    · obtain ⟨s, rfl⟩ := List.length_eq_one_iff.1 (show l.length = 1 by omega)
      have hi0 : i = 0 := by simpa using hi
      subst hi0
      rw [turnsN_one (by simp)] at hlen ⊢
      obtain rfl : steps = [] := List.eq_nil_of_length_eq_zero hlen
      rw [tRoot_one rfl] at hr ⊢
      rw [pathOf_one (by simp)]
      simp only [List.headD_cons] at hr
      simp only [climb, List.headD_cons, List.getElem_cons_zero, and_true, Prod.mk.injEq]
      constructor
      · rintro rfl; exact Prod.ext rfl hr
      · intro h; rw [h]
    · have hk1 := halfN_pos l.length
      have hk2 := halfN_lt h2
      obtain ⟨r1, r2, r3⟩ := tRoot_split hr h2
      have lt1 : (l.take (halfN l.length)).length = halfN l.length := by simp only [List.length_take]; omega
      have ld1 : (l.drop (halfN l.length)).length = l.length - halfN l.length := by simp only [List.length_drop]
      rw [turnsN_two h2] at hlen ⊢
      rw [pathOf_two h2]
      by_cases hk : i < halfN l.length
      · rw [if_pos hk] at hlen ⊢
        rw [if_pos hk]
        have hne : steps ≠ [] := by rintro rfl; simp at hlen
        obtain ⟨st, last, rfl⟩ : ∃ st last, steps = st ++ [last] := ⟨steps.dropLast, steps.getLast hne, (List.dropLast_concat_getLast hne).symm⟩
        have hl2 : (turnsN (halfN l.length) i).length = st.length := by simpa using hlen.symm
        have IH := ih (l.take (halfN l.length)) i now st (by omega) r1 (by omega) (by rw [lt1]; exact hl2.symm)
        rw [climb_append _ _ _ _ _ hl2]
        have hg : (l.take (halfN l.length))[i]'(by omega) = l[i] := by simp
        rw [hg, lt1] at IH
        obtain ⟨lb, ls⟩ := last
        constructor
        · intro h
          split at h
          · rename_i h1; rw [Prod.mk.injEq] at h; exact absurd h.2 h1
          · rename_i h1
            have h1 : (climb now (turnsN (halfN l.length) i) st).2 = 0 := by simpa using h1
            simp only [climb] at h
            split at h
            · rw [Prod.mk.injEq] at h; exact absurd h.2 (by decide)
            · rename_i h3
              have h3 : lb = false := by simpa using h3
              subst h3
              split at h
              · rename_i h4; rw [Prod.mk.injEq] at h; exact absurd h.2 h4
              · rename_i h4
                have h4 : (up1 (climb now (turnsN (halfN l.length) i) st).1 (false, ls)).2 = 0 := by simpa using h4
                have h5 : tNode (climb now (turnsN (halfN l.length) i) st).1 ls = ((tRoot l).1, 0) := by
                  rw [← h]; exact Prod.ext rfl h4
                obtain ⟨g1, g2⟩ := tNode_inj h5 r3
                obtain ⟨g3, g4⟩ := IH.1 (by rw [← g1]; exact Prod.ext rfl h1)
                exact ⟨g3, by rw [g4, g2]⟩
        · rintro ⟨h1, h3⟩
          obtain ⟨h4, h5⟩ := List.append_inj' h3 rfl
          have h6 := IH.2 ⟨h1, h4⟩
          rw [h6]
          have h5 : (lb, ls) = (false, (tRoot (l.drop (halfN l.length))).1) := by simpa using h5
          rw [h5]
          simp only [climb, up1]
          rw [if_neg (by simp), if_neg (by simp)]
          simp only [Bool.false_eq_true, if_false]
          rw [r3]; simp
      · rw [if_neg hk] at hlen ⊢
        rw [if_neg hk]
        have hne : steps ≠ [] := by rintro rfl; simp at hlen
        obtain ⟨st, last, rfl⟩ : ∃ st last, steps = st ++ [last] := ⟨steps.dropLast, steps.getLast hne, (List.dropLast_concat_getLast hne).symm⟩
        have hl2 : (turnsN (l.length - halfN l.length) (i - halfN l.length)).length = st.length := by simpa using hlen.symm
        have IH := ih (l.drop (halfN l.length)) (i - halfN l.length) now st (by omega) r2 (by omega) (by rw [ld1]; exact hl2.symm)
        rw [climb_append _ _ _ _ _ hl2]
        have hg : (l.drop (halfN l.length))[i - halfN l.length]'(by omega) = l[i] := by
          rw [List.getElem_drop]; congr 1; omega
        rw [hg, ld1] at IH
        obtain ⟨lb, ls⟩ := last
        constructor
        · intro h
          split at h
          · rename_i h1; rw [Prod.mk.injEq] at h; exact absurd h.2 h1
          · rename_i h1
            have h1 : (climb now (turnsN (l.length - halfN l.length) (i - halfN l.length)) st).2 = 0 := by simpa using h1
            simp only [climb] at h
            split at h
            · rw [Prod.mk.injEq] at h; exact absurd h.2 (by decide)
            · rename_i h3
              have h3 : lb = true := by simpa using h3
              subst h3
              split at h
              · rename_i h4; rw [Prod.mk.injEq] at h; exact absurd h.2 h4
              · rename_i h4
                have h4 : (up1 (climb now (turnsN (l.length - halfN l.length) (i - halfN l.length)) st).1 (true, ls)).2 = 0 := by simpa using h4
                have h5 : tNode ls (climb now (turnsN (l.length - halfN l.length) (i - halfN l.length)) st).1 = ((tRoot l).1, 0) := by
                  rw [← h]; exact Prod.ext rfl h4
                obtain ⟨g1, g2⟩ := tNode_inj h5 r3
                obtain ⟨g3, g4⟩ := IH.1 (by rw [← g2]; exact Prod.ext rfl h1)
                exact ⟨g3, by rw [g4, g1]⟩
        · rintro ⟨h1, h3⟩
          obtain ⟨h4, h5⟩ := List.append_inj' h3 rfl
          have h6 := IH.2 ⟨h1, h4⟩
          rw [h6]
          have h5 : (lb, ls) = (true, (tRoot (l.take (halfN l.length))).1) := by simpa using h5
          rw [h5]
          simp only [climb, up1]
          rw [if_neg (by simp), if_neg (by simp)]
          simp only [if_true]
          rw [r3]; simp

/-- Do steps show that a text stands at a place of a list of so many whose seal this is? -/
def pathShows (root : By) (n i : Int) (text : By) (steps : List (Bool × By)) : Int :=
  if n < 1 ∨ 24 < n then 3 else if i < 0 ∨ n ≤ i then 5
  else if (turnsN n.toNat i.toNat).length ≠ steps.length then 7
  else if (tLeaf text).2 ≠ 0 then (tLeaf text).2
  else if (climb (tLeaf text).1 (turnsN n.toNat i.toNat) steps).2 ≠ 0 then (climb (tLeaf text).1 (turnsN n.toNat i.toNat) steps).2
  else if (climb (tLeaf text).1 (turnsN n.toNat i.toNat) steps).1 ≠ root then 7 else 0

theorem tLeaf_get : ∀ (n : Nat) (l : List By) (i : Nat), l.length ≤ n → (tRoot l).2 = 0 → (hi : i < l.length) → (tLeaf l[i]).2 = 0 := by
  intro n
  induction n with
  | zero => intro l i h _ hi; omega
  | succ n ih =>
    intro l i hn hr hi
    rcases Nat.lt_or_ge l.length 2 with h2 | h2
    · obtain ⟨s, rfl⟩ := List.length_eq_one_iff.1 (show l.length = 1 by omega)
      have hi0 : i = 0 := by simpa using hi
      subst hi0
      rw [tRoot_one rfl] at hr
      exact hr
    · have hk1 := halfN_pos l.length
      have hk2 := halfN_lt h2
      obtain ⟨r1, r2, _⟩ := tRoot_split hr h2
      by_cases hk : i < halfN l.length
      · have := ih (l.take (halfN l.length)) i (by simp only [List.length_take]; omega) r1 (by simp only [List.length_take]; omega)
        simpa using this
      · have := ih (l.drop (halfN l.length)) (i - halfN l.length) (by simp only [List.length_drop]; omega) r2 (by simp only [List.length_drop]; omega)
        rw [List.getElem_drop] at this
        have e : halfN l.length + (i - halfN l.length) = i := by omega
        simpa [e] using this

/-- WHAT IS SHOWN IS SO, AND WHAT IS SO IS SHOWN, BY ONE PATH ALONE. -/
theorem pathShows_iff {l : List By} {i : Nat} (hl : l.length ≤ 24) (hr : (tRoot l).2 = 0) (hi : i < l.length) (text : By) (steps : List (Bool × By)) :
    pathShows (tRoot l).1 l.length i text steps = 0 ↔ text = l[i] ∧ steps = pathOf l i := by
  unfold pathShows
  rw [if_neg (by omega), if_neg (by omega), Int.toNat_natCast, Int.toNat_natCast]
  have hp := congrArg List.length (pathOf_sides _ l i (Nat.le_refl _))
  rw [List.length_map] at hp
  have hg := tLeaf_get _ l i (Nat.le_refl _) hr hi
  constructor
  · intro h
    split at h
    · cases h
    · rename_i h1
      have h1 : (turnsN l.length i).length = steps.length := by simpa using h1
      split at h
      · rename_i h2; exact absurd h h2
      · rename_i h2
        have h2 : (tLeaf text).2 = 0 := by simpa using h2
        split at h
        · rename_i h3; exact absurd h h3
        · rename_i h3
          have h3 : (climb (tLeaf text).1 (turnsN l.length i) steps).2 = 0 := by simpa using h3
          split at h
          · cases h
          · rename_i h4
            have h4 : (climb (tLeaf text).1 (turnsN l.length i) steps).1 = (tRoot l).1 := by simpa using h4
            obtain ⟨g1, g2⟩ := (climb_iff _ l i (tLeaf text).1 steps (Nat.le_refl _) hr hi h1.symm).1 (Prod.ext h4 h3)
            exact ⟨tLeaf_inj (x := (tLeaf text).1) (Prod.ext rfl h2) g1, g2⟩
  · rintro ⟨rfl, rfl⟩
    have := (climb_iff _ l i (tLeaf l[i]).1 (pathOf l i) (Nat.le_refl _) hr hi hp).2 ⟨Prod.ext rfl hg, rfl⟩
    rw [this, if_neg (by omega), if_neg (by omega), if_neg (by simp), if_neg (by simp)]

/-- What a way up says, held against what it should come to. -/
def fin7 (all : By) (r : By × Int) : Int := if r.2 ≠ 0 then r.2 else if r.1 ≠ all then 7 else 0

theorem fin7_err {all : By} {c : Int} (h : c ≠ 0) : fin7 all ([], c) = c := by unfold fin7; rw [if_pos h]
theorem fin7_end {all now : By} : fin7 all (now, 0) = if now ≠ all then 7 else 0 := by unfold fin7; rw [if_neg (by simp)]
end Go.Gs

namespace Go.Gs

theorem halfN_between {m n : Nat} (h : halfN n < m) (h2 : m ≤ n) (h3 : n ≤ 32) : halfN m = halfN n := by
  have := halfN_spec n
  have := halfN_spec m
  omega

/-- The seal of a beginning is good where the list's is, and no longer. -/
theorem tRoot_begin : ∀ (n : Nat) (l : List By) (m : Nat), l.length ≤ n → n ≤ 24 → (tRoot l).2 = 0 → 1 ≤ m → m ≤ l.length → (tRoot (l.take m)).2 = 0 ∧ (tRoot (l.take m)).1.length ≤ (tRoot l).1.length := by
  intro n
  induction n with
  | zero => intro l m h _ _ h1 h2; omega
  | succ n ih =>
    intro l m hn hb hr h1 hm
    by_cases hml : m = l.length
    · subst hml; rw [List.take_length]; exact ⟨hr, Nat.le_refl _⟩
    · have h2 : 2 ≤ l.length := by omega
      have hk1 := halfN_pos l.length
      have hk2 := halfN_lt h2
      obtain ⟨r1, r2, r3⟩ := tRoot_split hr h2
      have r4 := tNode_ok (a := (tRoot (l.take (halfN l.length))).1) (b := (tRoot (l.drop (halfN l.length))).1) (by rw [r3])
      rw [r3] at r4
      have r4 : (tRoot l).1 = _ := r4
      have r5 : (tRoot (l.take (halfN l.length))).1.length + (tRoot (l.drop (halfN l.length))).1.length ≤ 20000 := by
        unfold tNode at r3
        split at r3
        · rw [Prod.mk.injEq] at r3; exact absurd r3.2 (by decide)
        · omega
      by_cases hk : m ≤ halfN l.length
      · have := ih (l.take (halfN l.length)) m (by simp only [List.length_take]; omega) (by omega) r1 h1 (by simp only [List.length_take]; omega)
        rw [List.take_take, Nat.min_eq_left hk] at this
        refine ⟨this.1, Nat.le_trans this.2 ?_⟩
        rw [r4]
        simp only [List.length_cons, List.length_append]; omega
      · have h3 := ih (l.drop (halfN l.length)) (m - halfN l.length) (by simp only [List.length_drop]; omega) (by omega) r2 (by omega) (by simp only [List.length_drop]; omega)
        have hhm : halfN m = halfN l.length := halfN_between (by omega) (by omega) (by omega)
        have hlm : (l.take m).length = m := by simp only [List.length_take]; omega
        have e1 : (l.take m).take (halfN l.length) = l.take (halfN l.length) := by rw [List.take_take, Nat.min_eq_left (by omega)]
        have e2 : (l.take m).drop (halfN l.length) = (l.drop (halfN l.length)).take (m - halfN l.length) := by rw [List.drop_take]
        have h4 := tRoot_two (l := l.take m) (by omega)
        rw [hlm, hhm, e1, e2, if_neg (by simpa using r1), if_neg (by simpa using h3.1)] at h4
        have h5 : tNode (tRoot (l.take (halfN l.length))).1 (tRoot ((l.drop (halfN l.length)).take (m - halfN l.length))).1 = (78 :: (Lib.itoa (tRoot (l.take (halfN l.length))).1.length ++ 58 :: ((tRoot (l.take (halfN l.length))).1 ++ (tRoot ((l.drop (halfN l.length)).take (m - halfN l.length))).1)), 0) := by
          unfold tNode; rw [if_neg (by have := h3.2; omega)]
        rw [h4, h5, r4]
        refine ⟨rfl, ?_⟩
        have := h3.2
        simp only [List.length_cons, List.length_append]; omega

/-- The seal of a beginning that goes beyond the first half. -/
theorem tRoot_beyond {l : List By} {m : Nat} (hl : l.length ≤ 24) (hr : (tRoot l).2 = 0) (h2 : 2 ≤ l.length) (hk : halfN l.length < m) (hm : m ≤ l.length) :
    (tRoot ((l.drop (halfN l.length)).take (m - halfN l.length))).2 = 0 ∧
      tNode (tRoot (l.take (halfN l.length))).1 (tRoot ((l.drop (halfN l.length)).take (m - halfN l.length))).1 = ((tRoot (l.take m)).1, 0) := by
  have hk1 := halfN_pos l.length
  have hr2 := (tRoot_begin _ l m (Nat.le_refl _) hl hr (by omega) hm).1
  have hlm : (l.take m).length = m := by simp only [List.length_take]; omega
  have hhm : halfN m = halfN l.length := halfN_between (by omega) (by omega) (by omega)
  obtain ⟨_, g2, g3⟩ := tRoot_split hr2 (by omega)
  rw [hlm, hhm] at g2 g3
  have e1 : (l.take m).take (halfN l.length) = l.take (halfN l.length) := by rw [List.take_take, Nat.min_eq_left (by omega)]
  have e2 : (l.take m).drop (halfN l.length) = (l.drop (halfN l.length)).take (m - halfN l.length) := by rw [List.drop_take]
  rw [e2] at g2 g3
  rw [e1] at g3
  exact ⟨g2, g3⟩

/-- The seals that show that a list goes on behind its first m. -/
def growOf (l : List By) (m : Nat) (known : Bool) : List By :=
  if _h : l.length ≤ m ∨ l.length ≤ 1 then (if known then [] else [(tRoot l).1]) else
    if m ≤ halfN l.length then growOf (l.take (halfN l.length)) m known ++ [(tRoot (l.drop (halfN l.length))).1]
    else growOf (l.drop (halfN l.length)) (m - halfN l.length) false ++ [(tRoot (l.take (halfN l.length))).1]
  termination_by l.length
  decreasing_by
  all_goals
    have := halfN_pos l.length
    have := halfN_lt (n := l.length) (by omega)
    simp only [List.length_take, List.length_drop]
    omega

theorem growOf_all {l : List By} {known : Bool} : growOf l l.length known = if known then [] else [(tRoot l).1] := by rw [growOf, dif_pos (.inl (Nat.le_refl _))]
theorem growOf_less {l : List By} {m : Nat} {known : Bool} (h1 : 1 ≤ m) (h : m < l.length) : growOf l m known =
    if m ≤ halfN l.length then growOf (l.take (halfN l.length)) m known ++ [(tRoot (l.drop (halfN l.length))).1]
    else growOf (l.drop (halfN l.length)) (m - halfN l.length) false ++ [(tRoot (l.take (halfN l.length))).1] := by
  rw [growOf, dif_neg (by omega)]

/-- One who takes seals, the last one first. -/
abbrev Sh := List By × Bool
def lastS (s : Sh) : By × Sh := if s.1 = [] then ([], s.1, true) else (s.1.getLastD [], s.1.dropLast, s.2)
def nodeS (a b : By) (s : Sh) : By × Sh := ((tNode a b).1, s.1, s.2 || (tNode a b).2 != 0)

/-- Both seals, of the first m, and of all n. -/
def bothS (m n : Nat) (old : By) (known : Bool) (s : Sh) : By × By × Sh :=
  if _h : n ≤ m ∨ n ≤ 1 then (if known then (old, old, s) else ((lastS s).1, (lastS s).1, (lastS s).2)) else
    if m ≤ halfN n then
      let r := bothS m (halfN n) old known (lastS s).2
      (r.1, nodeS r.2.1 (lastS s).1 r.2.2)
    else
      let r := bothS (m - halfN n) (n - halfN n) old false (lastS s).2
      let x := nodeS (lastS s).1 r.1 r.2.2
      (x.1, nodeS (lastS s).1 r.2.1 x.2)
  termination_by n
  decreasing_by
  all_goals
    have := halfN_pos n
    have := halfN_lt (n := n) (by omega)
    omega

theorem bothS_all {n : Nat} {old : By} {known : Bool} {s : Sh} : bothS n n old known s = if known then (old, old, s) else ((lastS s).1, (lastS s).1, (lastS s).2) := by rw [bothS, dif_pos (.inl (Nat.le_refl _))]
theorem bothS_less {m n : Nat} {old : By} {known : Bool} {s : Sh} (h1 : 1 ≤ m) (h : m < n) : bothS m n old known s =
    if m ≤ halfN n then
      ((bothS m (halfN n) old known (lastS s).2).1, nodeS (bothS m (halfN n) old known (lastS s).2).2.1 (lastS s).1 (bothS m (halfN n) old known (lastS s).2).2.2)
    else
      ((nodeS (lastS s).1 (bothS (m - halfN n) (n - halfN n) old false (lastS s).2).1 (bothS (m - halfN n) (n - halfN n) old false (lastS s).2).2.2).1,
        nodeS (lastS s).1 (bothS (m - halfN n) (n - halfN n) old false (lastS s).2).2.1 (nodeS (lastS s).1 (bothS (m - halfN n) (n - halfN n) old false (lastS s).2).1 (bothS (m - halfN n) (n - halfN n) old false (lastS s).2).2.2).2) := by
  rw [bothS, dif_neg (by omega)]

theorem lastS_good {s : Sh} (h : (lastS s).2.2 = false) : s.2 = false ∧ s.1 = (lastS s).2.1 ++ [(lastS s).1] := by
  unfold lastS at h ⊢
  split
  · rename_i hc; rw [if_pos hc] at h; cases h
  · rename_i hc
    rw [if_neg hc] at h
    refine ⟨h, ?_⟩
    simp only
    have : s.1.getLastD [] = s.1.getLast hc := by rw [List.getLastD_eq_getLast?, List.getLast?_eq_some_getLast hc]; rfl
    rw [this, List.dropLast_concat_getLast]

theorem lastS_mk (r : List By) (x : By) (b : Bool) : lastS (r ++ [x], b) = (x, r, b) := by
  unfold lastS
  rw [if_neg (by simp)]
  simp

theorem bothS_bad : ∀ (N m n : Nat) (old : By) (known : Bool) (s : Sh), n ≤ N → 1 ≤ m → m ≤ n → (bothS m n old known s).2.2.2 = false → s.2 = false := by
  intro N
  induction N with
  | zero => intro m n old known s h h1 h2; omega
  | succ N ih =>
    intro m n old known s hn h1 h2 h
    by_cases hmn : m = n
    · subst hmn
      rw [bothS_all] at h
      split at h
      · exact h
      · exact (lastS_good h).1
    · have hk1 := halfN_pos n
      have hk2 := halfN_lt (n := n) (by omega)
      rw [bothS_less h1 (by omega)] at h
      split at h
      · rename_i hk
        simp only [nodeS, Bool.or_eq_false_iff] at h
        exact (lastS_good (ih _ _ _ _ _ (by omega) h1 (by omega) h.1)).1
      · rename_i hk
        simp only [nodeS, Bool.or_eq_false_iff] at h
        exact (lastS_good (ih _ _ _ _ _ (by omega) (by omega) (by omega) h.1.1)).1

/-- WHAT SEALS SHOW IS SO, AND JUST THESE SEALS SHOW IT. -/
theorem bothS_only : ∀ (N : Nat) (l : List By) (m : Nat) (old : By) (known : Bool) (s : Sh) (rest : List By), l.length ≤ N → l.length ≤ 24 → (tRoot l).2 = 0 → 1 ≤ m → m ≤ l.length →
    (bothS m l.length old known s).2.2 = (rest, false) → (bothS m l.length old known s).2.1 = (tRoot l).1 →
      s.2 = false ∧ s.1 = rest ++ growOf l m known ∧ (bothS m l.length old known s) = ((tRoot (l.take m)).1, (tRoot l).1, rest, false) := by
  intro N
  induction N with
  | zero => intro l m old known s rest h _ _ h1 h2; omega
  | succ N ih =>
    intro l m old known s rest hN hl hr h1 hm
    by_cases hml : m = l.length
    · subst hml
      rw [bothS_all, growOf_all, List.take_length]
      cases known with
      | true =>
        simp only [if_true, List.append_nil, Prod.mk.injEq]
        intro h3 h4
        rw [h3]; exact ⟨rfl, rfl, h4, h4, rfl⟩
      | false =>
        simp only [Bool.false_eq_true, if_false, Prod.mk.injEq]
        intro h3 h4
        obtain ⟨g1, g2⟩ := lastS_good (s := s) (by rw [h3])
        rw [h3, h4] at g2
        exact ⟨g1, g2, h4, h4, h3⟩
    · have h2 : 2 ≤ l.length := by omega
      have hk1 := halfN_pos l.length
      have hk2 := halfN_lt h2
      obtain ⟨r1, r2, r3⟩ := tRoot_split hr h2
      have lt1 : (l.take (halfN l.length)).length = halfN l.length := by simp only [List.length_take]; omega
      have ld1 : (l.drop (halfN l.length)).length = l.length - halfN l.length := by simp only [List.length_drop]
      intro h3 h4
      · have hb := bothS_bad _ m l.length old known s (Nat.le_refl _) h1 hm (by rw [h3])
        rw [bothS_less h1 (by omega)] at h3 h4 ⊢
        rw [growOf_less h1 (by omega)]
        by_cases hk : m ≤ halfN l.length
        · rw [if_pos hk] at h3 h4 ⊢
          rw [if_pos hk]
          simp only [nodeS, Prod.mk.injEq, Bool.or_eq_false_iff, bne_eq_false_iff_eq] at h3 h4
          have h5 : tNode (bothS m (halfN l.length) old known (lastS s).2).2.1 (lastS s).1 = ((tRoot l).1, 0) := Prod.ext h4 h3.2.2
          obtain ⟨g1, g2⟩ := tNode_inj h5 r3
          have IH := ih (l.take (halfN l.length)) m old known (lastS s).2 rest (by omega) (by omega) r1 h1 (by omega)
          rw [lt1, List.take_take, Nat.min_eq_left hk] at IH
          obtain ⟨i1, i2, i3⟩ := IH (Prod.ext h3.1 h3.2.1) g1
          have hls := lastS_good (s := s) i1
          refine ⟨hb, ?_, ?_⟩
          · rw [hls.2, i2, g2, List.append_assoc]
          · rw [i3, g2]
            simp only [nodeS, r3]
            simp
        · rw [if_neg hk] at h3 h4 ⊢
          rw [if_neg hk]
          simp only [nodeS, Prod.mk.injEq, Bool.or_eq_false_iff, bne_eq_false_iff_eq] at h3 h4
          have h5 : tNode (lastS s).1 (bothS (m - halfN l.length) (l.length - halfN l.length) old false (lastS s).2).2.1 = ((tRoot l).1, 0) := Prod.ext h4 h3.2.2
          obtain ⟨g1, g2⟩ := tNode_inj h5 r3
          have IH := ih (l.drop (halfN l.length)) (m - halfN l.length) old false (lastS s).2 rest (by omega) (by omega) r2 (by omega) (by omega)
          rw [ld1] at IH
          obtain ⟨i1, i2, i3⟩ := IH (Prod.ext h3.1 h3.2.1.1) g2
          have hls := lastS_good (s := s) i1
          obtain ⟨b1, b2⟩ := tRoot_beyond hl hr h2 (by omega) hm
          refine ⟨hb, ?_, ?_⟩
          · rw [hls.2, i2, g1, List.append_assoc]
          · rw [i3, g1]
            simp only [nodeS, r3, b2]
            simp

theorem bothS_shows : ∀ (N : Nat) (l : List By) (m : Nat) (old : By) (known : Bool) (rest : List By), l.length ≤ N → l.length ≤ 24 → (tRoot l).2 = 0 → 1 ≤ m → m ≤ l.length → (known = true → old = (tRoot (l.take m)).1) →
    bothS m l.length old known (rest ++ growOf l m known, false) = ((tRoot (l.take m)).1, (tRoot l).1, rest, false) := by
  intro N
  induction N with
  | zero => intro l m old known rest h _ _ h1 h2; omega
  | succ N ih =>
    intro l m old known rest hN hl hr h1 hm hold
    by_cases hml : m = l.length
    · subst hml
      rw [bothS_all, growOf_all]
      cases known with
      | true =>
        have := hold rfl
        rw [this]
        simp [List.take_length]
      | false =>
        simp only [Bool.false_eq_true, if_false, List.take_length]
        rw [lastS_mk]
    · have h2 : 2 ≤ l.length := by omega
      have hk1 := halfN_pos l.length
      have hk2 := halfN_lt h2
      obtain ⟨r1, r2, r3⟩ := tRoot_split hr h2
      have lt1 : (l.take (halfN l.length)).length = halfN l.length := by simp only [List.length_take]; omega
      have ld1 : (l.drop (halfN l.length)).length = l.length - halfN l.length := by simp only [List.length_drop]
      rw [bothS_less h1 (by omega), growOf_less h1 (by omega)]
      by_cases hk : m ≤ halfN l.length
      · rw [if_pos hk, if_pos hk, ← List.append_assoc, lastS_mk]
        have IH := ih (l.take (halfN l.length)) m old known rest (by omega) (by omega) r1 h1 (by omega) (by rw [List.take_take, Nat.min_eq_left hk]; exact hold)
        rw [lt1, List.take_take, Nat.min_eq_left hk] at IH
        simp only
        rw [IH]
        simp only [nodeS, r3]
        simp
      · rw [if_neg hk, if_neg hk, ← List.append_assoc, lastS_mk]
        have IH := ih (l.drop (halfN l.length)) (m - halfN l.length) old false rest (by omega) (by omega) r2 (by omega) (by omega) (fun h => by cases h)
        rw [ld1] at IH
        obtain ⟨b1, b2⟩ := tRoot_beyond hl hr h2 (by omega) hm
        simp only
        rw [IH]
        simp only [nodeS, r3, b2]
        simp

/-- Do seals show that a list of n whose seal is root goes on where one of m ended whose seal is old? -/
def growShows (old : By) (m : Int) (root : By) (n : Int) (l : List By) : Int :=
  if m < 1 ∨ n < m ∨ 24 < n then 3
  else if (bothS m.toNat n.toNat old true (l, false)).2.2.2 = true ∨ (bothS m.toNat n.toNat old true (l, false)).2.2.1 ≠ [] ∨ (bothS m.toNat n.toNat old true (l, false)).1 ≠ old ∨ (bothS m.toNat n.toNat old true (l, false)).2.1 ≠ root then 7 else 0

theorem growShows_iff {l : List By} {m : Nat} (hl : l.length ≤ 24) (hr : (tRoot l).2 = 0) (h1 : 1 ≤ m) (hm : m ≤ l.length) (old : By) (seals : List By) :
    growShows old m (tRoot l).1 l.length seals = 0 ↔ old = (tRoot (l.take m)).1 ∧ seals = growOf l m true := by
  unfold growShows
  rw [if_neg (by omega), Int.toNat_natCast, Int.toNat_natCast]
  constructor
  · intro h
    split at h
    · cases h
    · rename_i h2
      simp only [not_or, Bool.not_eq_true, ne_eq, Decidable.not_not] at h2
      obtain ⟨e1, e2, e3, e4⟩ := h2
      obtain ⟨_, g2, g3⟩ := bothS_only _ l m old true (seals, false) [] (Nat.le_refl _) hl hr h1 hm (Prod.ext e2 e1) e4
      rw [g3] at e3
      exact ⟨e3.symm, by simpa using g2⟩
  · rintro ⟨e1, rfl⟩
    have := bothS_shows _ l m old true [] (Nat.le_refl _) hl hr h1 hm (fun _ => e1)
    rw [List.nil_append] at this
    rw [this, if_neg]
    simp [e1]
end Go.Gs

namespace Go.Gs

/-- The seal of one key. -/
def tV : Option By → By × Int
  | some s => tLeaf s
  | none => ([69], 0)

theorem tV_inj {a b : Option By} {x : By} (h : tV a = (x, 0)) (k : tV b = (x, 0)) : a = b := by
  cases a with
  | none =>
    cases b with
    | none => rfl
    | some t =>
      have := tLeaf_ok (s := t) (by rw [show tLeaf t = (x, 0) from k])
      rw [show tLeaf t = (x, 0) from k] at this
      have h : ([69] : By) = x := (Prod.mk.injEq _ _ _ _ ▸ h).1
      rw [← h] at this
      simp at this
  | some s =>
    cases b with
    | none =>
      have := tLeaf_ok (s := s) (by rw [show tLeaf s = (x, 0) from h])
      rw [show tLeaf s = (x, 0) from h] at this
      have k : ([69] : By) = x := (Prod.mk.injEq _ _ _ _ ▸ k).1
      rw [← k] at this
      simp at this
    | some t => rw [tLeaf_inj h k]

/-- The seal of the 2^d keys from one on. -/
def tTrie (f : Nat → Option By) : Nat → Nat → By × Int
  | 0, i => tV (f i)
  | d + 1, i =>
    if (tTrie f d i).2 ≠ 0 then ([], (tTrie f d i).2)
    else if (tTrie f d (i + 2 ^ d)).2 ≠ 0 then ([], (tTrie f d (i + 2 ^ d)).2)
    else tNode (tTrie f d i).1 (tTrie f d (i + 2 ^ d)).1

/-- No value is too long. -/
def GoodV (f : Nat → Option By) : Prop := ∀ k v, f k = some v → v.length ≤ 12

def bnd : Nat → Nat
  | 0 => 13
  | d + 1 => 3 * bnd d + 3

theorem tTrie_good {f : Nat → Option By} (hf : GoodV f) : ∀ (d i : Nat), d ≤ 4 → (tTrie f d i).2 = 0 ∧ (tTrie f d i).1.length ≤ bnd d
  | 0, i, _ => by
    unfold tTrie
    cases h : f i with
    | none => exact ⟨rfl, by simp [tV, bnd]⟩
    | some v =>
      have := hf i v h
      simp only [tV, tLeaf, bnd]
      rw [if_neg (by omega)]
      exact ⟨rfl, by simp; omega⟩
  | d + 1, i, hd => by
    obtain ⟨a1, a2⟩ := tTrie_good hf d i (by omega)
    obtain ⟨b1, b2⟩ := tTrie_good hf d (i + 2 ^ d) (by omega)
    have hb : bnd d ≤ 1173 := by
      have : d = 0 ∨ d = 1 ∨ d = 2 ∨ d = 3 := by omega
      rcases this with rfl | rfl | rfl | rfl <;> decide
    have := itoa_len (tTrie f d i).1.length
    rw [tTrie, if_neg (by simpa using a1), if_neg (by simpa using b1)]
    unfold tNode
    rw [if_neg (by omega)]
    refine ⟨rfl, ?_⟩
    simp only [List.length_cons, List.length_append, bnd]
    omega

theorem tTrie_node {f : Nat → Option By} (hf : GoodV f) {d i : Nat} (hd : d + 1 ≤ 4) : tNode (tTrie f d i).1 (tTrie f d (i + 2 ^ d)).1 = ((tTrie f (d + 1) i).1, 0) := by
  have h := tTrie_good hf (d + 1) i hd
  have a := tTrie_good hf d i (by omega)
  have b := tTrie_good hf d (i + 2 ^ d) (by omega)
  have : tTrie f (d + 1) i = tNode (tTrie f d i).1 (tTrie f d (i + 2 ^ d)).1 := by
    rw [tTrie, if_neg (by simpa using a.1), if_neg (by simpa using b.1)]
  rw [← this]
  exact Prod.ext rfl h.1

theorem tTrie_inj {f g : Nat → Option By} (hf : GoodV f) (hg : GoodV g) : ∀ (d i : Nat), d ≤ 4 → (tTrie f d i).1 = (tTrie g d i).1 → ∀ k, i ≤ k → k < i + 2 ^ d → f k = g k
  | 0, i, _, h, k, h1, h2 => by
    obtain rfl : k = i := by simp at h2; omega
    have a := tTrie_good hf 0 k (by omega)
    have b := tTrie_good hg 0 k (by omega)
    exact tV_inj (x := (tTrie f 0 k).1) (Prod.ext rfl a.1) (Prod.ext h.symm b.1)
  | d + 1, i, hd, h, k, h1, h2 => by
    have a := tTrie_node hf (d := d) (i := i) hd
    have b := tTrie_node hg (d := d) (i := i) hd
    rw [← h] at b
    obtain ⟨e1, e2⟩ := tNode_inj a b
    rcases Nat.lt_or_ge k (i + 2 ^ d) with hk | hk
    · exact tTrie_inj hf hg d i (by omega) e1 k h1 hk
    · exact tTrie_inj hf hg d (i + 2 ^ d) (by omega) e2 k hk (by rw [Nat.pow_succ] at h2; omega)

theorem tTrie_same {f g : Nat → Option By} : ∀ (d i : Nat), (∀ k, i ≤ k → k < i + 2 ^ d → f k = g k) → tTrie f d i = tTrie g d i
  | 0, i, h => by rw [tTrie, tTrie, h i (Nat.le_refl _) (by simp)]
  | d + 1, i, h => by
    have e : (2 : Nat) ^ (d + 1) = 2 ^ d + 2 ^ d := by rw [Nat.pow_succ]; omega
    have h1 := tTrie_same d i fun k h1 h2 => h k h1 (by omega)
    have h2 := tTrie_same d (i + 2 ^ d) fun k h1 h2 => h k (by omega) (by omega)
    rw [tTrie, tTrie, h1, h2]

/-- Where the 2^d keys begin among which a key is; where those beside begin. -/
def base (d key : Nat) : Nat := key / 2 ^ d * 2 ^ d
def sib (d key : Nat) : Nat := if key / 2 ^ d % 2 = 1 then base d key - 2 ^ d else base d key + 2 ^ d
def bitOf (key d : Nat) : Bool := key / 2 ^ d % 2 == 1
def bitsOf (key d : Nat) : List Bool := (List.range d).map (bitOf key)
def triePath (f : Nat → Option By) (key d : Nat) : List By := (List.range d).map fun k => (tTrie f k (sib k key)).1

theorem bitsOf_succ (key d : Nat) : bitsOf key (d + 1) = bitsOf key d ++ [bitOf key d] := by simp [bitsOf, List.range_succ]
theorem triePath_succ (f : Nat → Option By) (key d : Nat) : triePath f key (d + 1) = triePath f key d ++ [(tTrie f d (sib d key)).1] := by simp [triePath, List.range_succ]
theorem bitsOf_len (key d : Nat) : (bitsOf key d).length = d := by simp [bitsOf]
theorem triePath_len (f : Nat → Option By) (key d : Nat) : (triePath f key d).length = d := by simp [triePath]

theorem base_succ (d key : Nat) : (bitOf key d = true → base d key = base (d + 1) key + 2 ^ d ∧ sib d key = base (d + 1) key) ∧ (bitOf key d = false → base d key = base (d + 1) key ∧ sib d key = base (d + 1) key + 2 ^ d) := by
  have hp : 0 < 2 ^ d := Nat.pos_of_ne_zero (by simp)
  have e : key / 2 ^ (d + 1) = key / 2 ^ d / 2 := by rw [Nat.pow_succ, Nat.div_div_eq_div_mul]
  have key2 : base (d + 1) key = (key / 2 ^ d / 2 * 2) * 2 ^ d := by
    unfold base; rw [e, Nat.pow_succ, Nat.mul_comm (2 ^ d) 2, Nat.mul_assoc]
  unfold bitOf sib
  rw [key2]
  unfold base
  constructor
  · intro h
    have h : key / 2 ^ d % 2 = 1 := by simpa using h
    rw [if_pos h]
    have h2 : key / 2 ^ d = key / 2 ^ d / 2 * 2 + 1 := by omega
    have h3 : key / 2 ^ d * 2 ^ d = key / 2 ^ d / 2 * 2 * 2 ^ d + 2 ^ d := by
      conv => lhs; rw [h2]
      rw [Nat.add_mul, Nat.one_mul]
    exact ⟨h3, by omega⟩
  · intro h
    have h : ¬ key / 2 ^ d % 2 = 1 := by simpa using h
    rw [if_neg h]
    have h2 : key / 2 ^ d = key / 2 ^ d / 2 * 2 := by omega
    have h3 : key / 2 ^ d * 2 ^ d = key / 2 ^ d / 2 * 2 * 2 ^ d := by
      conv => lhs; rw [h2]
    exact ⟨h3, by omega⟩

theorem trie_climb {f : Nat → Option By} (hf : GoodV f) (key : Nat) : ∀ (d : Nat) (now : By) (l : List By), d ≤ 4 → l.length = d →
    (climb now (bitsOf key d) (List.zip (bitsOf key d) l) = ((tTrie f d (base d key)).1, 0) ↔ tV (f key) = (now, 0) ∧ l = triePath f key d)
  | 0, now, l, _, hl => by
    obtain rfl : l = [] := List.eq_nil_of_length_eq_zero hl
    have h0 : base 0 key = key := by simp [base]
    have hg := (tTrie_good hf 0 key (by omega)).1
    rw [h0]
    simp only [bitsOf, List.range_zero, List.map_nil, List.zip_nil_left, climb, triePath, and_true, Prod.mk.injEq]
    constructor
    · rintro rfl; exact Prod.ext rfl hg
    · intro h; rw [tTrie, h]
  | d + 1, now, l, hd, hl => by
    have hne : l ≠ [] := by rintro rfl; simp at hl
    obtain ⟨st, last, rfl⟩ : ∃ st last, l = st ++ [last] := ⟨l.dropLast, l.getLast hne, (List.dropLast_concat_getLast hne).symm⟩
    have hsl : st.length = d := by simpa using hl
    have IH := trie_climb hf key d now st (by omega) hsl
    have hz : List.zip (bitsOf key d ++ [bitOf key d]) (st ++ [last]) = List.zip (bitsOf key d) st ++ [(bitOf key d, last)] := by
      rw [List.zip_append (by rw [bitsOf_len, hsl])]; rfl
    have hlen : (bitsOf key d).length = (List.zip (bitsOf key d) st).length := by rw [List.length_zip, bitsOf_len, hsl]; omega
    rw [bitsOf_succ, triePath_succ, hz, climb_append _ _ _ _ _ hlen]
    obtain ⟨b1, b2⟩ := base_succ d key
    have node : up1 (tTrie f d (base d key)).1 (bitOf key d, (tTrie f d (sib d key)).1) = ((tTrie f (d + 1) (base (d + 1) key)).1, 0) := by
      unfold up1
      cases hb : bitOf key d with
      | true =>
        obtain ⟨e1, e2⟩ := b1 hb
        rw [e1, e2]
        exact tTrie_node hf hd
      | false =>
        obtain ⟨e1, e2⟩ := b2 hb
        rw [e1, e2]
        exact tTrie_node hf hd
    constructor
    · intro h
      split at h
      · rename_i h1; rw [Prod.mk.injEq] at h; exact absurd h.2 h1
      · rename_i h1
        have h1 : (climb now (bitsOf key d) (List.zip (bitsOf key d) st)).2 = 0 := by simpa using h1
        simp only [climb] at h
        rw [if_neg (by simp)] at h
        split at h
        · rename_i h4; rw [Prod.mk.injEq] at h; exact absurd h.2 h4
        · rename_i h4
          have h4 : (up1 (climb now (bitsOf key d) (List.zip (bitsOf key d) st)).1 (bitOf key d, last)).2 = 0 := by simpa using h4
          have h5 : up1 (climb now (bitsOf key d) (List.zip (bitsOf key d) st)).1 (bitOf key d, last) = ((tTrie f (d + 1) (base (d + 1) key)).1, 0) := by
            rw [← h]; exact Prod.ext rfl h4
          have hh : (climb now (bitsOf key d) (List.zip (bitsOf key d) st)).1 = (tTrie f d (base d key)).1 ∧ last = (tTrie f d (sib d key)).1 := by
            unfold up1 at h5 node
            cases hb : bitOf key d with
            | true =>
              rw [hb] at h5 node
              obtain ⟨g1, g2⟩ := tNode_inj h5 node
              exact ⟨g2, g1⟩
            | false =>
              rw [hb] at h5 node
              obtain ⟨g1, g2⟩ := tNode_inj h5 node
              exact ⟨g1, g2⟩
          obtain ⟨g3, g4⟩ := IH.1 (Prod.ext hh.1 h1)
          exact ⟨g3, by rw [g4, hh.2]⟩
    · rintro ⟨h1, h3⟩
      obtain ⟨h4, h5⟩ := List.append_inj' h3 rfl
      have h6 := IH.2 ⟨h1, h4⟩
      rw [h6]
      have h5 : last = (tTrie f d (sib d key)).1 := by simpa using h5
      rw [h5]
      simp only [climb]
      rw [if_neg (by simp), if_neg (by simp), node]
      simp

/-- Do seals show that a key has a value (or none) where this is the seal of all? -/
def trieShows (all : By) (key : Int) (value : By) (there : Bool) (l : List By) : Int :=
  if key < 0 ∨ 16 ≤ key then 5 else if there = false ∧ value ≠ [] then 4 else if l.length ≠ 4 then 7
  else if (tV (if there then some value else none)).2 ≠ 0 then (tV (if there then some value else none)).2
  else if (climb (tV (if there then some value else none)).1 (bitsOf key.toNat 4) (List.zip (bitsOf key.toNat 4) l)).2 ≠ 0 then (climb (tV (if there then some value else none)).1 (bitsOf key.toNat 4) (List.zip (bitsOf key.toNat 4) l)).2
  else if (climb (tV (if there then some value else none)).1 (bitsOf key.toNat 4) (List.zip (bitsOf key.toNat 4) l)).1 ≠ all then 7 else 0

theorem trieShows_iff {f : Nat → Option By} (hf : GoodV f) {key : Nat} (hk : key < 16) (value : By) (there : Bool) (l : List By) :
    trieShows (tTrie f 4 0).1 key value there l = 0 ↔ (there = (f key).isSome ∧ value = (f key).getD [] ∧ l = triePath f key 4) := by
  have hb : base 4 key = 0 := by simp only [base]; omega
  have hc := fun now l => trie_climb hf key 4 now l (Nat.le_refl _)
  rw [hb] at hc
  have hg : (tV (f key)).2 = 0 := (tTrie_good hf 0 key (by omega)).1
  unfold trieShows
  rw [if_neg (by omega), Int.toNat_natCast]
  constructor
  · intro h
    generalize hs : tV (if there then some value else none) = s at h
    split at h
    · cases h
    · rename_i h0
      split at h
      · cases h
      · rename_i h1
        have h1 : l.length = 4 := by simpa using h1
        split at h
        · rename_i h2; exact absurd h h2
        · rename_i h2
          have h2 : s.2 = 0 := by simpa using h2
          split at h
          · rename_i h3; exact absurd h h3
          · rename_i h3
            have h3 : (climb s.1 (bitsOf key 4) (List.zip (bitsOf key 4) l)).2 = 0 := by simpa using h3
            split at h
            · cases h
            · rename_i h4
              have h4 : (climb s.1 (bitsOf key 4) (List.zip (bitsOf key 4) l)).1 = (tTrie f 4 0).1 := by simpa using h4
              obtain ⟨g1, g2⟩ := (hc _ l h1).1 (Prod.ext h4 h3)
              have := tV_inj (x := s.1) (hs.trans (Prod.ext rfl h2)) g1
              rw [← this]
              cases there with
              | true => exact ⟨rfl, rfl, g2⟩
              | false => exact ⟨rfl, by simpa using h0, g2⟩
  · rintro ⟨rfl, rfl, rfl⟩
    have e : (if (f key).isSome = true then some ((f key).getD []) else none) = f key := by cases f key <;> rfl
    have h5 := (hc (tV (f key)).1 (triePath f key 4) (triePath_len _ _ _)).2 ⟨Prod.ext rfl hg, rfl⟩
    rw [e, h5, if_neg (by cases f key <;> simp), if_neg (by simp [triePath_len]), if_neg (by simpa using hg), if_neg (by simp), if_neg (by simp)]

/-- A key's path doesn't hang on its own value. -/
theorem triePath_same {f g : Nat → Option By} {key : Nat} (h : ∀ k, k ≠ key → f k = g k) (d : Nat) : triePath f key d = triePath g key d := by
  unfold triePath
  refine List.map_congr_left fun k _ => ?_
  rw [tTrie_same k (sib k key) fun j h1 h2 => h j ?_]
  rintro rfl
  have hp : 0 < 2 ^ k := Nat.pos_of_ne_zero (by simp)
  have hb1 : base k j ≤ j := Nat.div_mul_le_self _ _
  have hb2 : j < base k j + 2 ^ k := by
    have h3 := Nat.div_add_mod j (2 ^ k)
    have h4 := Nat.mod_lt j hp
    rw [Nat.mul_comm] at h3
    unfold base
    omega
  obtain ⟨c1, c2⟩ := base_succ k j
  cases hb : bitOf j k with
  | true => obtain ⟨e1, e2⟩ := c1 hb; omega
  | false => obtain ⟨e1, e2⟩ := c2 hb; omega
end Go.Gs

namespace Go.Gs

abbrev Mp := List (Int × By)

def mGet : Mp → Int → Option By
  | [], _ => none
  | p :: r, k => if p.1 = k then some p.2 else mGet r k

def mPut : Mp → Int → By → Mp
  | [], k, v => [(k, v)]
  | p :: r, k, v => if p.1 = k then (k, v) :: r else p :: mPut r k v

theorem mGet_put : ∀ (m : Mp) (k : Int) (v : By) (j : Int), mGet (mPut m k v) j = if j = k then some v else mGet m j
  | [], k, v, j => by
    simp only [mPut, mGet]
    by_cases h : j = k
    · rw [if_pos h.symm, if_pos h]
    · rw [if_neg (fun e => h e.symm), if_neg h]
  | p :: r, k, v, j => by
    unfold mPut
    split
    · rename_i h
      simp only [mGet]
      by_cases hj : j = k
      · rw [if_pos hj.symm, if_pos hj]
      · rw [if_neg (fun e => hj e.symm), if_neg hj, if_neg (fun e => hj (by rw [← e, h]))]
    · rename_i h
      simp only [mGet]
      rw [mGet_put r k v j]
      by_cases hj : j = k
      · rw [if_neg (by rw [hj]; exact h), if_pos hj, if_pos hj]
      · rw [if_neg hj, if_neg hj]

theorem mGet_none {m : Mp} {k : Int} : mGet m k = none ↔ k ∉ m.map (·.1) := by
  induction m with
  | nil => simp [mGet]
  | cons p r ih =>
    simp only [mGet, List.map_cons, List.mem_cons, not_or]
    split
    · rename_i h; simp [h]
    · rename_i h; rw [ih]; exact ⟨fun h2 => ⟨fun e => h e.symm, h2⟩, fun h2 => h2.2⟩

theorem mGet_mem {m : Mp} {k : Int} {v : By} (h : mGet m k = some v) : (k, v) ∈ m := by
  induction m with
  | nil => simp [mGet] at h
  | cons p r ih =>
    simp only [mGet] at h
    split at h
    · rename_i hk; rw [← hk, ← Option.some.inj h]; simp
    · simp [ih h]

theorem mGet_of_mem {m : Mp} (hn : (m.map (·.1)).Nodup) {k : Int} {v : By} (h : (k, v) ∈ m) : mGet m k = some v := by
  induction m with
  | nil => simp at h
  | cons p r ih =>
    simp only [List.map_cons, List.nodup_cons] at hn
    simp only [mGet]
    rcases List.mem_cons.1 h with h | h
    · rw [← h]; simp
    · rw [if_neg, ih hn.2 h]
      intro e
      exact hn.1 (List.mem_map.2 ⟨_, h, e.symm⟩)

theorem mPut_keys (m : Mp) (k : Int) (v : By) : (mPut m k v).map (·.1) = if k ∈ m.map (·.1) then m.map (·.1) else m.map (·.1) ++ [k] := by
  induction m with
  | nil => simp [mPut]
  | cons p r ih =>
    unfold mPut
    split
    · rename_i h; simp [h]
    · rename_i h
      rw [List.map_cons, ih]
      simp only [List.map_cons, List.mem_cons]
      by_cases hk : k ∈ r.map (·.1)
      · rw [if_pos hk, if_pos (.inr hk)]
      · rw [if_neg hk, if_neg (by rintro (e | e); exact h e.symm; exact hk e)]; rfl

theorem mPut_nodup {m : Mp} (hn : (m.map (·.1)).Nodup) (k : Int) (v : By) : ((mPut m k v).map (·.1)).Nodup := by
  rw [mPut_keys]
  split
  · exact hn
  · rename_i h
    rw [List.nodup_append]
    exact ⟨hn, by simp, fun a ha b hb => by rw [List.mem_singleton.1 hb]; rintro rfl; exact h ha⟩

theorem mPut_len (m : Mp) (k : Int) (v : By) : (mPut m k v).length = if (mGet m k).isSome then m.length else m.length + 1 := by
  have := congrArg List.length (mPut_keys m k v)
  rw [List.length_map] at this
  rw [this]
  cases h : mGet m k with
  | none => rw [if_neg (mGet_none.1 h)]; simp
  | some v' =>
    rw [if_pos (by
      have := mGet_mem h
      exact List.mem_map.2 ⟨_, this, rfl⟩)]
    simp

/-- Two maps alike: as many, and each of the one's in the other one. -/
def mEq (m o : Mp) : Bool := m.length == o.length && m.all fun p => mGet o p.1 == some p.2

theorem mEq_iff {m o : Mp} (hm : (m.map (·.1)).Nodup) (ho : (o.map (·.1)).Nodup) : mEq m o = true ↔ ∀ k, mGet m k = mGet o k := by
  unfold mEq
  simp only [Bool.and_eq_true, beq_iff_eq, List.all_eq_true]
  constructor
  · rintro ⟨h1, h2⟩ k
    cases h : mGet m k with
    | some v => exact (h2 _ (mGet_mem h)).symm
    | none =>
      have hk := mGet_none.1 h
      have sub : m.map (·.1) ⊆ o.map (·.1) := by
        intro a ha
        obtain ⟨p, hp, rfl⟩ := List.mem_map.1 ha
        exact List.mem_map.2 ⟨_, mGet_mem (h2 p hp), rfl⟩
      symm
      rw [mGet_none]
      intro hko
      have hsub2 : k :: m.map (·.1) ⊆ o.map (·.1) := by
        intro a ha
        rcases List.mem_cons.1 ha with rfl | ha
        · exact hko
        · exact sub ha
      have := (List.nodup_cons.2 ⟨hk, hm⟩).length_le_of_subset hsub2
      simp only [List.length_cons, List.length_map] at this
      omega
  · intro h
    refine ⟨Nat.le_antisymm ?_ ?_, fun p hp => ?_⟩
    · have sub : m.map (·.1) ⊆ o.map (·.1) := by
        intro a ha
        apply Classical.byContradiction
        intro hc
        have := mGet_none.2 hc
        rw [← h a] at this
        exact mGet_none.1 this ha
      have := hm.length_le_of_subset sub
      simpa using this
    · have sub : o.map (·.1) ⊆ m.map (·.1) := by
        intro a ha
        apply Classical.byContradiction
        intro hc
        have := mGet_none.2 hc
        rw [h a] at this
        exact mGet_none.1 this ha
      have := ho.length_le_of_subset sub
      simpa using this
    · rw [← h]
      exact mGet_of_mem hm hp

/-- Values are some: one for each key at most. -/
def checkM (m : Mp) : Int :=
  if m.any (fun p => decide (0 ≤ p.1 ∧ p.1 < 16) && decide (12 < p.2.length)) then 2 else if m.any (fun p => decide (p.1 < 0 ∨ 16 ≤ p.1)) then 5 else 0

theorem checkM_ok {m : Mp} (h : checkM m = 0) : ∀ p ∈ m, 0 ≤ p.1 ∧ p.1 < 16 ∧ p.2.length ≤ 12 := by
  intro p hp
  unfold checkM at h
  split at h
  · cases h
  · rename_i h1
    split at h
    · cases h
    · rename_i h2
      simp only [List.any_eq_true, Bool.and_eq_true, decide_eq_true_eq, not_exists, not_and] at h1 h2
      have a := h1 p hp
      have b := h2 p hp
      omega

theorem checkM_mk {m : Mp} (h : ∀ p ∈ m, 0 ≤ p.1 ∧ p.1 < 16 ∧ p.2.length ≤ 12) : checkM m = 0 := by
  unfold checkM
  rw [if_neg, if_neg]
  · simp only [List.any_eq_true, decide_eq_true_eq, not_exists, not_and]
    intro p hp; have := h p hp; omega
  · simp only [List.any_eq_true, Bool.and_eq_true, decide_eq_true_eq, not_exists, not_and]
    intro p hp; have := h p hp; omega

/-- What a map gives, by small numbers. -/
def fM (m : Mp) : Nat → Option By := fun k => mGet m k

theorem fM_good {m : Mp} (h : checkM m = 0) : GoodV (fM m) := fun _ _ hv => (checkM_ok h _ (mGet_mem hv)).2.2

/-- The seal of values. -/
def mapRoot (m : Mp) : By × Int := if checkM m ≠ 0 then ([], checkM m) else tTrie (fM m) 4 0

theorem mapRoot_ok {m : Mp} (h : checkM m = 0) : mapRoot m = ((tTrie (fM m) 4 0).1, 0) := by
  rw [mapRoot, if_neg (by simpa using h)]
  exact Prod.ext rfl (tTrie_good (fM_good h) 4 0 (Nat.le_refl _)).1

theorem mapRoot_code (m : Mp) : (mapRoot m).2 = checkM m := by
  by_cases h : checkM m = 0
  · rw [mapRoot_ok h, h]
  · rw [mapRoot, if_pos h]

theorem mapRoot_inj {m o : Mp} (hm : (m.map (·.1)).Nodup) (ho : (o.map (·.1)).Nodup) (h1 : checkM m = 0) (h2 : checkM o = 0) : (mapRoot m).1 = (mapRoot o).1 ↔ mEq m o = true := by
  rw [mEq_iff hm ho, mapRoot_ok h1, mapRoot_ok h2]
  constructor
  · intro h k
    by_cases hk : 0 ≤ k ∧ k < 16
    · have := tTrie_inj (fM_good h1) (fM_good h2) 4 0 (Nat.le_refl _) h k.toNat (by omega) (by omega)
      unfold fM at this
      rwa [Int.toNat_of_nonneg hk.1] at this
    · have a : mGet m k = none := by rw [mGet_none]; intro hc; obtain ⟨p, hp, rfl⟩ := List.mem_map.1 hc; have := checkM_ok h1 p hp; omega
      have b : mGet o k = none := by rw [mGet_none]; intro hc; obtain ⟨p, hp, rfl⟩ := List.mem_map.1 hc; have := checkM_ok h2 p hp; omega
      rw [a, b]
  · intro h
    have : fM m = fM o := by funext k; exact h k
    rw [this]

end Go.Gs

namespace Go.Ab
open Go.Proofs Go.Gs
variable {G0 : Nat → Option Obj}


theorem mlook_KV (m : Mp) (k : Int) : mlook .i64 k (m.map KV) = some ((mGet m k).map AV.str) := by
  induction m with
  | nil => rfl
  | cons p r ih =>
    simp only [List.map_cons, KV, mlook, mGet]
    have : (IntKind.i64 == IntKind.i64) = true := rfl
    rw [this, cond_true]
    by_cases h : p.1 = k
    · rw [if_pos h, show (p.1 == k) = true by simpa using h]; rfl
    · rw [if_neg h, show (p.1 == k) = false by simpa using h, cond_false]
      exact ih

theorem mlookD_KV (m : Mp) (k : Int) : mlookD .i64 k (.str []) (m.map KV) = some (.str ((mGet m k).getD []), (mGet m k).isSome) := by
  unfold mlookD
  rw [mlook_KV]
  cases mGet m k <;> rfl

theorem mupd_KV (m : Mp) (k : Int) (v : By) : mupd .i64 k (.str v) (m.map KV) = some ((mPut m k v).map KV) := by
  induction m with
  | nil => rfl
  | cons p r ih =>
    simp only [List.map_cons, KV, mupd, mPut]
    have : (IntKind.i64 == IntKind.i64) = true := rfl
    rw [this, cond_true]
    by_cases h : p.1 = k
    · rw [if_pos h, show (p.1 == k) = true by simpa using h]; rfl
    · rw [if_neg h, show (p.1 == k) = false by simpa using h, cond_false, ih]
      rfl

theorem KV_get {m : Mp} {i : Nat} {n : Int} {s : By} (h : (m.map KV)[i]? = some (.int .i64 n, .str s)) : m[i]? = some (n, s) := by
  rw [List.getElem?_map, Option.map_eq_some_iff] at h
  obtain ⟨p, h1, h2⟩ := h
  simp only [KV, Prod.mk.injEq, AV.int.injEq, true_and, AV.str.injEq] at h2
  rw [h1, ← h2.1, ← h2.2]

theorem KV_erase (m : Mp) (i : Nat) : (m.map KV).eraseIdx i = (m.eraseIdx i).map KV := by
  induction m generalizing i with
  | nil => rfl
  | cons p r ih =>
    cases i with
    | zero => rfl
    | succ i => simp only [List.map_cons, List.eraseIdx_cons_succ, ih]

theorem KV_is (m : Mp) : ∀ (i : Nat) (p : AV × AV), (m.map KV)[i]? = some p → ∃ n s, p = (AV.int .i64 n, AV.str s) := by
  intro i p h
  rw [List.getElem?_map, Option.map_eq_some_iff] at h
  obtain ⟨q, _, rfl⟩ := h
  exact ⟨q.1, q.2, rfl⟩

theorem any_erase {m : Mp} {f : Int × By → Bool} {i : Nat} {p : Int × By} (h : m[i]? = some p) (hf : f p = false) : (m.eraseIdx i).any f = m.any f := by
  induction m generalizing i with
  | nil => simp at h
  | cons q r ih =>
    cases i with
    | zero =>
      simp at h
      subst h
      simp [hf]
    | succ i =>
      simp only [List.eraseIdx_cons_succ, List.any_cons]
      rw [ih (by simpa using h)]

theorem len_erase {m : Mp} {i : Nat} {p : Int × By} (h : m[i]? = some p) : (m.eraseIdx i).length + 1 = m.length := by
  have := (List.getElem?_eq_some_iff.1 h).1
  rw [List.length_eraseIdx]; rw [if_pos this]; omega

theorem check_loop1 {R : AV → List (Option Blk) → Prop} : ∀ (n : Nat) (m : Mp), m.length ≤ n → R (.int .i64 (if m.any (fun p => decide (p.1 < 0 ∨ 16 ≤ p.1)) then 5 else 0)) [] →
    Does PG nG G0 (fnOf PG f_trie_Check) 0 (lp PG f_trie_Check 1) (mkT 35 [(24, .iter 0)]) [some (.iter (m.map KV) none)] R := by
  intro n
  induction n with
  | zero =>
    intro m hn hR
    obtain rfl : m = [] := List.eq_nil_of_length_eq_zero (by omega)
    refine does_of_run prOk (trie_Check_l1_run G0 _ R ⟨fun i p h => by simp at h, fun _ => by simpa using hR, fun i n s h => by simp at h⟩)
  | succ n ih =>
    intro m hn hR
    refine does_of_run prOk (trie_Check_l1_run G0 _ R ⟨KV_is m, fun h => ?_, fun i k s h => ?_⟩)
    · have : m = [] := by simpa using h
      subst this
      simpa using hR
    · have h := KV_get h
      have hm := List.mem_of_getElem? h
      simp only [ifK_iff, decide_eq_true_eq, decide_eq_false_iff_not]
      have bad : (k < 0 ∨ 16 ≤ k) → R (.int .i64 5) [] := fun hk => by
        rw [if_pos (List.any_eq_true.2 ⟨_, hm, by simpa using hk⟩)] at hR
        exact hR
      refine ⟨fun h1 => bad (.inl h1), fun h1 => ⟨fun h2 => bad (.inr h2), fun h2 => ?_⟩⟩
      rw [KV_erase]
      refine ih _ (by have := len_erase h; omega) ?_
      rw [any_erase h (by simp; omega)]
      exact hR

theorem good_trieCheck (m : Mp) (nl : Bool) (hn : (m.map (·.1)).Nodup) : Good PG nG G0 f_trie_Check [.mp nl (m.map KV)] [] (.int .i64 (checkM m)) [] := by
  suffices main : ∀ R : AV → List (Option Blk) → Prop, R (.int .i64 (checkM m)) [] → ∀ (d k : Nat), 16 - k ≤ d → k ≤ 16 → (∀ j : Int, 0 ≤ j → j < k → ∀ v, mGet m j = some v → v.length ≤ 12) →
      Does PG nG G0 (fnOf PG f_trie_Check) 0 (lp PG f_trie_Check 0) (mkT 35 [(0, .mp nl (m.map KV)), (7, .int .i64 k)]) [] R from
    good_of_run prOk (by kernel_rfl) (trie_Check_run nl _ G0 _ (main _ ⟨rfl, rfl⟩ 16 0 (by omega) (by omega) (fun j h1 h2 => by omega)))
  intro R hR d
  induction d with
  | zero =>
    intro k h1 h2 hk
    obtain rfl : k = 16 := by omega
    refine does_of_run prOk (trie_Check_l0_run G0 _ _ _ R ?_)
    simp only [ifK_iff, decide_eq_true_eq, decide_eq_false_iff_not]
    refine ⟨fun h => absurd h (by omega), fun _ => check_loop1 _ m (Nat.le_refl _) ?_⟩
    unfold checkM at hR
    rw [if_neg] at hR
    · exact hR
    · simp only [List.any_eq_true, Bool.and_eq_true, decide_eq_true_eq, not_exists, not_and]
      intro p hp h3
      have := hk p.1 h3.1 (by omega) p.2 (mGet_of_mem hn hp)
      omega
  | succ d ih =>
    intro k h1 h2 hk
    by_cases hk16 : k = 16
    · exact ih k (by omega) h2 hk
    · refine does_of_run prOk (trie_Check_l0_run G0 _ _ _ R ?_)
      simp only [ifK_iff, decide_eq_true_eq, decide_eq_false_iff_not]
      rw [wrap64 (by omega) (by omega)]
      refine ⟨fun _ => ⟨_, _, mlookD_KV m k, fun hs => ⟨fun h3 => ?_, fun h3 => ?_⟩, fun hs => ?_⟩, fun h => absurd (show (k : Int) < 16 by omega) h⟩
      · obtain ⟨v, hv⟩ := Option.isSome_iff_exists.1 hs
        rw [hv] at h3
        simp only [Option.getD_some] at h3
        unfold checkM at hR
        rw [if_pos] at hR
        · exact hR
        · refine List.any_eq_true.2 ⟨_, mGet_mem hv, ?_⟩
          simp; omega
      · refine ih (k + 1) (by omega) (by omega) fun j g1 g2 v hv => ?_
        by_cases hj : j = k
        · subst hj
          rw [hv] at h3
          simp only [Option.getD_some] at h3
          omega
        · exact hk j g1 (by omega) v hv
      · refine ih (k + 1) (by omega) (by omega) fun j g1 g2 v hv => ?_
        by_cases hj : j = k
        · subst hj
          rw [hv] at hs
          cases hs
        · exact hk j g1 (by omega) v hv

theorem wrapN {n : Int} (h0 : 0 ≤ n) (h1 : n ≤ 1000000000) : IntKind.i64.wrap n = n := wrap64 (by omega) (by omega)

theorem pow_small {d : Nat} (h : d ≤ 4) : 2 ^ d ≤ 16 ∧ 0 < 2 ^ d := by
  have : d = 0 ∨ d = 1 ∨ d = 2 ∨ d = 3 ∨ d = 4 := by omega
  rcases this with rfl | rfl | rfl | rfl | rfl <;> decide

theorem good_trieroot (hG : GlobOk G0) (m : Mp) (nl : Bool) : ∀ (d i : Nat), d ≤ 4 → i + 2 ^ d ≤ 1000 →
    Good PG nG G0 f_trie_root [.mp nl (m.map KV), .int .i64 i, .int .i64 ((2 ^ d : Nat) : Int)] [] (.tup [.str (tTrie (fM m) d i).1, .int .i64 (tTrie (fM m) d i).2]) [] := by
  intro d
  induction d with
  | zero =>
    intro i _ hi
    refine good_of_run prOk (by kernel_rfl) (trie_root_run nl _ _ _ G0 _ ?_)
    simp only [ifK_iff, beq_iff_eq, beq_eq_false_iff_ne]
    refine ⟨fun _ => ⟨_, _, mlookD_KV m i, fun h => ?_, fun h => ?_⟩, fun h => absurd rfl h⟩
    · obtain ⟨v, hv⟩ := Option.isSome_iff_exists.1 h
      refine ⟨_, _, good_Leaf _, ?_, trivial⟩
      rw [tTrie, fM, hv]; rfl
    · have hv : mGet m i = none := by simpa using h
      refine ⟨_, good_None, ?_, trivial⟩
      rw [tTrie, fM, hv]; rfl
  | succ d ih =>
    intro i hd hi
    obtain ⟨hp, hp0⟩ := pow_small (d := d) (by omega)
    have e : (2 : Nat) ^ (d + 1) = 2 ^ d + 2 ^ d := by rw [Nat.pow_succ]; omega
    have h1 := ih i (by omega) (by omega)
    have h2 := ih (i + 2 ^ d) (by omega) (by omega)
    rw [Int.natCast_add] at h2
    have hq : IntKind.i64.wrap (Int.tdiv ((2 ^ (d + 1) : Nat) : Int) 2) = ((2 ^ d : Nat) : Int) := by
      rw [Int.tdiv_eq_ediv_of_nonneg (by omega), wrapN (by omega) (by omega)]; omega
    refine good_of_run prOk (by kernel_rfl) (trie_root_run nl _ _ _ G0 _ ?_)
    simp only [ifK_iff, beq_iff_eq, beq_eq_false_iff_ne, bne_iff_ne, ne_eq, bne_eq_false_iff_eq]
    rw [hq, wrapN (by omega) (by omega)]
    refine ⟨fun h => absurd h (by omega), fun _ => ⟨by omega, _, _, h1, fun h3 => ?_, fun h3 => ⟨by omega, by omega, _, _, h2, fun h4 => ?_, fun h4 => ⟨_, _, good_Node hG _ _, ?_, trivial⟩⟩⟩⟩
    · rw [tTrie, if_pos h3]; exact ⟨rfl, trivial⟩
    · rw [tTrie, if_neg (by simpa using h3), if_pos h4]; exact ⟨rfl, trivial⟩
    · rw [tTrie, if_neg (by simpa using h3), if_neg (by simpa using h4)]

theorem good_trieRoot (hG : GlobOk G0) (m : Mp) (nl : Bool) (hn : (m.map (·.1)).Nodup) : Good PG nG G0 f_trie_Root [.mp nl (m.map KV)] [] (.tup [.str (mapRoot m).1, .int .i64 (mapRoot m).2]) [] := by
  refine good_of_run prOk (by kernel_rfl) (trie_Root_run nl _ G0 _ ⟨_, good_trieCheck m nl hn, ?_⟩)
  simp only [ifK_iff, bne_iff_ne, ne_eq, bne_eq_false_iff_eq]
  refine ⟨fun h => ?_, fun h => ⟨_, _, good_trieroot hG m nl 4 0 (by omega) (by decide), ?_, trivial⟩⟩
  · rw [mapRoot, if_pos h]; exact ⟨rfl, trivial⟩
  · rw [mapRoot, if_neg (by simpa using h)]

theorem xor_sib : ∀ (key : Fin 16) (k : Fin 4), IntKind.i64.wrap (((BitVec.ofInt 64 (IntKind.i64.wrap (IntKind.i64.wrap (Int.tdiv ((key.val : Nat) : Int) ((2 ^ k.val : Nat) : Int)) * ((2 ^ k.val : Nat) : Int))) ^^^ BitVec.ofInt 64 ((2 ^ k.val : Nat) : Int)).toNat : Nat) : Int) = ((sib k.val key.val : Nat) : Int) := by
  decide +kernel

theorem sib_lt : ∀ (key : Fin 16) (k : Fin 4), sib k.val key.val + 2 ^ k.val ≤ 16 := by decide +kernel

/-- The path of a key, or what is wrong. -/
def pathM (m : Mp) (key : Int) : List By × Int := if checkM m ≠ 0 then ([], checkM m) else if key < 0 ∨ 16 ≤ key then ([], 5) else (triePath (fM m) key.toNat 4, 0)

theorem trieP_loop (hG : GlobOk G0) (m : Mp) (nl : Bool) (hc : checkM m = 0) (key : Nat) (hk : key < 16) {R : AV → List (Option Blk) → Prop} (hR : R (.tup [.sl 1 false none ((triePath (fM m) key 4).map S1), .int .i64 0]) []) :
    ∀ (d k : Nat), 4 - k ≤ d → k ≤ 4 → Does PG nG G0 (fnOf PG f_trie_Path) 0 (lp PG f_trie_Path 0)
      (mkT 49 [(0, .mp nl (m.map KV)), (1, .int .i64 key), (7, .sl 1 (k == 0) (some 0) ((triePath (fM m) key k).map S1)), (8, .int .i64 ((2 ^ k : Nat) : Int))]) [some (.grow 1 k)] R := by
  intro d
  induction d with
  | zero =>
    intro k h1 h2
    obtain rfl : k = 4 := by omega
    refine does_of_run prOk (trie_Path_l0_run G0 _ _ _ _ _ _ _ R ?_)
    simp only [ifK_iff, decide_eq_true_eq, decide_eq_false_iff_not]
    exact ⟨fun h => absurd h (by decide), fun _ => hR⟩
  | succ d ih =>
    intro k h1 h2
    by_cases h4 : k = 4
    · exact ih k (by omega) h2
    · obtain ⟨hp, hp0⟩ := pow_small (d := k) (by omega)
      have hp8 : 2 ^ k ≤ 8 := by
        have : k = 0 ∨ k = 1 ∨ k = 2 ∨ k = 3 := by omega
        rcases this with rfl | rfl | rfl | rfl <;> decide
      have e : (2 : Nat) ^ (k + 1) = 2 ^ k + 2 ^ k := by rw [Nat.pow_succ]; omega
      have hs := sib_lt ⟨key, hk⟩ ⟨k, by omega⟩
      simp only at hs
      have hg := good_trieroot (G0 := G0) hG m nl k (sib k key) (by omega) (by omega)
      have h0 := (tTrie_good (fM_good hc) k (sib k key) (by omega)).1
      have hx := xor_sib ⟨key, hk⟩ ⟨k, by omega⟩
      simp only at hx
      refine does_of_run prOk (trie_Path_l0_run G0 _ _ _ _ _ _ _ R ?_)
      rw [hx]
      simp only [ifK_iff, decide_eq_true_eq, decide_eq_false_iff_not, bne_iff_ne, ne_eq, bne_eq_false_iff_eq]
      refine ⟨fun _ => ⟨by omega, _, _, hg, fun h => absurd h0 h, fun _ => ⟨?_, by simp [triePath_len], ?_⟩⟩, fun h => absurd (show ((2 ^ k : Nat) : Int) < 16 by omega) h⟩
      · simp [triePath_len]; omega
      · have := ih (k + 1) (by omega) (by omega)
        rw [triePath_succ, List.map_append] at this
        rw [wrapN (by omega) (by omega)]
        have e2 : ((2 ^ k : Nat) : Int) * 2 = ((2 ^ (k + 1) : Nat) : Int) := by omega
        rw [e2]
        simp only [List.isEmpty_cons, Bool.and_false]
        exact this

theorem good_triePath (hG : GlobOk G0) (m : Mp) (nl : Bool) (hn : (m.map (·.1)).Nodup) (key : Int) :
    Good PG nG G0 f_trie_Path [.mp nl (m.map KV), .int .i64 key] [] (.tup [.sl 1 (pathM m key).1.isEmpty none ((pathM m key).1.map S1), .int .i64 (pathM m key).2]) [] := by
  refine good_of_run prOk (by kernel_rfl) (trie_Path_run nl _ _ G0 _ ⟨_, good_trieCheck m nl hn, ?_⟩)
  simp only [ifK_iff, decide_eq_true_eq, decide_eq_false_iff_not, bne_iff_ne, ne_eq, bne_eq_false_iff_eq]
  refine ⟨fun h => ?_, fun h => ⟨fun h2 => ?_, fun h2 => ⟨fun h3 => ?_, fun h3 => ?_⟩⟩⟩
  · rw [pathM, if_pos h]; exact ⟨rfl, trivial⟩
  · rw [pathM, if_neg (by simpa using h), if_pos (.inl h2)]; exact ⟨rfl, trivial⟩
  · rw [pathM, if_neg (by simpa using h), if_pos (.inr h3)]; exact ⟨rfl, trivial⟩
  · rw [pathM, if_neg (by simpa using h), if_neg (by omega)]
    obtain ⟨k, rfl⟩ := Int.eq_ofNat_of_zero_le (show 0 ≤ key by omega)
    rw [Int.toNat_natCast]
    have hne : (triePath (fM m) k 4).isEmpty = false := by
      have := triePath_len (fM m) k 4
      cases h : triePath (fM m) k 4 with
      | nil => rw [h] at this; simp at this
      | cons => rfl
    exact trieP_loop hG m nl h k (by omega) (by rw [hne]; exact ⟨rfl, rfl⟩) 4 0 (by omega) (by omega)

theorem bit_and : ∀ (key : Fin 16) (k : Fin 4), (IntKind.i64.wrap (((BitVec.ofInt 64 (Int.fdiv ((key.val : Nat) : Int) ((2 : Int) ^ min k.val 64)) &&& BitVec.ofInt 64 1).toNat : Nat) : Int) == 1) = bitOf key.val k.val := by
  decide +kernel

theorem trieS_loop (hG : GlobOk G0) (all : By) (key : Nat) (hk : key < 16) (nl : Bool) (l : List By) (hl : l.length = 4) {R : AV → List (Option Blk) → Prop} :
    ∀ (d k : Nat) (now : By), 4 - k ≤ d → k ≤ 4 → R (.int .i64 (fin7 all (climb now ((bitsOf key 4).drop k) ((List.zip (bitsOf key 4) l).drop k)))) [] →
      Does PG nG G0 (fnOf PG f_trie_Shows) 0 (lp PG f_trie_Shows 0) (mkT 71 [(0, .str all), (1, .int .i64 key), (11, .str now), (40, .sl 1 nl none (l.map S1)), (41, .int .i64 (l.map S1).length), (42, .int .i64 k)]) [] R := by
  intro d
  induction d with
  | zero =>
    intro k now h1 h2 hR
    obtain rfl : k = 4 := by omega
    refine does_of_run prOk (trie_Shows_l0_run G0 _ _ _ _ _ _ _ R ?_)
    simp only [ifK_iff, decide_eq_true_eq, decide_eq_false_iff_not, List.length_map, hl]
    have hcl : climb now ((bitsOf key 4).drop 4) ((List.zip (bitsOf key 4) l).drop 4) = (now, 0) := by
      rw [List.drop_eq_nil_of_le (show (bitsOf key 4).length ≤ 4 by rw [bitsOf_len]; omega)]; rfl
    rw [hcl, fin7, if_neg (by simp)] at hR
    refine ⟨fun h => absurd h (by decide), fun _ => ⟨fun h => ?_, fun h => ?_⟩⟩
    · have h : now ≠ all := by simpa using h
      simpa [h] using hR
    · have h : now = all := by simpa using h
      simpa [h] using hR
  | succ d ih =>
    intro k now h1 h2 hR
    by_cases h4 : k = 4
    · exact ih k now (by omega) h2 hR
    · have hkl : k < l.length := by omega
      have hb := bit_and ⟨key, hk⟩ ⟨k, by omega⟩
      simp only at hb
      refine does_of_run prOk (trie_Shows_l0_run G0 _ _ _ _ _ _ _ R ?_)
      rw [Int.toNat_natCast, hb]
      simp only [ifK_iff, decide_eq_true_eq, decide_eq_false_iff_not, List.length_map, hl, bne_iff_ne, ne_eq, bne_eq_false_iff_eq]
      rw [wrapN (by omega) (by omega)]
      have hz : (List.zip (bitsOf key 4) l).drop k = (bitOf key k, l[k]) :: (List.zip (bitsOf key 4) l).drop (k + 1) := by
        have hlt : k < (List.zip (bitsOf key 4) l).length := by rw [List.length_zip, bitsOf_len]; omega
        rw [List.drop_eq_getElem_cons hlt]
        congr 1
        rw [List.getElem_zip]
        congr 1
        simp [bitsOf]
      have hbs : (bitsOf key 4).drop k = bitOf key k :: (bitsOf key 4).drop (k + 1) := by
        have hlt : k < (bitsOf key 4).length := by rw [bitsOf_len]; omega
        rw [List.drop_eq_getElem_cons hlt]
        congr 1
        simp [bitsOf]
      rw [hz, hbs, climb, if_neg (by simp)] at hR
      have ih := fun now => ih (k + 1) now (by omega) (by omega)
      rw [List.length_map, hl] at ih
      refine ⟨fun _ => ⟨by omega, l[k], getD_map hkl, by omega, fun h => ⟨_, _, good_Node hG _ _, fun h3 => ?_, fun h3 => ih _ ?_⟩, fun h => ⟨_, _, good_Node hG _ _, fun h3 => ?_, fun h3 => ih _ ?_⟩⟩, fun h => absurd (show (k : Int) < 4 by omega) h⟩
      · simp only [up1, h, if_true] at hR
        rw [if_pos h3, fin7, if_pos h3] at hR
        exact hR
      · simp only [up1, h, if_true] at hR
        rw [if_neg (by simpa using h3)] at hR
        exact hR
      · simp only [up1, h, Bool.false_eq_true, if_false] at hR
        rw [if_pos h3, fin7, if_pos h3] at hR
        exact hR
      · simp only [up1, h, Bool.false_eq_true, if_false] at hR
        rw [if_neg (by simpa using h3)] at hR
        exact hR

theorem trieShows_fin {all : By} {key : Nat} {value : By} {there : Bool} {l : List By} (hk : key < 16) (h : ¬ (there = false ∧ value ≠ [])) (hl : l.length = 4) :
    trieShows all key value there l = if (tV (if there then some value else none)).2 ≠ 0 then (tV (if there then some value else none)).2 else fin7 all (climb (tV (if there then some value else none)).1 (bitsOf key 4) (List.zip (bitsOf key 4) l)) := by
  unfold trieShows fin7
  rw [if_neg (by omega), if_neg h, if_neg (by omega), Int.toNat_natCast]

theorem good_trieShows (hG : GlobOk G0) (all : By) (key : Int) (value : By) (there : Bool) (nl : Bool) (l : List By) :
    Good PG nG G0 f_trie_Shows [.str all, .int .i64 key, .str value, .bool there, .sl 1 nl none (l.map S1)] [] (.int .i64 (trieShows all key value there l)) [] := by
  refine good_of_run prOk (by kernel_rfl) (trie_Shows_run all key value there nl _ G0 _ ?_)
  simp only [ifK_iff, decide_eq_true_eq, decide_eq_false_iff_not, bne_iff_ne, ne_eq, bne_eq_false_iff_eq, Bool.not_eq_true', Bool.not_eq_false', List.length_map]
  have start : ∀ (key : Int), ¬ key < 0 → ¬ 16 ≤ key → ¬ (there = false ∧ value ≠ []) → l.length = 4 → ∀ now, (tV (if there then some value else none)) = (now, 0) →
      Does PG nG G0 (fnOf PG f_trie_Shows) 0 (lp PG f_trie_Shows 0) (mkT 71 [(0, .str all), (1, .int .i64 key), (11, .str now), (40, .sl 1 nl none (l.map S1)), (41, .int .i64 l.length), (42, .int .i64 0)]) []
        fun r' H'' => r' = .int .i64 (trieShows all key value there l) ∧ H'' = [] := by
    intro key h1 h2 h3 h4 now hnow
    obtain ⟨k, rfl⟩ := Int.eq_ofNat_of_zero_le (show 0 ≤ key by omega)
    have := trieS_loop (G0 := G0) hG all k (by omega) nl l h4 (R := fun r' H'' => r' = .int .i64 (trieShows all k value there l) ∧ H'' = []) 4 0 now (by omega) (by omega) ⟨by
      rw [trieShows_fin (by omega) h3 h4, hnow, if_neg (by simp)]; rfl, rfl⟩
    rw [List.length_map] at this
    exact this
  refine ⟨fun h => ?_, fun h1 => ⟨fun h => ?_, fun h2 => ⟨fun h3 => ⟨fun h4 => ?_, fun h4 => ⟨fun h5 => ?_, fun h5 => ⟨_, good_None, fun h6 => ?_, fun h6 => ?_⟩⟩⟩, fun h3 => ⟨fun h5 => ?_, fun h5 => ⟨_, good_None, fun h6 => ⟨_, _, good_Leaf value, fun h7 => ?_, fun h7 => ?_⟩, fun h6 => ?_⟩⟩⟩⟩⟩
  · rw [trieShows, if_pos (.inl h)]; exact ⟨rfl, trivial⟩
  · rw [trieShows, if_pos (.inr h)]; exact ⟨rfl, trivial⟩
  · rw [trieShows, if_neg (by omega), if_pos ⟨h3, by simpa using h4⟩]; exact ⟨rfl, trivial⟩
  · have h4 : value = [] := by simpa using h4
    rw [trieShows, if_neg (by omega), if_neg (by simp [h4]), if_pos (by omega)]; exact ⟨rfl, trivial⟩
  · rw [h3] at h6; cases h6
  · have h4 : value = [] := by simpa using h4
    exact start key h1 h2 (by simp [h4]) (by omega) [69] (by rw [h3]; rfl)
  · rw [trieShows, if_neg (by omega), if_neg (by simp [h3]), if_pos (by omega)]; exact ⟨rfl, trivial⟩
  · rw [trieShows, if_neg (by omega), if_neg (by simp [h3]), if_neg (by omega)]
    simp only [h3, if_true, tV]
    rw [if_pos h7]; exact ⟨rfl, trivial⟩
  · exact start key h1 h2 (by simp [h3]) (by omega) _ (by rw [h3]; exact Prod.ext rfl h7)
  · rw [h3] at h6; cases h6
end Go.Ab

namespace Go.Ab
open Go.Proofs Go.Gs
variable {G0 : Nat → Option Obj}

/-- How many of the first numbers have a value. -/
def cntK (m : Mp) (k : Nat) : Nat := (List.range k).countP fun j => (mGet m (j : Nat)).isSome

theorem cntK_succ (m : Mp) (k : Nat) : cntK m (k + 1) = cntK m k + if (mGet m (k : Nat)).isSome then 1 else 0 := by
  unfold cntK
  rw [List.range_succ, List.countP_append, List.countP_cons, List.countP_nil]
  split <;> simp_all

theorem cntK_all {m : Mp} (hn : (m.map (·.1)).Nodup) : cntK m 16 + m.countP (fun p => decide (p.1 < 0 ∨ 16 ≤ p.1)) = m.length := by
  induction m with
  | nil => simp [cntK, mGet]
  | cons p r ih =>
    simp only [List.map_cons, List.nodup_cons] at hn
    have ih := ih hn.2
    have hsum : cntK (p :: r) 16 = cntK r 16 + if 0 ≤ p.1 ∧ p.1 < 16 then 1 else 0 := by
      have key : ∀ k : Nat, cntK (p :: r) k = cntK r k + if 0 ≤ p.1 ∧ p.1 < k then 1 else 0 := by
        intro k
        induction k with
        | zero => simp [cntK]
        | succ k ihk =>
          rw [cntK_succ, cntK_succ, ihk]
          by_cases hk : p.1 = k
          · have h1 : mGet r k = none := mGet_none.2 (by rw [← hk]; exact hn.1)
            rw [h1]
            simp only [mGet, if_pos hk]
            rw [if_neg (show ¬ (0 ≤ p.1 ∧ p.1 < (k : Int)) by omega), if_pos (show 0 ≤ p.1 ∧ p.1 < ((k + 1 : Nat) : Int) by omega)]
            simp
          · have h1 : mGet (p :: r) k = mGet r k := by rw [mGet, if_neg hk]
            rw [h1]
            have : (0 ≤ p.1 ∧ p.1 < ((k + 1 : Nat) : Int)) ↔ (0 ≤ p.1 ∧ p.1 < k) := by omega
            by_cases h2 : 0 ≤ p.1 ∧ p.1 < (k : Int)
            · rw [if_pos h2, if_pos (this.2 h2)]; omega
            · rw [if_neg h2, if_neg (fun h => h2 (this.1 h))]; omega
      exact key 16
    rw [hsum, List.countP_cons, List.length_cons]
    by_cases h : p.1 < 0 ∨ 16 ≤ p.1
    · rw [if_neg (by omega), if_pos (by simpa using h)]; omega
    · rw [if_pos (by omega), if_neg (by simpa using h)]; omega

theorem cntK_le (m : Mp) (k : Nat) : cntK m k ≤ k := by
  have := List.countP_le_length (p := fun j : Nat => (mGet m (j : Nat)).isSome) (l := List.range k)
  simpa [cntK] using this

theorem good_CheckMap (m : Mp) (nl : Bool) (hn : (m.map (·.1)).Nodup) : Good PG nG G0 f_greatsealref_CheckMap [.mp nl (m.map KV)] [] (.int .i64 (checkM m)) [] := by
  suffices main : ∀ R : AV → List (Option Blk) → Prop, R (.int .i64 (checkM m)) [] → ∀ (d k : Nat), 16 - k ≤ d → k ≤ 16 → (∀ j : Int, 0 ≤ j → j < k → ∀ v, mGet m j = some v → v.length ≤ 12) →
      Does PG nG G0 (fnOf PG f_greatsealref_CheckMap) 0 (lp PG f_greatsealref_CheckMap 0) (mkT 27 [(0, .mp nl (m.map KV)), (3, .int .i64 (cntK m k)), (7, .int .i64 k)]) [] R from
    good_of_run prOk (by kernel_rfl) (greatsealref_CheckMap_run nl _ G0 _ (main _ ⟨rfl, rfl⟩ 16 0 (by omega) (by omega) (fun j h1 h2 => by omega)))
  intro R hR d
  have last : ∀ k : Nat, k = 16 → (∀ j : Int, 0 ≤ j → j < k → ∀ v, mGet m j = some v → v.length ≤ 12) →
      Does PG nG G0 (fnOf PG f_greatsealref_CheckMap) 0 (lp PG f_greatsealref_CheckMap 0) (mkT 27 [(0, .mp nl (m.map KV)), (3, .int .i64 (cntK m k)), (7, .int .i64 k)]) [] R := by
    intro k hk16 hk
    subst hk16
    refine does_of_run prOk (greatsealref_CheckMap_l0_run G0 _ _ _ _ R ?_)
    simp only [ifK_iff, decide_eq_true_eq, decide_eq_false_iff_not, List.length_map]
    have hall := cntK_all hn
    unfold checkM at hR
    rw [if_neg] at hR
    · refine ⟨fun h => absurd h (by omega), fun _ => ⟨fun h => ?_, fun h => ?_⟩⟩
      · rw [if_pos] at hR
        · exact hR
        · have : 0 < m.countP (fun p => decide (p.1 < 0 ∨ 16 ≤ p.1)) := by omega
          rw [List.countP_pos_iff] at this
          exact List.any_eq_true.2 this
      · rw [if_neg] at hR
        · exact hR
        · intro hc
          have : 0 < m.countP (fun p => decide (p.1 < 0 ∨ 16 ≤ p.1)) := List.countP_pos_iff.2 (List.any_eq_true.1 hc)
          omega
    · simp only [List.any_eq_true, Bool.and_eq_true, decide_eq_true_eq, not_exists, not_and]
      intro p hp h3
      have := hk p.1 h3.1 (by omega) p.2 (mGet_of_mem hn hp)
      omega
  induction d with
  | zero => intro k h1 h2 hk; exact last k (by omega) hk
  | succ d ih =>
    intro k h1 h2 hk
    by_cases hk16 : k = 16
    · exact last k hk16 hk
    · have hcl := cntK_le m k
      have ih' := fun h => ih (k + 1) (by omega) (by omega) h
      rw [cntK_succ] at ih'
      refine does_of_run prOk (greatsealref_CheckMap_l0_run G0 _ _ _ _ R ?_)
      simp only [ifK_iff, decide_eq_true_eq, decide_eq_false_iff_not]
      rw [wrapN (by omega) (by omega), wrapN (by omega) (by omega)]
      refine ⟨fun _ => ⟨_, _, mlookD_KV m k, fun hs => ⟨fun h3 => ?_, fun h3 => ?_⟩, fun hs => ?_⟩, fun h => absurd (show (k : Int) < 16 by omega) h⟩
      · obtain ⟨v, hv⟩ := Option.isSome_iff_exists.1 hs
        rw [hv] at h3
        simp only [Option.getD_some] at h3
        unfold checkM at hR
        rw [if_pos] at hR
        · exact hR
        · refine List.any_eq_true.2 ⟨_, mGet_mem hv, ?_⟩
          simp; omega
      · rw [if_pos hs] at ih'
        refine ih' fun j g1 g2 v hv => ?_
        by_cases hj : j = k
        · subst hj
          rw [hv] at h3
          simp only [Option.getD_some] at h3
          omega
        · exact hk j g1 (by omega) v hv
      · rw [if_neg (by simp [hs])] at ih'
        refine ih' fun j g1 g2 v hv => ?_
        by_cases hj : j = k
        · subst hj
          rw [hv] at hs
          cases hs
        · exact hk j g1 (by omega) v hv

theorem tmod2 (q : Nat) : Int.tmod (q : Int) 2 = ((q % 2 : Nat) : Int) := by rw [Int.tmod_eq_emod_of_nonneg (by omega)]; omega
theorem tdiv2 (q : Nat) (h : q ≤ 1000000000) : IntKind.i64.wrap (Int.tdiv (q : Int) 2) = ((q / 2 : Nat) : Int) := by
  rw [Int.tdiv_eq_ediv_of_nonneg (by omega), wrapN (by omega) (by omega)]; omega

theorem pow_div2 (key k : Nat) : key / 2 ^ k / 2 = key / 2 ^ (k + 1) := by rw [Nat.pow_succ, Nat.div_div_eq_div_mul]

theorem mapS_loop (hG : GlobOk G0) (all : By) (key : Nat) (hk : key < 16) (nl : Bool) (l : List By) (hl : l.length = 4) (hs : ∀ s ∈ l, s.length ≤ 4611686018427387903) {R : AV → List (Option Blk) → Prop} :
    ∀ (d k : Nat) (now : By) (e : Int), 4 - k ≤ d → k ≤ 4 → now.length ≤ 4611686018427387903 → R (.int .i64 (if e ≠ 0 then e else fin7 all (climb now ((bitsOf key 4).drop k) ((List.zip (bitsOf key 4) l).drop k)))) [] →
      Does PG nG G0 (fnOf PG f_greatsealref_MapShows) 0 (lp PG f_greatsealref_MapShows 0) (mkT 69 [(0, .str all), (1, .int .i64 ((key / 2 ^ k : Nat) : Int)), (11, .str now), (12, .int .i64 e), (34, .sl 1 nl none (l.map S1)), (35, .int .i64 (l.map S1).length), (36, .int .i64 k)]) [] R := by
  intro d
  have last : ∀ (k : Nat) (now : By) (e : Int), k = 4 → R (.int .i64 (if e ≠ 0 then e else fin7 all (climb now ((bitsOf key 4).drop k) ((List.zip (bitsOf key 4) l).drop k)))) [] →
      Does PG nG G0 (fnOf PG f_greatsealref_MapShows) 0 (lp PG f_greatsealref_MapShows 0) (mkT 69 [(0, .str all), (1, .int .i64 ((key / 2 ^ k : Nat) : Int)), (11, .str now), (12, .int .i64 e), (34, .sl 1 nl none (l.map S1)), (35, .int .i64 (l.map S1).length), (36, .int .i64 k)]) [] R := by
    intro k now e hk4 hR
    subst hk4
    refine does_of_run prOk (greatsealref_MapShows_l0_run G0 _ _ _ _ _ _ _ _ R ?_)
    simp only [ifK_iff, decide_eq_true_eq, decide_eq_false_iff_not, List.length_map, hl, beq_iff_eq, beq_eq_false_iff_ne, ne_eq]
    have hcl : climb now ((bitsOf key 4).drop 4) ((List.zip (bitsOf key 4) l).drop 4) = (now, 0) := by
      rw [List.drop_eq_nil_of_le (show (bitsOf key 4).length ≤ 4 by rw [bitsOf_len]; omega)]; rfl
    rw [hcl, fin7, if_neg (show ¬ (now, (0 : Int)).2 ≠ 0 by simp)] at hR
    refine ⟨fun h => absurd h (by decide), fun _ => ⟨fun he => ⟨fun h => ?_, fun h => ?_⟩, fun he => ?_⟩⟩
    · have h : now ≠ all := by simpa using h
      rw [if_neg (by simpa using he)] at hR
      simpa [h] using hR
    · have h : now = all := by simpa using h
      rw [if_neg (by simpa using he)] at hR
      simpa [h, he] using hR
    · rw [if_pos he] at hR; exact hR
  induction d with
  | zero => intro k now e h1 h2 _ hR; exact last k now e (by omega) hR
  | succ d ih =>
    intro k now e h1 h2 hnow hR
    by_cases h4 : k = 4
    · exact last k now e h4 hR
    · have hkl : k < l.length := by omega
      have hsl := hs l[k] (List.getElem_mem hkl)
      refine does_of_run prOk (greatsealref_MapShows_l0_run G0 _ _ _ _ _ _ _ _ R ?_)
      have hkd : key / 2 ^ k ≤ key := Nat.div_le_self _ _
      rw [Int.toNat_natCast, tmod2, tdiv2 _ (by omega), pow_div2]
      simp only [ifK_iff, decide_eq_true_eq, decide_eq_false_iff_not, List.length_map, hl, bne_iff_ne, ne_eq, bne_eq_false_iff_eq, beq_iff_eq, beq_eq_false_iff_ne]
      rw [wrapN (by omega) (by omega)]
      have hz : (List.zip (bitsOf key 4) l).drop k = (bitOf key k, l[k]) :: (List.zip (bitsOf key 4) l).drop (k + 1) := by
        have hlt : k < (List.zip (bitsOf key 4) l).length := by rw [List.length_zip, bitsOf_len]; omega
        rw [List.drop_eq_getElem_cons hlt]
        congr 1
        rw [List.getElem_zip]
        congr 1
        simp [bitsOf]
      have hbs : (bitsOf key 4).drop k = bitOf key k :: (bitsOf key 4).drop (k + 1) := by
        have hlt : k < (bitsOf key 4).length := by rw [bitsOf_len]; omega
        rw [List.drop_eq_getElem_cons hlt]
        congr 1
        simp [bitsOf]
      rw [hz, hbs, climb, if_neg (show ¬ (bitOf key k, l[k]).1 ≠ bitOf key k by simp)] at hR
      have ih := fun now e h => ih (k + 1) now e (by omega) (by omega) h
      rw [List.length_map, hl] at ih
      refine ⟨fun _ => ⟨by omega, l[k], getD_map hkl, fun h => ?_, fun h => ⟨by omega, fun hb => ⟨_, _, good_NodeOf hG _ _ hnow hsl, by omega, ih _ _ (by have := tNode_len now l[k]; omega) ?_⟩,
        fun hb => ⟨_, _, good_NodeOf hG _ _ hsl hnow, by omega, ih _ _ (by have := tNode_len l[k] now; omega) ?_⟩⟩⟩, fun h => absurd (show (k : Int) < 4 by omega) h⟩
      · rw [if_pos h] at hR; exact hR
      · have hb : bitOf key k = false := by unfold bitOf; simp; omega
        rw [if_neg (by simpa using h)] at hR
        simp only [up1, hb, Bool.false_eq_true, if_false] at hR
        by_cases hc : (tNode now l[k]).2 = 0
        · rw [if_neg (by simpa using hc)]
          rw [if_neg (by simpa using hc)] at hR
          exact hR
        · rw [if_pos hc]
          rw [if_pos hc, fin7, if_pos hc] at hR
          exact hR
      · have hb : bitOf key k = true := by unfold bitOf; simp; omega
        rw [if_neg (by simpa using h)] at hR
        simp only [up1, hb, if_true] at hR
        by_cases hc : (tNode l[k] now).2 = 0
        · rw [if_neg (by simpa using hc)]
          rw [if_neg (by simpa using hc)] at hR
          exact hR
        · rw [if_pos hc]
          rw [if_pos hc, fin7, if_pos hc] at hR
          exact hR
end Go.Ab

/- What the proofs of these laws lean on (5): The types' table of this program, its functions' numbers; DERIVED: THE SHELF's CONTRACTS AT THIS DUMP, IN PLAIN WORDS (tools/lay-plain.mjs out of 'TrydShelf.lean', which tools/lay-shelf.mjs wrote): THE SAME DECLARATIONS UNDER THE SAME NAMES: 'import', 'namespace', 'open', 'def', 'theorem' AND NOTHING ELSE: no command of the shelf's: FOR A HAND-IN. Each laying: the table of numbers ('.._ren') and one theorem, a field a fact of the dump's own or the kernel's comparison; each contract: ONE APPLICATION.; Contracts of the library's functions, as contracts here; What the runs come to; The seals and the lists' seals, in plain words; Contracts: seals, halves, lists; Contracts: the seal of a list, by; no condition. -/
import Derived.Test.YtdolapjfihjmgaaDoorZAllD
import Derived.Test.YtdolapjfihjmgaaDoorProg
import Derived.Shelf.Strconv.Itoa0
import Derived.Shelf.Strconv.Itoa1
import Derived.Shelf.LaysM
import Derived.Shelf.Strconv.Itoa2
import Derived.Shelf.Strconv.Itoa3
import Derived.Lib.ItoaNum
namespace Go.Ab
open Go.Proofs
set_option maxRecDepth 100000
def tyL : List (Option TI) := [
  none,
  some ⟨.scalar (.func), 1, 8, [.func]⟩,
  some ⟨.scalar (.int .i64), 1, 8, [.int .i64]⟩,
  some ⟨.scalar (.int .i64), 1, 8, [.int .i64]⟩,
  some ⟨.scalar (.bool), 1, 1, [.bool]⟩,
  some ⟨.scalar (.int .u8), 1, 1, [.int .u8]⟩,
  some ⟨.scalar (.int .u8), 1, 1, [.int .u8]⟩,
  some ⟨.struct [(0, 2), (1, 3), (2, 4), (3, 6)], 4, 24, [.int .i64, .int .i64, .bool, .int .u8]⟩,
  some ⟨.struct [(0, 2), (1, 3), (2, 4), (3, 6)], 4, 24, [.int .i64, .int .i64, .bool, .int .u8]⟩,
  some ⟨.scalar (.str), 1, 16, [.str]⟩,
  some ⟨.scalar (.str), 1, 16, [.str]⟩,
  some ⟨.scalar (.str), 1, 16, [.str]⟩,
  some ⟨.scalar (.int .u64), 1, 8, [.int .u64]⟩,
  none,
  none,
  some ⟨.scalar (.ptr), 1, 8, [.ptr]⟩,
  some ⟨.scalar (.ptr), 1, 8, [.ptr]⟩,
  some ⟨.scalar (.ptr), 1, 8, [.ptr]⟩,
  none,
  none,
  some ⟨.scalar (.iface), 1, 16, [.iface]⟩,
  some ⟨.scalar (.int .i32), 1, 4, [.int .i32]⟩,
  some ⟨.slice 35, 1, 24, [.sl 6]⟩,
  some ⟨.slice 33, 1, 24, [.sl 2]⟩,
  some ⟨.struct [(0, 23)], 1, 24, [.sl 2]⟩,
  some ⟨.struct [(0, 23)], 1, 24, [.sl 2]⟩,
  some ⟨.arr 2 25, 2, 48, [.sl 2, .sl 2]⟩,
  some ⟨.slice 44, 1, 24, [.sl 4]⟩,
  some ⟨.struct [(0, 26), (2, 27)], 3, 72, [.sl 2, .sl 2, .sl 4]⟩,
  some ⟨.struct [(0, 26), (2, 27)], 3, 72, [.sl 2, .sl 2, .sl 4]⟩,
  none,
  some ⟨.scalar (.func), 1, 8, [.func]⟩,
  some ⟨.struct [(0, 3), (1, 9)], 2, 24, [.int .i64, .str]⟩,
  some ⟨.struct [(0, 3), (1, 9)], 2, 24, [.int .i64, .str]⟩,
  some ⟨.struct [(0, 3), (1, 3), (2, 3), (3, 3), (4, 33)], 6, 56, [.int .i64, .int .i64, .int .i64, .int .i64, .int .i64, .str]⟩,
  some ⟨.struct [(0, 3), (1, 3), (2, 3), (3, 3), (4, 33)], 6, 56, [.int .i64, .int .i64, .int .i64, .int .i64, .int .i64, .str]⟩,
  some ⟨.scalar (.int .i64), 1, 8, [.int .i64]⟩,
  none,
  some ⟨.scalar (.func), 1, 8, [.func]⟩,
  none,
  some ⟨.scalar (.func), 1, 8, [.func]⟩,
  some ⟨.struct [(0, 3), (1, 9), (2, 9)], 3, 40, [.int .i64, .str, .str]⟩,
  some ⟨.struct [(0, 3), (1, 9), (2, 9)], 3, 40, [.int .i64, .str, .str]⟩,
  some ⟨.struct [(0, 42), (3, 4)], 4, 48, [.int .i64, .str, .str, .bool]⟩,
  some ⟨.struct [(0, 42), (3, 4)], 4, 48, [.int .i64, .str, .str, .bool]⟩,
  some ⟨.scalar (.func), 1, 8, [.func]⟩,
  some ⟨.scalar (.func), 1, 8, [.func]⟩,
  some ⟨.scalar (.func), 1, 8, [.func]⟩,
  some ⟨.scalar (.func), 1, 8, [.func]⟩,
  some ⟨.slice 36, 1, 24, [.sl 1]⟩,
  none,
  some ⟨.scalar (.func), 1, 8, [.func]⟩,
  some ⟨.scalar (.func), 1, 8, [.func]⟩,
  none,
  some ⟨.scalar (.func), 1, 8, [.func]⟩,
  some ⟨.scalar (.func), 1, 8, [.func]⟩,
  some ⟨.scalar (.func), 1, 8, [.func]⟩,
  some ⟨.scalar (.func), 1, 8, [.func]⟩,
  some ⟨.scalar (.func), 1, 8, [.func]⟩,
  some ⟨.scalar (.func), 1, 8, [.func]⟩,
  some ⟨.scalar (.func), 1, 8, [.func]⟩,
  some ⟨.scalar (.func), 1, 8, [.func]⟩,
  some ⟨.arr 2 33, 4, 48, [.int .i64, .str, .int .i64, .str]⟩,
  some ⟨.scalar (.func), 1, 8, [.func]⟩,
  some ⟨.scalar (.func), 1, 8, [.func]⟩,
  none,
  some ⟨.scalar (.func), 1, 8, [.func]⟩,
  some ⟨.scalar (.func), 1, 8, [.func]⟩,
  some ⟨.scalar (.func), 1, 8, [.func]⟩,
  some ⟨.scalar (.func), 1, 8, [.func]⟩,
  some ⟨.scalar (.func), 1, 8, [.func]⟩,
  some ⟨.arr 3 23, 3, 72, [.sl 2, .sl 2, .sl 2]⟩,
  some ⟨.scalar (.func), 1, 8, [.func]⟩,
  some ⟨.scalar (.func), 1, 8, [.func]⟩,
  some ⟨.scalar (.func), 1, 8, [.func]⟩,
  some ⟨.scalar (.func), 1, 8, [.func]⟩,
  some ⟨.scalar (.ptr), 1, 8, [.ptr]⟩,
  some ⟨.scalar (.func), 1, 8, [.func]⟩,
  some ⟨.scalar (.func), 1, 8, [.func]⟩,
  some ⟨.scalar (.func), 1, 8, [.func]⟩,
  some ⟨.scalar (.func), 1, 8, [.func]⟩,
  some ⟨.scalar (.func), 1, 8, [.func]⟩,
  some ⟨.scalar (.func), 1, 8, [.func]⟩,
  none,
  some ⟨.scalar (.func), 1, 8, [.func]⟩,
  some ⟨.slice 9, 1, 24, [.sl 1]⟩,
  some ⟨.scalar (.func), 1, 8, [.func]⟩,
  some ⟨.scalar (.func), 1, 8, [.func]⟩,
  some ⟨.map 3 9, 1, 8, [.mp]⟩,
  some ⟨.scalar (.func), 1, 8, [.func]⟩,
  none,
  some ⟨.scalar (.func), 1, 8, [.func]⟩,
  some ⟨.scalar (.func), 1, 8, [.func]⟩,
  none,
  some ⟨.scalar (.func), 1, 8, [.func]⟩,
  some ⟨.scalar (.func), 1, 8, [.func]⟩,
  some ⟨.slice 85, 1, 24, [.sl 1]⟩,
  some ⟨.scalar (.func), 1, 8, [.func]⟩,
  some ⟨.slice 49, 1, 24, [.sl 1]⟩,
  some ⟨.scalar (.func), 1, 8, [.func]⟩,
  none,
  some ⟨.scalar (.func), 1, 8, [.func]⟩,
  some ⟨.scalar (.func), 1, 8, [.func]⟩,
  none,
  some ⟨.scalar (.func), 1, 8, [.func]⟩,
  some ⟨.scalar (.func), 1, 8, [.func]⟩,
  none,
  some ⟨.scalar (.func), 1, 8, [.func]⟩,
  some ⟨.scalar (.func), 1, 8, [.func]⟩,
  some ⟨.scalar (.func), 1, 8, [.func]⟩,
  none,
  some ⟨.scalar (.func), 1, 8, [.func]⟩,
  some ⟨.scalar (.func), 1, 8, [.func]⟩,
  some ⟨.scalar (.func), 1, 8, [.func]⟩,
  some ⟨.scalar (.func), 1, 8, [.func]⟩,
  some ⟨.scalar (.func), 1, 8, [.func]⟩,
  some ⟨.scalar (.func), 1, 8, [.func]⟩,
  some ⟨.scalar (.func), 1, 8, [.func]⟩,
  some ⟨.scalar (.func), 1, 8, [.func]⟩,
  some ⟨.scalar (.func), 1, 8, [.func]⟩,
  some ⟨.scalar (.func), 1, 8, [.func]⟩,
  some ⟨.scalar (.func), 1, 8, [.func]⟩,
  some ⟨.scalar (.func), 1, 8, [.func]⟩,
  some ⟨.slice 124, 1, 24, [.sl 2]⟩,
  some ⟨.arr 2 3, 2, 16, [.int .i64, .int .i64]⟩,
  none,
  some ⟨.scalar (.func), 1, 8, [.func]⟩,
  some ⟨.scalar (.func), 1, 8, [.func]⟩,
  some ⟨.scalar (.func), 1, 8, [.func]⟩,
  some ⟨.scalar (.func), 1, 8, [.func]⟩,
  some ⟨.scalar (.ptr), 1, 8, [.ptr]⟩,
  some ⟨.struct [(0, 85), (1, 4)], 2, 32, [.sl 1, .bool]⟩,
  some ⟨.struct [(0, 85), (1, 4)], 2, 32, [.sl 1, .bool]⟩,
  none,
  some ⟨.scalar (.func), 1, 8, [.func]⟩,
  some ⟨.scalar (.func), 1, 8, [.func]⟩,
  some ⟨.scalar (.func), 1, 8, [.func]⟩,
  some ⟨.scalar (.func), 1, 8, [.func]⟩,
  some ⟨.arr 24 5, 24, 24, [.int .u8, .int .u8, .int .u8, .int .u8, .int .u8, .int .u8, .int .u8, .int .u8, .int .u8, .int .u8, .int .u8, .int .u8, .int .u8, .int .u8, .int .u8, .int .u8, .int .u8, .int .u8, .int .u8, .int .u8, .int .u8, .int .u8, .int .u8, .int .u8]⟩,
  some ⟨.scalar (.int .u64), 1, 8, [.int .u64]⟩,
  some ⟨.scalar (.func), 1, 8, [.func]⟩,
  some ⟨.scalar (.func), 1, 8, [.func]⟩,
  some ⟨.slice 5, 1, 24, [.sl 1]⟩,
  none,
  some ⟨.scalar (.func), 1, 8, [.func]⟩,
  some ⟨.scalar (.func), 1, 8, [.func]⟩,
  some ⟨.arr 20 139, 20, 160, [.int .u64, .int .u64, .int .u64, .int .u64, .int .u64, .int .u64, .int .u64, .int .u64, .int .u64, .int .u64, .int .u64, .int .u64, .int .u64, .int .u64, .int .u64, .int .u64, .int .u64, .int .u64, .int .u64, .int .u64]⟩,
  some ⟨.scalar (.int .u32), 1, 4, [.int .u32]⟩,
  some ⟨.arr 65 5, 65, 65, [.int .u8, .int .u8, .int .u8, .int .u8, .int .u8, .int .u8, .int .u8, .int .u8, .int .u8, .int .u8, .int .u8, .int .u8, .int .u8, .int .u8, .int .u8, .int .u8, .int .u8, .int .u8, .int .u8, .int .u8, .int .u8, .int .u8, .int .u8, .int .u8, .int .u8, .int .u8, .int .u8, .int .u8, .int .u8, .int .u8, .int .u8, .int .u8, .int .u8, .int .u8, .int .u8, .int .u8, .int .u8, .int .u8, .int .u8, .int .u8, .int .u8, .int .u8, .int .u8, .int .u8, .int .u8, .int .u8, .int .u8, .int .u8, .int .u8, .int .u8, .int .u8, .int .u8, .int .u8, .int .u8, .int .u8, .int .u8, .int .u8, .int .u8, .int .u8, .int .u8, .int .u8, .int .u8, .int .u8, .int .u8, .int .u8]⟩,
  some ⟨.scalar (.func), 1, 8, [.func]⟩,
  some ⟨.scalar (.int .u64), 1, 8, [.int .u64]⟩,
  some ⟨.scalar (.func), 1, 8, [.func]⟩,
  some ⟨.scalar (.func), 1, 8, [.func]⟩,
  some ⟨.arr 32 5, 32, 32, [.int .u8, .int .u8, .int .u8, .int .u8, .int .u8, .int .u8, .int .u8, .int .u8, .int .u8, .int .u8, .int .u8, .int .u8, .int .u8, .int .u8, .int .u8, .int .u8, .int .u8, .int .u8, .int .u8, .int .u8, .int .u8, .int .u8, .int .u8, .int .u8, .int .u8, .int .u8, .int .u8, .int .u8, .int .u8, .int .u8, .int .u8, .int .u8]⟩,
  some ⟨.arr 64 5, 64, 64, [.int .u8, .int .u8, .int .u8, .int .u8, .int .u8, .int .u8, .int .u8, .int .u8, .int .u8, .int .u8, .int .u8, .int .u8, .int .u8, .int .u8, .int .u8, .int .u8, .int .u8, .int .u8, .int .u8, .int .u8, .int .u8, .int .u8, .int .u8, .int .u8, .int .u8, .int .u8, .int .u8, .int .u8, .int .u8, .int .u8, .int .u8, .int .u8, .int .u8, .int .u8, .int .u8, .int .u8, .int .u8, .int .u8, .int .u8, .int .u8, .int .u8, .int .u8, .int .u8, .int .u8, .int .u8, .int .u8, .int .u8, .int .u8, .int .u8, .int .u8, .int .u8, .int .u8, .int .u8, .int .u8, .int .u8, .int .u8, .int .u8, .int .u8, .int .u8, .int .u8, .int .u8, .int .u8, .int .u8, .int .u8]⟩,
  none,
  none,
  some ⟨.arr 0 16, 0, 0, []⟩,
  none,
  none,
  some ⟨.scalar (.func), 1, 8, [.func]⟩,
  some ⟨.scalar (.int .u8), 1, 1, [.int .u8]⟩,
  some ⟨.scalar (.int .u8), 1, 1, [.int .u8]⟩,
  some ⟨.scalar (.func), 1, 8, [.func]⟩,
  some ⟨.scalar (.ptr), 1, 8, [.ptr]⟩,
  some ⟨.scalar (.int .i32), 1, 4, [.int .i32]⟩,
  some ⟨.scalar (.int .i32), 1, 4, [.int .i32]⟩,
  none,
  none,
  none]
abbrev ty : Tab := tabOfL tyL
noncomputable abbrev PG : Program := Tryd.prog
theorem prOk : ProgOk PG ty := progOk_of (by kernel_rfl) (by kernel_rfl) (by kernel_rfl)
abbrev nG : Nat := 3
abbrev f_main_main : Nat := 0
abbrev f_gosem_cut : Nat := 1
abbrev f_gosem_cut_init : Nat := 2
abbrev f_greatseallaw_StoryCaught : Nat := 3
abbrev f_greatseallaw_WorldRuns : Nat := 4
abbrev f_greatseallaw_WorldKeeps : Nat := 5
abbrev f_greatseallaw_WorldDoes : Nat := 6
abbrev f_greatseallaw_StoryFork : Nat := 7
abbrev f_greatseallaw_StoryHonest : Nat := 8
abbrev f_greatseallaw_StorySays : Nat := 9
abbrev f_greatseallaw_WorldParts : Nat := 10
abbrev f_greatseallaw_StoryFollows : Nat := 11
abbrev f_greatseallaw_played : Nat := 12
abbrev f_greatseallaw_StoryCaught_c1 : Nat := 13
abbrev f_story_Split : Nat := 14
abbrev f_story_Of : Nat := 15
abbrev f_world_Same : Nat := 16
abbrev f_greatseallaw_telling : Nat := 17
abbrev f_world_Run : Nat := 18
abbrev f_greatsealref_CheckWorld : Nat := 19
abbrev f_greatseallaw_lied : Nat := 20
abbrev f_greatsealref_SameWorld : Nat := 21
abbrev f_greatsealref_Happened : Nat := 22
abbrev f_slices_Equal_Errno : Nat := 23
abbrev f_world_Do : Nat := 24
abbrev f_world_Check : Nat := 25
abbrev f_slices_Equal_Entry : Nat := 26
abbrev f_note_Check : Nat := 27
abbrev f_world_New : Nat := 28
abbrev f_greatsealref_Fresh : Nat := 29
abbrev f_greatseallaw_StoryFork_c1 : Nat := 30
abbrev f_slices_Clone_Happening : Nat := 31
abbrev f_greatseallaw_StoryHonest_c1 : Nat := 32
abbrev f_greatsealref_HeadOf : Nat := 33
abbrev f_greatseallaw_at : Nat := 34
abbrev f_slices_Concat_Errno : Nat := 35
abbrev f_greatseallaw_StoryFollows_c1 : Nat := 36
abbrev f_book_Head : Nat := 37
abbrev f_slices_Clone_Entry : Nat := 38
abbrev f_slices_Equal_Client : Nat := 39
abbrev f_world_Copy : Nat := 40
abbrev f_world_happen : Nat := 41
abbrev f_greatsealref_CheckBook : Nat := 42
abbrev f_greatsealref_CheckHead : Nat := 43
abbrev f_greatseallaw_lied_c1 : Nat := 44
abbrev f_greatseallaw_lied_c2 : Nat := 45
abbrev f_greatsealref_Happened_c1 : Nat := 46
abbrev f_greatsealref_in : Nat := 47
abbrev f_slices_Clone_Client : Nat := 48
abbrev f_greatsealref_Follows : Nat := 49
abbrev f_greatsealref_growth : Nat := 50
abbrev f_greatsealref_Meets : Nat := 51
abbrev f_greatsealref_ValuesOf : Nat := 52
abbrev f_greatsealref_MapShows : Nat := 53
abbrev f_greatsealref_MapPath : Nat := 54
abbrev f_book_Check : Nat := 55
abbrev f_greatsealref_RootOf : Nat := 56
abbrev f_greatsealref_TextsOf : Nat := 57
abbrev f_greatsealref_MapRoots : Nat := 58
abbrev f_slices_Grow_Errno : Nat := 59
abbrev f_book_Values : Nat := 60
abbrev f_tree_Root : Nat := 61
abbrev f_book_Texts : Nat := 62
abbrev f_trie_Root : Nat := 63
abbrev f_book_Put : Nat := 64
abbrev f_world_shows : Nat := 65
abbrev f_world_meets : Nat := 66
abbrev f_show_Value : Nat := 67
abbrev f_client_Finds : Nat := 68
abbrev f_greatsealref_GrowthShows : Nat := 69
abbrev f_greatsealref_GrowthOf : Nat := 70
abbrev f_greatsealref_LeafOf : Nat := 71
abbrev f_greatsealref_NodeOf : Nat := 72
abbrev f_greatsealref_RootOf_c1 : Nat := 73
abbrev f_greatsealref_HalfOf : Nat := 74
abbrev f_greatsealref_TextOf : Nat := 75
abbrev f_seal_None : Nat := 76
abbrev f_seal_Leaf : Nat := 77
abbrev f_tree_Half : Nat := 78
abbrev f_seal_Node : Nat := 79
abbrev f_book_Text : Nat := 80
abbrev f_trie_Check : Nat := 81
abbrev f_trie_root : Nat := 82
abbrev f_client_Follow : Nat := 83
abbrev f_world_growth : Nat := 84
abbrev f_meet_Same : Nat := 85
abbrev f_trie_Path : Nat := 86
abbrev f_trie_Shows : Nat := 87
abbrev f_greatsealref_parts : Nat := 88
abbrev f_slices_Reverse_pair : Nat := 89
abbrev f_strconv_Itoa : Nat := 90
abbrev f_grow_Shows : Nat := 91
abbrev f_show_Growth : Nat := 92
abbrev f_internal_strconv_Itoa : Nat := 93
abbrev f_greatseal_grow_shower_both : Nat := 94
abbrev f_grow_Of : Nat := 95
abbrev f_internal_strconv_FormatInt : Nat := 96
abbrev f_greatseal_grow_shower_last : Nat := 97
abbrev f_greatseal_grow_shower_node : Nat := 98
abbrev f_grow_of : Nat := 99
abbrev f_internal_strconv_small : Nat := 100
abbrev f_internal_strconv_numDigits : Nat := 101
abbrev f_internal_strconv_formatBase10 : Nat := 102
abbrev f_internal_strconv_formatBits : Nat := 103
abbrev f_internal_strconv_log10Pow2 : Nat := 104
abbrev f_math_bits_Len64 : Nat := 105
abbrev f_internal_strconv_bool2_int : Nat := 106
abbrev f_internal_strconv_isPowerOfTwo : Nat := 107
abbrev f_math_bits_TrailingZeros : Nat := 108
abbrev f_math_bits_TrailingZeros32 : Nat := 109
abbrev f_math_bits_TrailingZeros64 : Nat := 110
abbrev f_runtime_boundsError_Error : Nat := 111
abbrev f_runtime_boundsError_RuntimeError : Nat := 112
abbrev f_runtime_errorString_Error : Nat := 113
abbrev f_runtime_errorString_RuntimeError : Nat := 114
abbrev f_runtime_plainError_Error : Nat := 115
abbrev f_runtime_plainError_RuntimeError : Nat := 116
abbrev f_runtime_errorAddressString_Error : Nat := 117
abbrev f_runtime_errorAddressString_RuntimeError : Nat := 118
abbrev f_runtime_TypeAssertionError_Error : Nat := 119
abbrev f_runtime_TypeAssertionError_RuntimeError : Nat := 120
abbrev f_runtime_PanicNilError_Error : Nat := 121
abbrev f_runtime_PanicNilError_RuntimeError : Nat := 122
abbrev f_internal_abi_Type_Align : Nat := 123
abbrev f_internal_runtime_maps_unhashableTypeError_Error : Nat := 124
abbrev f_internal_runtime_maps_unhashableTypeError_RuntimeError : Nat := 125
abbrev f_internal_abi_Kind_String : Nat := 126
abbrev f_gosem_cut_vars : Nat := 132
end Go.Ab

namespace Go.Proofs
open Go.Shelf
def Tryd.lays129_ren : Go.Shelf.Ren := ⟨fun | 129 => 105 | n => n, fun | 53 => 139 | 3 => 3 | 4 => 4 | 46 => 150 | 5 => 5 | 9 => 9 | n => n, fun | n => n⟩
theorem Tryd.lays129 : Go.Proofs.Lays.n129 Tryd.prog Tryd.lays129_ren := {
  mixed := by kernel_rfl
  f129 := Tryd.func105.trans (congrArg some (by kernel_rfl))
  t3 := Tryd.underlying3
  a3 := Tryd.isAgg3
  z3 := Tryd.sizeOf3
  v3 := Tryd.zeroValue3
  t4 := Tryd.underlying4
  a4 := Tryd.isAgg4
  z4 := Tryd.sizeOf4
  v4 := Tryd.zeroValue4
  t5 := Tryd.underlying5
  a5 := Tryd.isAgg5
  z5 := Tryd.sizeOf5
  v5 := Tryd.zeroValue5
  t9 := Tryd.underlying9
  a9 := Tryd.isAgg9
  z9 := Tryd.sizeOf9
  v9 := Tryd.zeroValue9
  t46 := Tryd.underlying150
  a46 := Tryd.isAgg150
  z46 := Tryd.sizeOf150
  v46 := Tryd.zeroValue150
  t53 := Tryd.underlying139
  a53 := Tryd.isAgg139
  z53 := Tryd.sizeOf139
  v53 := Tryd.zeroValue139 }
theorem Tryd.bits_Len64 (x : Int) (w : World) (h0 : 0 ≤ x) (h1 : x ≤ 18446744073709551615) :
    Calls Tryd.prog 105 #[.int .u64 x] w fun e w' => e = .returned (.int .i64 (Lib.bitLen x.toNat)) ∧ w' = w := Any.bits_Len64 Tryd.lays129 x w h0 h1
def Tryd.lays317_ren : Go.Shelf.Ren := ⟨fun | 317 => 104 | n => n, fun | 3 => 3 | 46 => 150 | n => n, fun | n => n⟩
theorem Tryd.lays317 : Go.Proofs.Lays.n317 Tryd.prog Tryd.lays317_ren := {
  mixed := by kernel_rfl
  f317 := Tryd.func104.trans (congrArg some (by kernel_rfl))
  t3 := Tryd.underlying3
  a3 := Tryd.isAgg3
  z3 := Tryd.sizeOf3
  v3 := Tryd.zeroValue3
  t46 := Tryd.underlying150
  a46 := Tryd.isAgg150
  z46 := Tryd.sizeOf150
  v46 := Tryd.zeroValue150 }
open Go.Lib in
theorem Tryd.internal_strconv_log10Pow2 (x : Nat) (h : x ≤ 64) (w : World) :
    Calls Tryd.prog 104 #[.int .i64 x] w fun e w' => e = .returned (.int .i64 (Lib.l10 x)) ∧ w' = w := Any.internal_strconv_log10Pow2 Tryd.lays317 x h w
def Tryd.lays318_ren : Go.Shelf.Ren := ⟨fun | 318 => 106 | n => n, fun | 3 => 3 | 4 => 4 | n => n, fun | n => n⟩
theorem Tryd.lays318 : Go.Proofs.Lays.n318 Tryd.prog Tryd.lays318_ren := {
  mixed := by kernel_rfl
  f318 := Tryd.func106.trans (congrArg some (by kernel_rfl))
  t3 := Tryd.underlying3
  a3 := Tryd.isAgg3
  z3 := Tryd.sizeOf3
  v3 := Tryd.zeroValue3
  t4 := Tryd.underlying4
  a4 := Tryd.isAgg4
  z4 := Tryd.sizeOf4
  v4 := Tryd.zeroValue4 }
open Go.Lib in
theorem Tryd.internal_strconv_bool2_int (b : Bool) (w : World) :
    Calls Tryd.prog 106 #[.bool b] w fun e w' => e = .returned (.int .i64 (if b then 1 else 0)) ∧ w' = w := Any.internal_strconv_bool2_int Tryd.lays318 b w
def Tryd.lays283_ren : Go.Shelf.Ren := ⟨fun | 283 => 100 | n => n, fun | 3 => 3 | 9 => 9 | 4 => 4 | n => n, fun | n => n⟩
theorem Tryd.lays283 : Go.Proofs.Lays.n283 Tryd.prog Tryd.lays283_ren := {
  mixed := by kernel_rfl
  f283 := Tryd.func100.trans (congrArg some (by kernel_rfl))
  t3 := Tryd.underlying3
  a3 := Tryd.isAgg3
  z3 := Tryd.sizeOf3
  v3 := Tryd.zeroValue3
  t4 := Tryd.underlying4
  a4 := Tryd.isAgg4
  z4 := Tryd.sizeOf4
  v4 := Tryd.zeroValue4
  t9 := Tryd.underlying9
  a9 := Tryd.isAgg9
  z9 := Tryd.sizeOf9
  v9 := Tryd.zeroValue9 }
open Go.Lib in
theorem Tryd.internal_strconv_small (i : Nat) (h : i < 100) (w : World) :
    Calls Tryd.prog 100 #[.int .i64 i] w fun e w' => e = .returned (.string ⟨(Lib.decDigits i).toArray⟩) ∧ w' = w := Any.internal_strconv_small Tryd.lays283 i h w
def Tryd.laysM284_ren : Go.Shelf.Ren := ⟨fun | 284 => 101 | 129 => 105 | 317 => 104 | 318 => 106 | n => n, fun | 53 => 139 | 3 => 3 | 212 => 146 | 0 => 0 | 4 => 4 | 46 => 150 | 5 => 5 | 9 => 9 | n => n, fun | 17 => 0 | n => n⟩
theorem Tryd.laysM284 : Go.Proofs.LaysM.n284 Tryd.prog Tryd.laysM284_ren := {
  mixed := by kernel_rfl
  f129 := Tryd.func105.trans (congrArg some (by kernel_rfl))
  f284 := Tryd.func101.trans (congrArg some (by kernel_rfl))
  f317 := Tryd.func104.trans (congrArg some (by kernel_rfl))
  f318 := Tryd.func106.trans (congrArg some (by kernel_rfl))
  t0 := Tryd.underlying0
  a0 := Tryd.isAgg0
  z0 := Tryd.sizeOf0
  v0 := Tryd.zeroValue0
  t3 := Tryd.underlying3
  a3 := Tryd.isAgg3
  z3 := Tryd.sizeOf3
  v3 := Tryd.zeroValue3
  t4 := Tryd.underlying4
  a4 := Tryd.isAgg4
  z4 := Tryd.sizeOf4
  v4 := Tryd.zeroValue4
  t5 := Tryd.underlying5
  a5 := Tryd.isAgg5
  z5 := Tryd.sizeOf5
  v5 := Tryd.zeroValue5
  t9 := Tryd.underlying9
  a9 := Tryd.isAgg9
  z9 := Tryd.sizeOf9
  v9 := Tryd.zeroValue9
  t46 := Tryd.underlying150
  a46 := Tryd.isAgg150
  z46 := Tryd.sizeOf150
  v46 := Tryd.zeroValue150
  t53 := Tryd.underlying139
  a53 := Tryd.isAgg139
  z53 := Tryd.sizeOf139
  v53 := Tryd.zeroValue139
  t212 := Tryd.underlying146
  a212 := Tryd.isAgg146
  z212 := Tryd.sizeOf146
  v212 := Tryd.zeroValue146
  g17 := by kernel_rfl
  i0 := by kernel_rfl
  i3 := by kernel_rfl
  i4 := by kernel_rfl
  i5 := by kernel_rfl
  i9 := by kernel_rfl
  i46 := by kernel_rfl
  i53 := by kernel_rfl
  i212 := by kernel_rfl
  m17 := by kernel_rfl }
open Go.Lib in
/-- internal/strconv.numDigits, at a d that is not 0: THE NUMBER OF d's DECIMAL DIGITS. The world is as it was. (LAID: no walk: one application.) -/
theorem Tryd.internal_strconv_numDigits (u : Nat) (h1 : 1 ≤ u) (h2 : u < 18446744073709551616) (w : World) (htab : Lib.TabIs Tryd.prog w "internal/strconv.uint64pow10" .u64 Lib.pow10Tab) :
    Calls Tryd.prog 101 #[.int .u64 u] w fun e w' => e = .returned (.int .i64 (Lib.nDigits u)) ∧ w' = w := Any.internal_strconv_numDigits Tryd.laysM284 u h1 h2 w htab
def Tryd.lays285_ren : Go.Shelf.Ren := ⟨fun | 285 => 102 | n => n, fun | 37 => 142 | 53 => 139 | 3 => 3 | 4 => 4 | 51 => 147 | 9 => 9 | 5 => 5 | 0 => 0 | n => n, fun | n => n⟩
theorem Tryd.lays285 : Go.Proofs.Lays.n285 Tryd.prog Tryd.lays285_ren := {
  mixed := by kernel_rfl
  f285 := Tryd.func102.trans (congrArg some (by kernel_rfl))
  t0 := Tryd.underlying0
  a0 := Tryd.isAgg0
  z0 := Tryd.sizeOf0
  v0 := Tryd.zeroValue0
  t3 := Tryd.underlying3
  a3 := Tryd.isAgg3
  z3 := Tryd.sizeOf3
  v3 := Tryd.zeroValue3
  t4 := Tryd.underlying4
  a4 := Tryd.isAgg4
  z4 := Tryd.sizeOf4
  v4 := Tryd.zeroValue4
  t5 := Tryd.underlying5
  a5 := Tryd.isAgg5
  z5 := Tryd.sizeOf5
  v5 := Tryd.zeroValue5
  t9 := Tryd.underlying9
  a9 := Tryd.isAgg9
  z9 := Tryd.sizeOf9
  v9 := Tryd.zeroValue9
  t37 := Tryd.underlying142
  a37 := Tryd.isAgg142
  z37 := Tryd.sizeOf142
  v37 := Tryd.zeroValue142
  t51 := Tryd.underlying147
  a51 := Tryd.isAgg147
  z51 := Tryd.sizeOf147
  v51 := Tryd.zeroValue147
  t53 := Tryd.underlying139
  a53 := Tryd.isAgg139
  z53 := Tryd.sizeOf139
  v53 := Tryd.zeroValue139 }
open Go.RowKit Go.Sort Go.Lib in
theorem Tryd.internal_strconv_formatBase10 (blk off cap : Nat) (u : Nat) (d : Array UInt8) (w : World) (hH : Holds (fun (b : UInt8) => Value.int .u8 (b.toNat : Int)) w blk off d) (hu : u < 10 ^ d.size) (hu64 : u < 18446744073709551616) (hsz : d.size < 4611686018427387904) :
    Calls Tryd.prog 102 #[.slice (some ⟨blk, off, none⟩) d.size cap, .int .u64 u] w fun e w' =>
      e = .returned (.tuple #[]) ∧ ∃ (n v' : Nat) (dk : Array UInt8), w' = (putRow (fun (b : UInt8) => Value.int .u8 (b.toNat : Int)) w blk off dk).drewN n ∧ FmtInv d.size u 0 v' dk := Any.internal_strconv_formatBase10 Tryd.lays285 blk off cap u d w hH hu hu64 hsz
def Tryd.laysM246_ren : Go.Shelf.Ren := ⟨fun | 246 => 96 | 283 => 100 | 284 => 101 | 285 => 102 | 286 => 103 | 129 => 105 | 317 => 104 | 318 => 106 | 319 => 107 | 320 => 108 | 337 => 109 | 338 => 110 | n => n, fun | 2 => 2 | 3 => 3 | 9 => 9 | 4 => 4 | 171 => 138 | 0 => 0 | 53 => 139 | 37 => 142 | 5 => 5 | 173 => 143 | 212 => 146 | 51 => 147 | 20 => 20 | 213 => 148 | 46 => 150 | 232 => 153 | 233 => 154 | n => n, fun | 17 => 0 | 18 => 1 | 19 => 2 | n => n⟩
theorem Tryd.laysM246 : Go.Proofs.LaysM.n246 Tryd.prog Tryd.laysM246_ren := {
  mixed := by kernel_rfl
  f129 := Tryd.func105.trans (congrArg some (by kernel_rfl))
  f246 := Tryd.func96.trans (congrArg some (by kernel_rfl))
  f283 := Tryd.func100.trans (congrArg some (by kernel_rfl))
  f284 := Tryd.func101.trans (congrArg some (by kernel_rfl))
  f285 := Tryd.func102.trans (congrArg some (by kernel_rfl))
  f286 := Tryd.func103.trans (congrArg some (by kernel_rfl))
  f317 := Tryd.func104.trans (congrArg some (by kernel_rfl))
  f318 := Tryd.func106.trans (congrArg some (by kernel_rfl))
  f319 := Tryd.func107.trans (congrArg some (by kernel_rfl))
  f320 := Tryd.func108.trans (congrArg some (by kernel_rfl))
  f337 := Tryd.func109.trans (congrArg some (by kernel_rfl))
  f338 := Tryd.func110.trans (congrArg some (by kernel_rfl))
  t0 := Tryd.underlying0
  a0 := Tryd.isAgg0
  z0 := Tryd.sizeOf0
  v0 := Tryd.zeroValue0
  t2 := Tryd.underlying2
  a2 := Tryd.isAgg2
  z2 := Tryd.sizeOf2
  v2 := Tryd.zeroValue2
  t3 := Tryd.underlying3
  a3 := Tryd.isAgg3
  z3 := Tryd.sizeOf3
  v3 := Tryd.zeroValue3
  t4 := Tryd.underlying4
  a4 := Tryd.isAgg4
  z4 := Tryd.sizeOf4
  v4 := Tryd.zeroValue4
  t5 := Tryd.underlying5
  a5 := Tryd.isAgg5
  z5 := Tryd.sizeOf5
  v5 := Tryd.zeroValue5
  t9 := Tryd.underlying9
  a9 := Tryd.isAgg9
  z9 := Tryd.sizeOf9
  v9 := Tryd.zeroValue9
  t20 := Tryd.underlying20
  a20 := Tryd.isAgg20
  z20 := Tryd.sizeOf20
  v20 := Tryd.zeroValue20
  t37 := Tryd.underlying142
  a37 := Tryd.isAgg142
  z37 := Tryd.sizeOf142
  v37 := Tryd.zeroValue142
  t46 := Tryd.underlying150
  a46 := Tryd.isAgg150
  z46 := Tryd.sizeOf150
  v46 := Tryd.zeroValue150
  t51 := Tryd.underlying147
  a51 := Tryd.isAgg147
  z51 := Tryd.sizeOf147
  v51 := Tryd.zeroValue147
  t53 := Tryd.underlying139
  a53 := Tryd.isAgg139
  z53 := Tryd.sizeOf139
  v53 := Tryd.zeroValue139
  t171 := Tryd.underlying138
  a171 := Tryd.isAgg138
  z171 := Tryd.sizeOf138
  v171 := Tryd.zeroValue138
  t173 := Tryd.underlying143
  a173 := Tryd.isAgg143
  z173 := Tryd.sizeOf143
  v173 := Tryd.zeroValue143
  t212 := Tryd.underlying146
  a212 := Tryd.isAgg146
  z212 := Tryd.sizeOf146
  v212 := Tryd.zeroValue146
  t213 := Tryd.underlying148
  a213 := Tryd.isAgg148
  z213 := Tryd.sizeOf148
  t232 := Tryd.underlying153
  a232 := Tryd.isAgg153
  z232 := Tryd.sizeOf153
  v232 := Tryd.zeroValue153
  t233 := Tryd.underlying154
  a233 := Tryd.isAgg154
  z233 := Tryd.sizeOf154
  v233 := Tryd.zeroValue154
  g17 := by kernel_rfl
  g18 := by kernel_rfl
  g19 := by kernel_rfl
  i0 := by kernel_rfl
  i2 := by kernel_rfl
  i3 := by kernel_rfl
  i4 := by kernel_rfl
  i5 := by kernel_rfl
  i9 := by kernel_rfl
  i20 := by kernel_rfl
  i37 := by kernel_rfl
  i46 := by kernel_rfl
  i51 := by kernel_rfl
  i53 := by kernel_rfl
  i171 := by kernel_rfl
  i173 := by kernel_rfl
  i212 := by kernel_rfl
  i232 := by kernel_rfl
  i233 := by kernel_rfl
  m17 := by kernel_rfl
  m18 := by kernel_rfl
  m19 := by kernel_rfl }
open Go.RowKit Go.Sort Go.Lib in
theorem Tryd.internal_strconv_FormatInt_10 (n : Int) (h0 : -9223372036854775808 ≤ n) (h1 : n ≤ 9223372036854775807) (w : World) (htab : Lib.TabIs Tryd.prog w "internal/strconv.uint64pow10" .u64 Lib.pow10Tab) :
    Calls Tryd.prog 96 #[.int .i64 n, .int .i64 10] w fun e w' => e = .returned (.string ⟨(Lib.itoa n).toArray⟩) ∧ ∃ k os, w' = grow (w.drewN k) os := Any.internal_strconv_FormatInt_10 Tryd.laysM246 n h0 h1 w htab
def Tryd.lays246_ren : Go.Shelf.Ren := ⟨fun | 246 => 96 | 283 => 100 | 284 => 101 | 285 => 102 | 286 => 103 | 129 => 105 | 317 => 104 | 318 => 106 | 319 => 107 | 320 => 108 | 337 => 109 | 338 => 110 | n => n, fun | 2 => 2 | 3 => 3 | 9 => 9 | 4 => 4 | 171 => 138 | 0 => 0 | 53 => 139 | 37 => 142 | 5 => 5 | 173 => 143 | 212 => 146 | 51 => 147 | 20 => 20 | 213 => 148 | 46 => 150 | 232 => 153 | 233 => 154 | n => n, fun | 17 => 0 | 18 => 1 | 19 => 2 | n => n⟩
theorem Tryd.lays246 : Go.Proofs.Lays.n246 Tryd.prog Tryd.lays246_ren := {
  mixed := by kernel_rfl
  f129 := Tryd.func105.trans (congrArg some (by kernel_rfl))
  f246 := Tryd.func96.trans (congrArg some (by kernel_rfl))
  f283 := Tryd.func100.trans (congrArg some (by kernel_rfl))
  f284 := Tryd.func101.trans (congrArg some (by kernel_rfl))
  f285 := Tryd.func102.trans (congrArg some (by kernel_rfl))
  f286 := Tryd.func103.trans (congrArg some (by kernel_rfl))
  f317 := Tryd.func104.trans (congrArg some (by kernel_rfl))
  f318 := Tryd.func106.trans (congrArg some (by kernel_rfl))
  f319 := Tryd.func107.trans (congrArg some (by kernel_rfl))
  f320 := Tryd.func108.trans (congrArg some (by kernel_rfl))
  f337 := Tryd.func109.trans (congrArg some (by kernel_rfl))
  f338 := Tryd.func110.trans (congrArg some (by kernel_rfl))
  t0 := Tryd.underlying0
  a0 := Tryd.isAgg0
  z0 := Tryd.sizeOf0
  v0 := Tryd.zeroValue0
  t2 := Tryd.underlying2
  a2 := Tryd.isAgg2
  z2 := Tryd.sizeOf2
  v2 := Tryd.zeroValue2
  t3 := Tryd.underlying3
  a3 := Tryd.isAgg3
  z3 := Tryd.sizeOf3
  v3 := Tryd.zeroValue3
  t4 := Tryd.underlying4
  a4 := Tryd.isAgg4
  z4 := Tryd.sizeOf4
  v4 := Tryd.zeroValue4
  t5 := Tryd.underlying5
  a5 := Tryd.isAgg5
  z5 := Tryd.sizeOf5
  v5 := Tryd.zeroValue5
  t9 := Tryd.underlying9
  a9 := Tryd.isAgg9
  z9 := Tryd.sizeOf9
  v9 := Tryd.zeroValue9
  t20 := Tryd.underlying20
  a20 := Tryd.isAgg20
  z20 := Tryd.sizeOf20
  v20 := Tryd.zeroValue20
  t37 := Tryd.underlying142
  a37 := Tryd.isAgg142
  z37 := Tryd.sizeOf142
  v37 := Tryd.zeroValue142
  t46 := Tryd.underlying150
  a46 := Tryd.isAgg150
  z46 := Tryd.sizeOf150
  v46 := Tryd.zeroValue150
  t51 := Tryd.underlying147
  a51 := Tryd.isAgg147
  z51 := Tryd.sizeOf147
  v51 := Tryd.zeroValue147
  t53 := Tryd.underlying139
  a53 := Tryd.isAgg139
  z53 := Tryd.sizeOf139
  v53 := Tryd.zeroValue139
  t171 := Tryd.underlying138
  a171 := Tryd.isAgg138
  z171 := Tryd.sizeOf138
  v171 := Tryd.zeroValue138
  t173 := Tryd.underlying143
  a173 := Tryd.isAgg143
  z173 := Tryd.sizeOf143
  v173 := Tryd.zeroValue143
  t212 := Tryd.underlying146
  a212 := Tryd.isAgg146
  z212 := Tryd.sizeOf146
  v212 := Tryd.zeroValue146
  t213 := Tryd.underlying148
  a213 := Tryd.isAgg148
  z213 := Tryd.sizeOf148
  t232 := Tryd.underlying153
  a232 := Tryd.isAgg153
  z232 := Tryd.sizeOf153
  v232 := Tryd.zeroValue153
  t233 := Tryd.underlying154
  a233 := Tryd.isAgg154
  z233 := Tryd.sizeOf154
  v233 := Tryd.zeroValue154
  g17 := by kernel_rfl
  g18 := by kernel_rfl
  g19 := by kernel_rfl }
open Go.RowKit Go.Sort Go.Lib in
/-- THE ROAD WITHOUT THE TABLE: 0 <= i < 100: two constants are read, nothing is laid: no premise on the world, and the world is as it was. (LAID: no walk: one application.) -/
theorem Tryd.internal_strconv_FormatInt_10_small (i : Nat) (hi : i < 100) (w : World) :
    Calls Tryd.prog 96 #[.int .i64 i, .int .i64 10] w fun e w' => e = .returned (.string ⟨(Lib.decDigits i).toArray⟩) ∧ w' = w := Any.internal_strconv_FormatInt_10_small Tryd.lays246 i hi w
def Tryd.laysM243_ren : Go.Shelf.Ren := ⟨fun | 243 => 93 | 246 => 96 | 283 => 100 | 284 => 101 | 285 => 102 | 286 => 103 | 129 => 105 | 317 => 104 | 318 => 106 | 319 => 107 | 320 => 108 | 337 => 109 | 338 => 110 | n => n, fun | 3 => 3 | 9 => 9 | 2 => 2 | 4 => 4 | 171 => 138 | 0 => 0 | 53 => 139 | 37 => 142 | 5 => 5 | 173 => 143 | 212 => 146 | 51 => 147 | 20 => 20 | 213 => 148 | 46 => 150 | 232 => 153 | 233 => 154 | n => n, fun | 17 => 0 | 18 => 1 | 19 => 2 | n => n⟩
theorem Tryd.laysM243 : Go.Proofs.LaysM.n243 Tryd.prog Tryd.laysM243_ren := {
  mixed := by kernel_rfl
  f129 := Tryd.func105.trans (congrArg some (by kernel_rfl))
  f243 := Tryd.func93.trans (congrArg some (by kernel_rfl))
  f246 := Tryd.func96.trans (congrArg some (by kernel_rfl))
  f283 := Tryd.func100.trans (congrArg some (by kernel_rfl))
  f284 := Tryd.func101.trans (congrArg some (by kernel_rfl))
  f285 := Tryd.func102.trans (congrArg some (by kernel_rfl))
  f286 := Tryd.func103.trans (congrArg some (by kernel_rfl))
  f317 := Tryd.func104.trans (congrArg some (by kernel_rfl))
  f318 := Tryd.func106.trans (congrArg some (by kernel_rfl))
  f319 := Tryd.func107.trans (congrArg some (by kernel_rfl))
  f320 := Tryd.func108.trans (congrArg some (by kernel_rfl))
  f337 := Tryd.func109.trans (congrArg some (by kernel_rfl))
  f338 := Tryd.func110.trans (congrArg some (by kernel_rfl))
  t0 := Tryd.underlying0
  a0 := Tryd.isAgg0
  z0 := Tryd.sizeOf0
  v0 := Tryd.zeroValue0
  t2 := Tryd.underlying2
  a2 := Tryd.isAgg2
  z2 := Tryd.sizeOf2
  v2 := Tryd.zeroValue2
  t3 := Tryd.underlying3
  a3 := Tryd.isAgg3
  z3 := Tryd.sizeOf3
  v3 := Tryd.zeroValue3
  t4 := Tryd.underlying4
  a4 := Tryd.isAgg4
  z4 := Tryd.sizeOf4
  v4 := Tryd.zeroValue4
  t5 := Tryd.underlying5
  a5 := Tryd.isAgg5
  z5 := Tryd.sizeOf5
  v5 := Tryd.zeroValue5
  t9 := Tryd.underlying9
  a9 := Tryd.isAgg9
  z9 := Tryd.sizeOf9
  v9 := Tryd.zeroValue9
  t20 := Tryd.underlying20
  a20 := Tryd.isAgg20
  z20 := Tryd.sizeOf20
  v20 := Tryd.zeroValue20
  t37 := Tryd.underlying142
  a37 := Tryd.isAgg142
  z37 := Tryd.sizeOf142
  v37 := Tryd.zeroValue142
  t46 := Tryd.underlying150
  a46 := Tryd.isAgg150
  z46 := Tryd.sizeOf150
  v46 := Tryd.zeroValue150
  t51 := Tryd.underlying147
  a51 := Tryd.isAgg147
  z51 := Tryd.sizeOf147
  v51 := Tryd.zeroValue147
  t53 := Tryd.underlying139
  a53 := Tryd.isAgg139
  z53 := Tryd.sizeOf139
  v53 := Tryd.zeroValue139
  t171 := Tryd.underlying138
  a171 := Tryd.isAgg138
  z171 := Tryd.sizeOf138
  v171 := Tryd.zeroValue138
  t173 := Tryd.underlying143
  a173 := Tryd.isAgg143
  z173 := Tryd.sizeOf143
  v173 := Tryd.zeroValue143
  t212 := Tryd.underlying146
  a212 := Tryd.isAgg146
  z212 := Tryd.sizeOf146
  v212 := Tryd.zeroValue146
  t213 := Tryd.underlying148
  a213 := Tryd.isAgg148
  z213 := Tryd.sizeOf148
  t232 := Tryd.underlying153
  a232 := Tryd.isAgg153
  z232 := Tryd.sizeOf153
  v232 := Tryd.zeroValue153
  t233 := Tryd.underlying154
  a233 := Tryd.isAgg154
  z233 := Tryd.sizeOf154
  v233 := Tryd.zeroValue154
  g17 := by kernel_rfl
  g18 := by kernel_rfl
  g19 := by kernel_rfl
  i0 := by kernel_rfl
  i2 := by kernel_rfl
  i3 := by kernel_rfl
  i4 := by kernel_rfl
  i5 := by kernel_rfl
  i9 := by kernel_rfl
  i20 := by kernel_rfl
  i37 := by kernel_rfl
  i46 := by kernel_rfl
  i51 := by kernel_rfl
  i53 := by kernel_rfl
  i171 := by kernel_rfl
  i173 := by kernel_rfl
  i212 := by kernel_rfl
  i232 := by kernel_rfl
  i233 := by kernel_rfl
  m17 := by kernel_rfl
  m18 := by kernel_rfl
  m19 := by kernel_rfl }
open Go.RowKit Go.Sort Go.Lib in
theorem Tryd.internal_strconv_Itoa (n : Int) (h0 : -9223372036854775808 ≤ n) (h1 : n ≤ 9223372036854775807) (w : World) (htab : Lib.TabIs Tryd.prog w "internal/strconv.uint64pow10" .u64 Lib.pow10Tab) :
    Calls Tryd.prog 93 #[.int .i64 n] w fun e w' => e = .returned (.string ⟨(Lib.itoa n).toArray⟩) ∧ ∃ k os, w' = grow (w.drewN k) os := Any.internal_strconv_Itoa Tryd.laysM243 n h0 h1 w htab
def Tryd.lays243_ren : Go.Shelf.Ren := ⟨fun | 243 => 93 | 246 => 96 | 283 => 100 | 284 => 101 | 285 => 102 | 286 => 103 | 129 => 105 | 317 => 104 | 318 => 106 | 319 => 107 | 320 => 108 | 337 => 109 | 338 => 110 | n => n, fun | 3 => 3 | 9 => 9 | 2 => 2 | 4 => 4 | 171 => 138 | 0 => 0 | 53 => 139 | 37 => 142 | 5 => 5 | 173 => 143 | 212 => 146 | 51 => 147 | 20 => 20 | 213 => 148 | 46 => 150 | 232 => 153 | 233 => 154 | n => n, fun | 17 => 0 | 18 => 1 | 19 => 2 | n => n⟩
theorem Tryd.lays243 : Go.Proofs.Lays.n243 Tryd.prog Tryd.lays243_ren := {
  mixed := by kernel_rfl
  f129 := Tryd.func105.trans (congrArg some (by kernel_rfl))
  f243 := Tryd.func93.trans (congrArg some (by kernel_rfl))
  f246 := Tryd.func96.trans (congrArg some (by kernel_rfl))
  f283 := Tryd.func100.trans (congrArg some (by kernel_rfl))
  f284 := Tryd.func101.trans (congrArg some (by kernel_rfl))
  f285 := Tryd.func102.trans (congrArg some (by kernel_rfl))
  f286 := Tryd.func103.trans (congrArg some (by kernel_rfl))
  f317 := Tryd.func104.trans (congrArg some (by kernel_rfl))
  f318 := Tryd.func106.trans (congrArg some (by kernel_rfl))
  f319 := Tryd.func107.trans (congrArg some (by kernel_rfl))
  f320 := Tryd.func108.trans (congrArg some (by kernel_rfl))
  f337 := Tryd.func109.trans (congrArg some (by kernel_rfl))
  f338 := Tryd.func110.trans (congrArg some (by kernel_rfl))
  t0 := Tryd.underlying0
  a0 := Tryd.isAgg0
  z0 := Tryd.sizeOf0
  v0 := Tryd.zeroValue0
  t2 := Tryd.underlying2
  a2 := Tryd.isAgg2
  z2 := Tryd.sizeOf2
  v2 := Tryd.zeroValue2
  t3 := Tryd.underlying3
  a3 := Tryd.isAgg3
  z3 := Tryd.sizeOf3
  v3 := Tryd.zeroValue3
  t4 := Tryd.underlying4
  a4 := Tryd.isAgg4
  z4 := Tryd.sizeOf4
  v4 := Tryd.zeroValue4
  t5 := Tryd.underlying5
  a5 := Tryd.isAgg5
  z5 := Tryd.sizeOf5
  v5 := Tryd.zeroValue5
  t9 := Tryd.underlying9
  a9 := Tryd.isAgg9
  z9 := Tryd.sizeOf9
  v9 := Tryd.zeroValue9
  t20 := Tryd.underlying20
  a20 := Tryd.isAgg20
  z20 := Tryd.sizeOf20
  v20 := Tryd.zeroValue20
  t37 := Tryd.underlying142
  a37 := Tryd.isAgg142
  z37 := Tryd.sizeOf142
  v37 := Tryd.zeroValue142
  t46 := Tryd.underlying150
  a46 := Tryd.isAgg150
  z46 := Tryd.sizeOf150
  v46 := Tryd.zeroValue150
  t51 := Tryd.underlying147
  a51 := Tryd.isAgg147
  z51 := Tryd.sizeOf147
  v51 := Tryd.zeroValue147
  t53 := Tryd.underlying139
  a53 := Tryd.isAgg139
  z53 := Tryd.sizeOf139
  v53 := Tryd.zeroValue139
  t171 := Tryd.underlying138
  a171 := Tryd.isAgg138
  z171 := Tryd.sizeOf138
  v171 := Tryd.zeroValue138
  t173 := Tryd.underlying143
  a173 := Tryd.isAgg143
  z173 := Tryd.sizeOf143
  v173 := Tryd.zeroValue143
  t212 := Tryd.underlying146
  a212 := Tryd.isAgg146
  z212 := Tryd.sizeOf146
  v212 := Tryd.zeroValue146
  t213 := Tryd.underlying148
  a213 := Tryd.isAgg148
  z213 := Tryd.sizeOf148
  t232 := Tryd.underlying153
  a232 := Tryd.isAgg153
  z232 := Tryd.sizeOf153
  v232 := Tryd.zeroValue153
  t233 := Tryd.underlying154
  a233 := Tryd.isAgg154
  z233 := Tryd.sizeOf154
  v233 := Tryd.zeroValue154
  g17 := by kernel_rfl
  g18 := by kernel_rfl
  g19 := by kernel_rfl }
open Go.RowKit Go.Sort Go.Lib in
/-- THE ROAD WITHOUT THE TABLE: 0 <= i < 100. (LAID: no walk: one application.) -/
theorem Tryd.internal_strconv_Itoa_small (i : Nat) (hi : i < 100) (w : World) :
    Calls Tryd.prog 93 #[.int .i64 i] w fun e w' => e = .returned (.string ⟨(Lib.decDigits i).toArray⟩) ∧ w' = w := Any.internal_strconv_Itoa_small Tryd.lays243 i hi w
def Tryd.laysM171_ren : Go.Shelf.Ren := ⟨fun | 171 => 90 | 243 => 93 | 246 => 96 | 283 => 100 | 284 => 101 | 285 => 102 | 286 => 103 | 129 => 105 | 317 => 104 | 318 => 106 | 319 => 107 | 320 => 108 | 337 => 109 | 338 => 110 | n => n, fun | 3 => 3 | 9 => 9 | 2 => 2 | 4 => 4 | 171 => 138 | 0 => 0 | 53 => 139 | 37 => 142 | 5 => 5 | 173 => 143 | 212 => 146 | 51 => 147 | 20 => 20 | 213 => 148 | 46 => 150 | 232 => 153 | 233 => 154 | n => n, fun | 17 => 0 | 18 => 1 | 19 => 2 | n => n⟩
theorem Tryd.laysM171 : Go.Proofs.LaysM.n171 Tryd.prog Tryd.laysM171_ren := {
  mixed := by kernel_rfl
  f129 := Tryd.func105.trans (congrArg some (by kernel_rfl))
  f171 := Tryd.func90.trans (congrArg some (by kernel_rfl))
  f243 := Tryd.func93.trans (congrArg some (by kernel_rfl))
  f246 := Tryd.func96.trans (congrArg some (by kernel_rfl))
  f283 := Tryd.func100.trans (congrArg some (by kernel_rfl))
  f284 := Tryd.func101.trans (congrArg some (by kernel_rfl))
  f285 := Tryd.func102.trans (congrArg some (by kernel_rfl))
  f286 := Tryd.func103.trans (congrArg some (by kernel_rfl))
  f317 := Tryd.func104.trans (congrArg some (by kernel_rfl))
  f318 := Tryd.func106.trans (congrArg some (by kernel_rfl))
  f319 := Tryd.func107.trans (congrArg some (by kernel_rfl))
  f320 := Tryd.func108.trans (congrArg some (by kernel_rfl))
  f337 := Tryd.func109.trans (congrArg some (by kernel_rfl))
  f338 := Tryd.func110.trans (congrArg some (by kernel_rfl))
  t0 := Tryd.underlying0
  a0 := Tryd.isAgg0
  z0 := Tryd.sizeOf0
  v0 := Tryd.zeroValue0
  t2 := Tryd.underlying2
  a2 := Tryd.isAgg2
  z2 := Tryd.sizeOf2
  v2 := Tryd.zeroValue2
  t3 := Tryd.underlying3
  a3 := Tryd.isAgg3
  z3 := Tryd.sizeOf3
  v3 := Tryd.zeroValue3
  t4 := Tryd.underlying4
  a4 := Tryd.isAgg4
  z4 := Tryd.sizeOf4
  v4 := Tryd.zeroValue4
  t5 := Tryd.underlying5
  a5 := Tryd.isAgg5
  z5 := Tryd.sizeOf5
  v5 := Tryd.zeroValue5
  t9 := Tryd.underlying9
  a9 := Tryd.isAgg9
  z9 := Tryd.sizeOf9
  v9 := Tryd.zeroValue9
  t20 := Tryd.underlying20
  a20 := Tryd.isAgg20
  z20 := Tryd.sizeOf20
  v20 := Tryd.zeroValue20
  t37 := Tryd.underlying142
  a37 := Tryd.isAgg142
  z37 := Tryd.sizeOf142
  v37 := Tryd.zeroValue142
  t46 := Tryd.underlying150
  a46 := Tryd.isAgg150
  z46 := Tryd.sizeOf150
  v46 := Tryd.zeroValue150
  t51 := Tryd.underlying147
  a51 := Tryd.isAgg147
  z51 := Tryd.sizeOf147
  v51 := Tryd.zeroValue147
  t53 := Tryd.underlying139
  a53 := Tryd.isAgg139
  z53 := Tryd.sizeOf139
  v53 := Tryd.zeroValue139
  t171 := Tryd.underlying138
  a171 := Tryd.isAgg138
  z171 := Tryd.sizeOf138
  v171 := Tryd.zeroValue138
  t173 := Tryd.underlying143
  a173 := Tryd.isAgg143
  z173 := Tryd.sizeOf143
  v173 := Tryd.zeroValue143
  t212 := Tryd.underlying146
  a212 := Tryd.isAgg146
  z212 := Tryd.sizeOf146
  v212 := Tryd.zeroValue146
  t213 := Tryd.underlying148
  a213 := Tryd.isAgg148
  z213 := Tryd.sizeOf148
  t232 := Tryd.underlying153
  a232 := Tryd.isAgg153
  z232 := Tryd.sizeOf153
  v232 := Tryd.zeroValue153
  t233 := Tryd.underlying154
  a233 := Tryd.isAgg154
  z233 := Tryd.sizeOf154
  v233 := Tryd.zeroValue154
  g17 := by kernel_rfl
  g18 := by kernel_rfl
  g19 := by kernel_rfl
  i0 := by kernel_rfl
  i2 := by kernel_rfl
  i3 := by kernel_rfl
  i4 := by kernel_rfl
  i5 := by kernel_rfl
  i9 := by kernel_rfl
  i20 := by kernel_rfl
  i37 := by kernel_rfl
  i46 := by kernel_rfl
  i51 := by kernel_rfl
  i53 := by kernel_rfl
  i171 := by kernel_rfl
  i173 := by kernel_rfl
  i212 := by kernel_rfl
  i232 := by kernel_rfl
  i233 := by kernel_rfl
  m17 := by kernel_rfl
  m18 := by kernel_rfl
  m19 := by kernel_rfl }
open Go.RowKit Go.Sort Go.Lib in
theorem Tryd.strconv_Itoa (n : Int) (h0 : -9223372036854775808 ≤ n) (h1 : n ≤ 9223372036854775807) (w : World) (htab : Lib.TabIs Tryd.prog w "internal/strconv.uint64pow10" .u64 Lib.pow10Tab) :
    Calls Tryd.prog 90 #[.int .i64 n] w fun e w' => e = .returned (.string ⟨(Lib.itoa n).toArray⟩) ∧ ∃ k os, w' = grow (w.drewN k) os := Any.strconv_Itoa Tryd.laysM171 n h0 h1 w htab
def Tryd.lays171_ren : Go.Shelf.Ren := ⟨fun | 171 => 90 | 243 => 93 | 246 => 96 | 283 => 100 | 284 => 101 | 285 => 102 | 286 => 103 | 129 => 105 | 317 => 104 | 318 => 106 | 319 => 107 | 320 => 108 | 337 => 109 | 338 => 110 | n => n, fun | 3 => 3 | 9 => 9 | 2 => 2 | 4 => 4 | 171 => 138 | 0 => 0 | 53 => 139 | 37 => 142 | 5 => 5 | 173 => 143 | 212 => 146 | 51 => 147 | 20 => 20 | 213 => 148 | 46 => 150 | 232 => 153 | 233 => 154 | n => n, fun | 17 => 0 | 18 => 1 | 19 => 2 | n => n⟩
theorem Tryd.lays171 : Go.Proofs.Lays.n171 Tryd.prog Tryd.lays171_ren := {
  mixed := by kernel_rfl
  f129 := Tryd.func105.trans (congrArg some (by kernel_rfl))
  f171 := Tryd.func90.trans (congrArg some (by kernel_rfl))
  f243 := Tryd.func93.trans (congrArg some (by kernel_rfl))
  f246 := Tryd.func96.trans (congrArg some (by kernel_rfl))
  f283 := Tryd.func100.trans (congrArg some (by kernel_rfl))
  f284 := Tryd.func101.trans (congrArg some (by kernel_rfl))
  f285 := Tryd.func102.trans (congrArg some (by kernel_rfl))
  f286 := Tryd.func103.trans (congrArg some (by kernel_rfl))
  f317 := Tryd.func104.trans (congrArg some (by kernel_rfl))
  f318 := Tryd.func106.trans (congrArg some (by kernel_rfl))
  f319 := Tryd.func107.trans (congrArg some (by kernel_rfl))
  f320 := Tryd.func108.trans (congrArg some (by kernel_rfl))
  f337 := Tryd.func109.trans (congrArg some (by kernel_rfl))
  f338 := Tryd.func110.trans (congrArg some (by kernel_rfl))
  t0 := Tryd.underlying0
  a0 := Tryd.isAgg0
  z0 := Tryd.sizeOf0
  v0 := Tryd.zeroValue0
  t2 := Tryd.underlying2
  a2 := Tryd.isAgg2
  z2 := Tryd.sizeOf2
  v2 := Tryd.zeroValue2
  t3 := Tryd.underlying3
  a3 := Tryd.isAgg3
  z3 := Tryd.sizeOf3
  v3 := Tryd.zeroValue3
  t4 := Tryd.underlying4
  a4 := Tryd.isAgg4
  z4 := Tryd.sizeOf4
  v4 := Tryd.zeroValue4
  t5 := Tryd.underlying5
  a5 := Tryd.isAgg5
  z5 := Tryd.sizeOf5
  v5 := Tryd.zeroValue5
  t9 := Tryd.underlying9
  a9 := Tryd.isAgg9
  z9 := Tryd.sizeOf9
  v9 := Tryd.zeroValue9
  t20 := Tryd.underlying20
  a20 := Tryd.isAgg20
  z20 := Tryd.sizeOf20
  v20 := Tryd.zeroValue20
  t37 := Tryd.underlying142
  a37 := Tryd.isAgg142
  z37 := Tryd.sizeOf142
  v37 := Tryd.zeroValue142
  t46 := Tryd.underlying150
  a46 := Tryd.isAgg150
  z46 := Tryd.sizeOf150
  v46 := Tryd.zeroValue150
  t51 := Tryd.underlying147
  a51 := Tryd.isAgg147
  z51 := Tryd.sizeOf147
  v51 := Tryd.zeroValue147
  t53 := Tryd.underlying139
  a53 := Tryd.isAgg139
  z53 := Tryd.sizeOf139
  v53 := Tryd.zeroValue139
  t171 := Tryd.underlying138
  a171 := Tryd.isAgg138
  z171 := Tryd.sizeOf138
  v171 := Tryd.zeroValue138
  t173 := Tryd.underlying143
  a173 := Tryd.isAgg143
  z173 := Tryd.sizeOf143
  v173 := Tryd.zeroValue143
  t212 := Tryd.underlying146
  a212 := Tryd.isAgg146
  z212 := Tryd.sizeOf146
  v212 := Tryd.zeroValue146
  t213 := Tryd.underlying148
  a213 := Tryd.isAgg148
  z213 := Tryd.sizeOf148
  t232 := Tryd.underlying153
  a232 := Tryd.isAgg153
  z232 := Tryd.sizeOf153
  v232 := Tryd.zeroValue153
  t233 := Tryd.underlying154
  a233 := Tryd.isAgg154
  z233 := Tryd.sizeOf154
  v233 := Tryd.zeroValue154
  g17 := by kernel_rfl
  g18 := by kernel_rfl
  g19 := by kernel_rfl }
open Go.RowKit Go.Sort Go.Lib in
/-- THE ROAD WITHOUT THE TABLE: 0 <= i < 100: NO PREMISE ON THE WORLD, AND THE WORLD IS AS IT WAS: a row that keeps its argument in that range need list no table ('laid = []'). (LAID: no walk: one application.) -/
theorem Tryd.strconv_Itoa_small (i : Nat) (hi : i < 100) (w : World) :
    Calls Tryd.prog 90 #[.int .i64 i] w fun e w' => e = .returned (.string ⟨(Lib.decDigits i).toArray⟩) ∧ w' = w := Any.strconv_Itoa_small Tryd.lays171 i hi w
end Go.Proofs

namespace Go.Ab
open Go.Proofs

/-- What the first variable holds. -/
def GlobOk (G0 : Nat → Option Obj) : Prop := ∀ w : World, (∀ b, b < nG → w.heap[b]? = G0 b) → Lib.TabIs Tryd.prog w "internal/strconv.uint64pow10" .u64 Lib.pow10Tab

theorem good_lib {P : Program} {nG : Nat} {G0 : Nat → Option Obj} {f : FuncId} {args : List AV} {vals : List Value} {r : AV} {v : Value} (hb : hasB P f = true)
    (hargs : ∀ (K : KM) (S : Stb) (w : World) (us : List Value), VRs K S w args us → us = vals) (hr : ∀ (K : KM) (S : Stb) (w : World), VR K S w r v)
    (h : ∀ w : World, (∀ b, b < nG → w.heap[b]? = G0 b) → Calls P f vals.toArray w fun e w' => e = .returned v ∧ ∃ k os, w' = Sort.grow (w.drewN k) os) : Good P nG G0 f args [] r [] := by
  have hb' := hb
  unfold hasB at hb'
  split at hb'
  · rename_i fn hf
    simp only [Bool.and_eq_true, Bool.not_eq_true'] at hb'
    refine ⟨⟨fn, hf, hb'.1, hb'.2⟩, fun w K S us hrel hus => ?_⟩
    rw [hargs K S w us hus]
    refine (h w hrel.fix).mono fun e w' ⟨he, k, os, hw⟩ => ?_
    have hheap : w'.heap = w.heap ++ os := by rw [hw]; rfl
    have hsz : w.heap.size ≤ w'.heap.size := by rw [hheap]; simp
    obtain ⟨g1, g2⟩ := hrel.ext (n0 := 0) (S' := fun _ _ => False) (w' := w') (by rw [hw]; rfl) (by rw [hw]; rfl) (by rw [hw]; rfl) hsz (fun b hb => by rw [hheap, Array.getElem?_append_left hb]) (fun b off hs => hs.elim)
    exact ⟨v, K, _, he, g1, hr _ _ _, g2⟩
  · cases hb'

theorem good_itoa {G0 : Nat → Option Obj} (hG : GlobOk G0) (n : Int) (h0 : -9223372036854775808 ≤ n) (h1 : n ≤ 9223372036854775807) : Good PG nG G0 f_strconv_Itoa [.int .i64 n] [] (.str (Lib.itoa n)) [] := by
  refine good_lib (vals := [.int .i64 n]) (v := .string ⟨(Lib.itoa n).toArray⟩) (by kernel_rfl) (fun K S w us hus => ?_) (fun K S w => (PR.str _).vr) fun w hw => Tryd.strconv_Itoa n h0 h1 w (hG w hw)
  obtain ⟨hl, hv⟩ := hus
  match us, hl with
  | [u], _ =>
    have := VR_int (hv 0 _ u rfl rfl)
    rw [this]
end Go.Ab

namespace Go.Ab
open Go.Proofs
set_option maxRecDepth 100000

def an_tree_Root : FAnn := ⟨[], [], none, []⟩
def an_tree_Half : FAnn := ⟨[], [(0, [0, 4], [])], none, []⟩
def an_seal_None : FAnn := ⟨[], [], none, []⟩
def an_seal_Leaf : FAnn := ⟨[], [], none, []⟩
def an_seal_Node : FAnn := ⟨[], [], none, []⟩
def an_greatsealref_HalfOf : FAnn := ⟨[], [(0, [0, 3], [])], none, []⟩
def an_greatsealref_LeafOf : FAnn := ⟨[], [], none, []⟩
def an_greatsealref_NodeOf : FAnn := ⟨[], [], none, []⟩
def an_greatseallaw_at : FAnn := ⟨[], [], none, []⟩
def an_greatsealref_RootOf : FAnn := ⟨[(7, 3, ⟨[0, 1], [], []⟩)], [], none, []⟩
def an_greatsealref_RootOf_c1 : FAnn := ⟨[(4, 3, ⟨[0, 1], [], []⟩), (7, 3, ⟨[0, 1], [], []⟩)], [], none, []⟩
def an_greatsealref_in : FAnn := ⟨[], [], none, []⟩

theorem tree_Root_run (nll0 : Bool) (l0 : List (List AV)) (G0 : Nat → Option Go.Obj) (R : AV → List (Option Blk) → Prop) (h :
  ifK (decide ((↑(List.length l0) : Int) > (24 : Int))) (R (AV.tup [AV.str [], AV.int Go.IntKind.i64 (2 : Int)]) [])
  (ifK ((↑(List.length l0) : Int) == (0 : Int)) (∃ s0, Good PG nG G0 f_seal_None [] [] (AV.str s0) [] ∧ R (AV.tup [AV.str s0, AV.int Go.IntKind.i64 (0 : Int)]) [])
    (ifK ((↑(List.length l0) : Int) == (1 : Int))
      ((0 : Int) ≤ (0 : Int) ∧ ∃ s1, l0[(0 : Nat)]? = some [AV.str s1] ∧ ∃ s2 n3, Good PG nG G0 f_seal_Leaf [AV.str s1] [] (AV.tup [AV.str s2, AV.int Go.IntKind.i64 n3]) [] ∧ R (AV.tup [AV.str s2, AV.int Go.IntKind.i64 n3]) [])
      (∃ n4 n5,
        Good PG nG G0 f_tree_Half [AV.int Go.IntKind.i64 (↑(List.length l0) : Int)] [] (AV.tup [AV.int Go.IntKind.i64 n4, AV.int Go.IntKind.i64 n5]) [] ∧
          ifK (n5 != (0 : Int)) (R (AV.tup [AV.str [], AV.int Go.IntKind.i64 n5]) [])
            ((0 : Int) ≤ (0 : Int) ∧
              (0 : Int) ≤ n4 ∧
                n4 ≤ (↑(List.length l0) : Int) ∧
                  ∃ s6 n7,
                    Good PG nG G0 f_tree_Root [AV.sl (1 : Nat) nll0 none (List.drop (0 : Nat) (List.take (Int.toNat n4) l0))] [] (AV.tup [AV.str s6, AV.int Go.IntKind.i64 n7]) [] ∧
                      ifK (n7 != (0 : Int)) (R (AV.tup [AV.str [], AV.int Go.IntKind.i64 n7]) [])
                        ((0 : Int) ≤ n4 ∧
                          n4 ≤ (↑(List.length l0) : Int) ∧
                            (↑(List.length l0) : Int) ≤ (↑(List.length l0) : Int) ∧
                              ∃ s8 n9,
                                Good PG nG G0 f_tree_Root [AV.sl (1 : Nat) nll0 none (List.drop (Int.toNat n4) (List.take (Int.toNat (↑(List.length l0) : Int)) l0))] [] (AV.tup [AV.str s8, AV.int Go.IntKind.i64 n9]) [] ∧
                                  ifK (n9 != (0 : Int)) (R (AV.tup [AV.str [], AV.int Go.IntKind.i64 n9]) [])
                                    (∃ s10 n11, Good PG nG G0 f_seal_Node [AV.str s6, AV.str s8] [] (AV.tup [AV.str s10, AV.int Go.IntKind.i64 n11]) [] ∧ R (AV.tup [AV.str s10, AV.int Go.IntKind.i64 n11]) []))))))) :
  Hold (runF PG ty nG G0 an_tree_Root f_tree_Root [AV.sl (1 : Nat) nll0 none l0] [] R) := kshow h (by kernel_rfl)

theorem tree_Half_run (n0 : Int) (G0 : Nat → Option Go.Obj) (R : AV → List (Option Blk) → Prop) (h :
  ifK (decide (n0 < (2 : Int))) (R (AV.tup [AV.int Go.IntKind.i64 (0 : Int), AV.int Go.IntKind.i64 (3 : Int)]) [])
  (ifK (decide (n0 > (24 : Int))) (R (AV.tup [AV.int Go.IntKind.i64 (0 : Int), AV.int Go.IntKind.i64 (3 : Int)]) [])
    (Does PG nG G0 (fnOf PG f_tree_Half) (0 : Nat) (lp PG f_tree_Half (0 : Nat)) (mkT (18 : Nat) [((0 : Nat), AV.int Go.IntKind.i64 n0), ((4 : Nat), AV.int Go.IntKind.i64 (1 : Int))]) [] R))) :
  Hold (runF PG ty nG G0 an_tree_Half f_tree_Half [AV.int Go.IntKind.i64 n0] [] R) := kshow h (by kernel_rfl)

theorem tree_Half_l0_run (G0 : Nat → Option Obj) (n0 : Int) (n1 : Int) (R : AV → List (Option Blk) → Prop) (h :
  ifK (decide (Go.IntKind.wrap Go.IntKind.i64 ((2 : Int) * n1) < n0))
  (Does PG nG G0 (fnOf PG f_tree_Half) (0 : Nat) (lp PG f_tree_Half (0 : Nat)) (mkT (18 : Nat) [((0 : Nat), AV.int Go.IntKind.i64 n0), ((4 : Nat), AV.int Go.IntKind.i64 (Go.IntKind.wrap Go.IntKind.i64 (n1 * (2 : Int))))]) [] R)
  (R (AV.tup [AV.int Go.IntKind.i64 n1, AV.int Go.IntKind.i64 (0 : Int)]) [])) :
  Hold (runL PG ty nG G0 an_tree_Half f_tree_Half (0 : Nat) (0 : Nat) (mkT (18 : Nat) [((0 : Nat), AV.int Go.IntKind.i64 n0), ((4 : Nat), AV.int Go.IntKind.i64 n1)]) [] R) := kshow h (by kernel_rfl)

theorem seal_None_run (G0 : Nat → Option Go.Obj) (R : AV → List (Option Blk) → Prop) (h :
  R (AV.str [(69 : UInt8)]) []) :
  Hold (runF PG ty nG G0 an_seal_None f_seal_None [] [] R) := kshow h (by kernel_rfl)

theorem seal_Leaf_run (s0 : List UInt8) (G0 : Nat → Option Go.Obj) (R : AV → List (Option Blk) → Prop) (h :
  ifK (decide ((↑(List.length s0) : Int) > (20000 : Int))) (R (AV.tup [AV.str [], AV.int Go.IntKind.i64 (2 : Int)]) [])
  ((1 : Nat) + List.length s0 ≤ (9223372036854775807 : Nat) ∧ R (AV.tup [AV.str ([(76 : UInt8)] ++ s0), AV.int Go.IntKind.i64 (0 : Int)]) [])) :
  Hold (runF PG ty nG G0 an_seal_Leaf f_seal_Leaf [AV.str s0] [] R) := kshow h (by kernel_rfl)

theorem seal_Node_run (a0 : List UInt8) (b1 : List UInt8) (G0 : Nat → Option Go.Obj) (R : AV → List (Option Blk) → Prop) (h :
  ifK (decide ((↑(List.length a0) : Int) > (20000 : Int))) (R (AV.tup [AV.str [], AV.int Go.IntKind.i64 (2 : Int)]) [])
  (ifK (decide ((↑(List.length b1) : Int) > Go.IntKind.wrap Go.IntKind.i64 ((20000 : Int) - (↑(List.length a0) : Int)))) (R (AV.tup [AV.str [], AV.int Go.IntKind.i64 (2 : Int)]) [])
    (∃ s0,
      Good PG nG G0 f_strconv_Itoa [AV.int Go.IntKind.i64 (↑(List.length a0) : Int)] [] (AV.str s0) [] ∧
        (1 : Nat) + List.length s0 ≤ (9223372036854775807 : Nat) ∧
          List.length ([(78 : UInt8)] ++ s0) + (1 : Nat) ≤ (9223372036854775807 : Nat) ∧
            List.length ([(78 : UInt8)] ++ s0 ++ [(58 : UInt8)]) + List.length a0 ≤ (9223372036854775807 : Nat) ∧
              List.length ([(78 : UInt8)] ++ s0 ++ [(58 : UInt8)] ++ a0) + List.length b1 ≤ (9223372036854775807 : Nat) ∧ R (AV.tup [AV.str ([(78 : UInt8)] ++ s0 ++ [(58 : UInt8)] ++ a0 ++ b1), AV.int Go.IntKind.i64 (0 : Int)]) []))) :
  Hold (runF PG ty nG G0 an_seal_Node f_seal_Node [AV.str a0, AV.str b1] [] R) := kshow h (by kernel_rfl)

theorem greatsealref_HalfOf_run (n0 : Int) (G0 : Nat → Option Go.Obj) (R : AV → List (Option Blk) → Prop) (h :
  Does PG nG G0 (fnOf PG f_greatsealref_HalfOf) (0 : Nat) (lp PG f_greatsealref_HalfOf (0 : Nat)) (mkT (10 : Nat) [((0 : Nat), AV.int Go.IntKind.i64 n0), ((3 : Nat), AV.int Go.IntKind.i64 (16 : Int))]) [] R) :
  Hold (runF PG ty nG G0 an_greatsealref_HalfOf f_greatsealref_HalfOf [AV.int Go.IntKind.i64 n0] [] R) := kshow h (by kernel_rfl)

theorem greatsealref_HalfOf_l0_run (G0 : Nat → Option Obj) (n0 : Int) (n1 : Int) (R : AV → List (Option Blk) → Prop) (h :
  ifK (decide (n1 < n0)) (R (AV.int Go.IntKind.i64 n1) [])
  ((2 : Int) ≠ (0 : Int) ∧
    Does PG nG G0 (fnOf PG f_greatsealref_HalfOf) (0 : Nat) (lp PG f_greatsealref_HalfOf (0 : Nat)) (mkT (10 : Nat) [((0 : Nat), AV.int Go.IntKind.i64 n0), ((3 : Nat), AV.int Go.IntKind.i64 (Go.IntKind.wrap Go.IntKind.i64 (Int.tdiv n1 (2 : Int))))]) [] R)) :
  Hold (runL PG ty nG G0 an_greatsealref_HalfOf f_greatsealref_HalfOf (0 : Nat) (0 : Nat) (mkT (10 : Nat) [((0 : Nat), AV.int Go.IntKind.i64 n0), ((3 : Nat), AV.int Go.IntKind.i64 n1)]) [] R) := kshow h (by kernel_rfl)

theorem greatsealref_LeafOf_run (s0 : List UInt8) (G0 : Nat → Option Go.Obj) (R : AV → List (Option Blk) → Prop) (h :
  ifK (decide ((↑(List.length s0) : Int) > (20000 : Int))) (R (AV.tup [AV.str [], AV.int Go.IntKind.i64 (2 : Int)]) [])
  ((1 : Nat) + List.length s0 ≤ (9223372036854775807 : Nat) ∧ R (AV.tup [AV.str ([(76 : UInt8)] ++ s0), AV.int Go.IntKind.i64 (0 : Int)]) [])) :
  Hold (runF PG ty nG G0 an_greatsealref_LeafOf f_greatsealref_LeafOf [AV.str s0] [] R) := kshow h (by kernel_rfl)

theorem greatsealref_NodeOf_run (a0 : List UInt8) (b1 : List UInt8) (G0 : Nat → Option Go.Obj) (R : AV → List (Option Blk) → Prop) (h :
  ifK (decide (Go.IntKind.wrap Go.IntKind.i64 ((↑(List.length a0) : Int) + (↑(List.length b1) : Int)) > (20000 : Int))) (R (AV.tup [AV.str [], AV.int Go.IntKind.i64 (2 : Int)]) [])
  (∃ s0,
    Good PG nG G0 f_strconv_Itoa [AV.int Go.IntKind.i64 (↑(List.length a0) : Int)] [] (AV.str s0) [] ∧
      (1 : Nat) + List.length s0 ≤ (9223372036854775807 : Nat) ∧
        List.length ([(78 : UInt8)] ++ s0) + (1 : Nat) ≤ (9223372036854775807 : Nat) ∧
          List.length ([(78 : UInt8)] ++ s0 ++ [(58 : UInt8)]) + List.length a0 ≤ (9223372036854775807 : Nat) ∧
            List.length ([(78 : UInt8)] ++ s0 ++ [(58 : UInt8)] ++ a0) + List.length b1 ≤ (9223372036854775807 : Nat) ∧ R (AV.tup [AV.str ([(78 : UInt8)] ++ s0 ++ [(58 : UInt8)] ++ a0 ++ b1), AV.int Go.IntKind.i64 (0 : Int)]) [])) :
  Hold (runF PG ty nG G0 an_greatsealref_NodeOf f_greatsealref_NodeOf [AV.str a0, AV.str b1] [] R) := kshow h (by kernel_rfl)

theorem greatseallaw_at_run (k0 : Int) (n1 : Int) (G0 : Nat → Option Go.Obj) (R : AV → List (Option Blk) → Prop) (h :
  n1 ≠ (0 : Int) ∧ ifK (decide (Int.tmod k0 n1 < (0 : Int))) (R (AV.int Go.IntKind.i64 (Go.IntKind.wrap Go.IntKind.i64 (Int.tmod k0 n1 + n1))) []) (R (AV.int Go.IntKind.i64 (Int.tmod k0 n1)) [])) :
  Hold (runF PG ty nG G0 an_greatseallaw_at f_greatseallaw_at [AV.int Go.IntKind.i64 k0, AV.int Go.IntKind.i64 n1] [] R) := kshow h (by kernel_rfl)

theorem greatsealref_RootOf_run (nll0 : Bool) (l0 : List (List AV)) (G0 : Nat → Option Go.Obj) (R : AV → List (Option Blk) → Prop) (h :
  ifK (decide ((↑(List.length l0) : Int) > (24 : Int))) (R (AV.tup [AV.str [], AV.int Go.IntKind.i64 (2 : Int)]) [])
  (ifK ((↑(List.length l0) : Int) == (0 : Int)) (R (AV.tup [AV.str [(69 : UInt8)], AV.int Go.IntKind.i64 (0 : Int)]) [])
    (∃ s0 n1 b2 xs3,
      Good PG nG G0 f_greatsealref_RootOf_c1 [AV.int Go.IntKind.i64 (0 : Int), AV.int Go.IntKind.i64 (↑(List.length l0) : Int), AV.ref (0 : Nat) (0 : Nat), AV.ref (1 : Nat) (0 : Nat)]
          [some (Blk.var [AV.sl (1 : Nat) nll0 none l0]), some (Blk.var [AV.func f_greatsealref_RootOf_c1 [AV.ref (0 : Nat) (0 : Nat), AV.ref (1 : Nat) (0 : Nat)]])] (AV.tup [AV.str s0, AV.int Go.IntKind.i64 n1])
          [some (Blk.var [AV.sl (1 : Nat) b2 none xs3]), some (Blk.var [AV.func f_greatsealref_RootOf_c1 [AV.ref (0 : Nat) (0 : Nat), AV.ref (1 : Nat) (0 : Nat)]])] ∧
        R (AV.tup [AV.str s0, AV.int Go.IntKind.i64 n1]) []))) :
  Hold (runF PG ty nG G0 an_greatsealref_RootOf f_greatsealref_RootOf [AV.sl (1 : Nat) nll0 none l0] [] R) := kshow h (by kernel_rfl)

theorem greatsealref_RootOf_c1_run (f : Int) (t : Int) (nl : Bool) (xs : List (List AV)) (G0 : Nat → Option Go.Obj) (R : AV → List (Option Blk) → Prop) (h :
  ifK (Go.IntKind.wrap Go.IntKind.i64 (t - f) == (1 : Int))
  ((0 : Int) ≤ f ∧
    ∃ s0,
      xs[Int.toNat f]? = some [AV.str s0] ∧
        ∃ s1 n2,
          Good PG nG G0 f_greatsealref_LeafOf [AV.str s0] [] (AV.tup [AV.str s1, AV.int Go.IntKind.i64 n2]) [] ∧
            R (AV.tup [AV.str s1, AV.int Go.IntKind.i64 n2]) [some (Blk.var [AV.sl (1 : Nat) nl none xs]), some (Blk.var [AV.func f_greatsealref_RootOf_c1 [AV.ref (0 : Nat) (0 : Nat), AV.ref (1 : Nat) (0 : Nat)]])])
  (∃ n3,
    Good PG nG G0 f_greatsealref_HalfOf [AV.int Go.IntKind.i64 (Go.IntKind.wrap Go.IntKind.i64 (t - f))] [] (AV.int Go.IntKind.i64 n3) [] ∧
      ∃ s4 n5 b6 xs7,
        Good PG nG G0 f_greatsealref_RootOf_c1 [AV.int Go.IntKind.i64 f, AV.int Go.IntKind.i64 (Go.IntKind.wrap Go.IntKind.i64 (f + n3)), AV.ref (0 : Nat) (0 : Nat), AV.ref (1 : Nat) (0 : Nat)]
            [some (Blk.var [AV.sl (1 : Nat) nl none xs]), some (Blk.var [AV.func f_greatsealref_RootOf_c1 [AV.ref (0 : Nat) (0 : Nat), AV.ref (1 : Nat) (0 : Nat)]])] (AV.tup [AV.str s4, AV.int Go.IntKind.i64 n5])
            [some (Blk.var [AV.sl (1 : Nat) b6 none xs7]), some (Blk.var [AV.func f_greatsealref_RootOf_c1 [AV.ref (0 : Nat) (0 : Nat), AV.ref (1 : Nat) (0 : Nat)]])] ∧
          ifK (n5 != (0 : Int)) (R (AV.tup [AV.str [], AV.int Go.IntKind.i64 n5]) [some (Blk.var [AV.sl (1 : Nat) b6 none xs7]), some (Blk.var [AV.func f_greatsealref_RootOf_c1 [AV.ref (0 : Nat) (0 : Nat), AV.ref (1 : Nat) (0 : Nat)]])])
            (∃ s8 n9 b10 xs11,
              Good PG nG G0 f_greatsealref_RootOf_c1 [AV.int Go.IntKind.i64 (Go.IntKind.wrap Go.IntKind.i64 (f + n3)), AV.int Go.IntKind.i64 t, AV.ref (0 : Nat) (0 : Nat), AV.ref (1 : Nat) (0 : Nat)]
                  [some (Blk.var [AV.sl (1 : Nat) b6 none xs7]), some (Blk.var [AV.func f_greatsealref_RootOf_c1 [AV.ref (0 : Nat) (0 : Nat), AV.ref (1 : Nat) (0 : Nat)]])] (AV.tup [AV.str s8, AV.int Go.IntKind.i64 n9])
                  [some (Blk.var [AV.sl (1 : Nat) b10 none xs11]), some (Blk.var [AV.func f_greatsealref_RootOf_c1 [AV.ref (0 : Nat) (0 : Nat), AV.ref (1 : Nat) (0 : Nat)]])] ∧
                ifK (n9 != (0 : Int)) (R (AV.tup [AV.str [], AV.int Go.IntKind.i64 n9]) [some (Blk.var [AV.sl (1 : Nat) b10 none xs11]), some (Blk.var [AV.func f_greatsealref_RootOf_c1 [AV.ref (0 : Nat) (0 : Nat), AV.ref (1 : Nat) (0 : Nat)]])])
                  (∃ s12 n13,
                    Good PG nG G0 f_greatsealref_NodeOf [AV.str s4, AV.str s8] [] (AV.tup [AV.str s12, AV.int Go.IntKind.i64 n13]) [] ∧
                      R (AV.tup [AV.str s12, AV.int Go.IntKind.i64 n13]) [some (Blk.var [AV.sl (1 : Nat) b10 none xs11]), some (Blk.var [AV.func f_greatsealref_RootOf_c1 [AV.ref (0 : Nat) (0 : Nat), AV.ref (1 : Nat) (0 : Nat)]])])))) :
  Hold (runF PG ty nG G0 an_greatsealref_RootOf_c1 f_greatsealref_RootOf_c1 [AV.int Go.IntKind.i64 f, AV.int Go.IntKind.i64 t, AV.ref (0 : Nat) (0 : Nat), AV.ref (1 : Nat) (0 : Nat)]
  [some (Blk.var [AV.sl (1 : Nat) nl none xs]), some (Blk.var [AV.func f_greatsealref_RootOf_c1 [AV.ref (0 : Nat) (0 : Nat), AV.ref (1 : Nat) (0 : Nat)]])] R) := kshow h (by kernel_rfl)

theorem greatsealref_in_run (n0 : Int) (from1 : Int) (to2 : Int) (G0 : Nat → Option Go.Obj) (R : AV → List (Option Blk) → Prop) (h :
  ifK (decide (from1 ≤ n0)) (R (AV.bool (decide (n0 ≤ to2))) []) (R (AV.bool false) [])) :
  Hold (runF PG ty nG G0 an_greatsealref_in f_greatsealref_in [AV.int Go.IntKind.i64 n0, AV.int Go.IntKind.i64 from1, AV.int Go.IntKind.i64 to2] [] R) := kshow h (by kernel_rfl)

end Go.Ab

namespace Go.Gs

abbrev By := List UInt8

def tLeaf (s : By) : By × Int := if 20000 < s.length then ([], 2) else (76 :: s, 0)
def tNode (a b : By) : By × Int := if 20000 < a.length + b.length then ([], 2) else (78 :: (Lib.itoa a.length ++ 58 :: (a ++ b)), 0)

def halfN (n : Nat) : Nat := if n ≤ 2 then 1 else if n ≤ 4 then 2 else if n ≤ 8 then 4 else if n ≤ 16 then 8 else 16

theorem halfN_spec (n : Nat) : (halfN n = 1 ∧ n ≤ 2) ∨ (halfN n = 2 ∧ 2 < n ∧ n ≤ 4) ∨ (halfN n = 4 ∧ 4 < n ∧ n ≤ 8) ∨ (halfN n = 8 ∧ 8 < n ∧ n ≤ 16) ∨ (halfN n = 16 ∧ 16 < n) := by
  unfold halfN; split; omega; split; omega; split; omega; split <;> omega

theorem halfN_pos (n : Nat) : 0 < halfN n := by unfold halfN; split; omega; split; omega; split; omega; split <;> omega
theorem halfN_lt {n : Nat} (h : 2 ≤ n) : halfN n < n := by unfold halfN; split; omega; split; omega; split; omega; split <;> omega

/-- The seal of a list of no more than 24. -/
def tRoot (l : List By) : By × Int :=
  if _h0 : l.length = 0 then ([69], 0)
  else if _h1 : l.length = 1 then tLeaf (l.headD [])
  else
    if (tRoot (l.take (halfN l.length))).2 ≠ 0 then ([], (tRoot (l.take (halfN l.length))).2)
    else if (tRoot (l.drop (halfN l.length))).2 ≠ 0 then ([], (tRoot (l.drop (halfN l.length))).2)
    else tNode (tRoot (l.take (halfN l.length))).1 (tRoot (l.drop (halfN l.length))).1
  termination_by l.length
  decreasing_by
  all_goals
    have := halfN_pos l.length
    have := halfN_lt (n := l.length) (by omega)
    simp only [List.length_take, List.length_drop]
    omega

/-- The seal of any list. -/
def rootOf (l : List By) : By × Int := if 24 < l.length then ([], 2) else tRoot l

theorem decDigits_len (u : Nat) : (Lib.decDigits u).length ≤ u + 1 := by
  induction u using Nat.strongRecOn with
  | _ u ih =>
    rw [Lib.decDigits]
    split
    · simp
    · rename_i h
      have := ih (u / 10) (by omega)
      simp only [List.length_append, List.length_cons, List.length_nil]
      omega

theorem itoa_len (n : Nat) : (Lib.itoa n).length ≤ n + 1 := by
  unfold Lib.itoa
  rw [if_neg (by omega)]
  exact decDigits_len n

theorem tNode_len (a b : By) : (tNode a b).1.length ≤ 40100 := by
  unfold tNode
  have := itoa_len a.length
  split
  · simp
  · simp only [List.length_cons, List.length_append]; omega

theorem tRoot_zero {l : List By} (h : l.length = 0) : tRoot l = ([69], 0) := by rw [tRoot, dif_pos h]
theorem tRoot_one {l : List By} (h : l.length = 1) : tRoot l = tLeaf (l.headD []) := by rw [tRoot, dif_neg (by omega), dif_pos h]
theorem tRoot_two {l : List By} (h : 2 ≤ l.length) : tRoot l =
    if (tRoot (l.take (halfN l.length))).2 ≠ 0 then ([], (tRoot (l.take (halfN l.length))).2)
    else if (tRoot (l.drop (halfN l.length))).2 ≠ 0 then ([], (tRoot (l.drop (halfN l.length))).2)
    else tNode (tRoot (l.take (halfN l.length))).1 (tRoot (l.drop (halfN l.length))).1 := by
  rw [tRoot, dif_neg (by omega), dif_neg (by omega)]

theorem tLeaf_len (s : By) : (tLeaf s).1.length ≤ 20001 := by unfold tLeaf; split <;> simp; omega

theorem tRoot_len (l : List By) : (tRoot l).1.length ≤ 40100 := by
  rcases Nat.lt_or_ge l.length 2 with h | h
  · by_cases h0 : l.length = 0
    · rw [tRoot_zero h0]; simp
    · rw [tRoot_one (by omega)]; have := tLeaf_len (l.headD []); omega
  · rw [tRoot_two h]
    split
    · simp
    · split
      · simp
      · exact tNode_len _ _

/-- A number brought within bounds. -/
def atN (k : Int) (n : Nat) : Nat := (k % (n : Int)).toNat

theorem atN_lt (k : Int) {n : Nat} (h : 0 < n) : atN k n < n := by
  unfold atN
  have := Int.emod_nonneg k (b := (n : Int)) (by omega)
  have := Int.emod_lt_of_pos k (b := (n : Int)) (by omega)
  omega

theorem atN_cast (k : Int) {n : Nat} (h : 0 < n) : ((atN k n : Nat) : Int) = k % (n : Int) := by
  unfold atN
  have := Int.emod_nonneg k (b := (n : Int)) (by omega)
  omega
end Go.Gs

namespace Go.Ab
open Go.Proofs Go.Gs

theorem wrap64 {n : Int} (h0 : -9223372036854775808 ≤ n) (h1 : n ≤ 9223372036854775807) : IntKind.i64.wrap n = n := by
  rw [IntKind.wrap_i64]; omega

theorem ifT {A B : Prop} : ifK true A B = A := rfl
theorem ifF {A B : Prop} : ifK false A B = B := rfl

variable {G0 : Nat → Option Obj}

theorem good_None : Good PG nG G0 f_seal_None [] [] (.str [69]) [] := good_of_run prOk (by kernel_rfl) (seal_None_run G0 _ ⟨rfl, rfl⟩)

theorem good_Leaf (s : By) : Good PG nG G0 f_seal_Leaf [.str s] [] (.tup [.str (tLeaf s).1, .int .i64 (tLeaf s).2]) [] := by
  refine good_of_run prOk (by kernel_rfl) (seal_Leaf_run s G0 _ ?_)
  simp only [ifK_iff, decide_eq_true_eq, decide_eq_false_iff_not]
  unfold tLeaf
  refine ⟨fun h => ?_, fun h => ⟨by omega, ?_⟩⟩
  · rw [if_pos (by omega)]; exact ⟨rfl, trivial⟩
  · rw [if_neg (by omega)]; exact ⟨rfl, trivial⟩

theorem good_LeafOf (s : By) : Good PG nG G0 f_greatsealref_LeafOf [.str s] [] (.tup [.str (tLeaf s).1, .int .i64 (tLeaf s).2]) [] := by
  refine good_of_run prOk (by kernel_rfl) (greatsealref_LeafOf_run s G0 _ ?_)
  simp only [ifK_iff, decide_eq_true_eq, decide_eq_false_iff_not]
  unfold tLeaf
  refine ⟨fun h => ?_, fun h => ⟨by omega, ?_⟩⟩
  · rw [if_pos (by omega)]; exact ⟨rfl, trivial⟩
  · rw [if_neg (by omega)]; exact ⟨rfl, trivial⟩

theorem good_Node (hG : GlobOk G0) (a b : By) : Good PG nG G0 f_seal_Node [.str a, .str b] [] (.tup [.str (tNode a b).1, .int .i64 (tNode a b).2]) [] := by
  refine good_of_run prOk (by kernel_rfl) (seal_Node_run a b G0 _ ?_)
  simp only [ifK_iff, decide_eq_true_eq, decide_eq_false_iff_not]
  unfold tNode
  refine ⟨fun h => ?_, fun h => ⟨fun h2 => ?_, fun h2 => ?_⟩⟩
  · rw [if_pos (by omega)]; exact ⟨rfl, trivial⟩
  · rw [wrap64 (by omega) (by omega)] at h2
    rw [if_pos (by omega)]; exact ⟨rfl, trivial⟩
  · rw [wrap64 (by omega) (by omega)] at h2
    have := itoa_len a.length
    refine ⟨_, good_itoa hG _ (by omega) (by omega), by omega, ?_, ?_, ?_, ?_⟩
    · simp only [List.length_append, List.length_cons, List.length_nil]; omega
    · simp only [List.length_append, List.length_cons, List.length_nil]; omega
    · simp only [List.length_append, List.length_cons, List.length_nil]; omega
    · rw [if_neg (by omega)]; simp

theorem good_NodeOf (hG : GlobOk G0) (a b : By) (ha : a.length ≤ 4611686018427387903) (hb : b.length ≤ 4611686018427387903) : Good PG nG G0 f_greatsealref_NodeOf [.str a, .str b] [] (.tup [.str (tNode a b).1, .int .i64 (tNode a b).2]) [] := by
  refine good_of_run prOk (by kernel_rfl) (greatsealref_NodeOf_run a b G0 _ ?_)
  simp only [ifK_iff, decide_eq_true_eq, decide_eq_false_iff_not]
  unfold tNode
  rw [wrap64 (by omega) (by omega)]
  refine ⟨fun h => ?_, fun h => ?_⟩
  · rw [if_pos (by omega)]; exact ⟨rfl, trivial⟩
  · have := itoa_len a.length
    refine ⟨_, good_itoa hG _ (by omega) (by omega), by omega, ?_, ?_, ?_, ?_⟩
    · simp only [List.length_append, List.length_cons, List.length_nil]; omega
    · simp only [List.length_append, List.length_cons, List.length_nil]; omega
    · simp only [List.length_append, List.length_cons, List.length_nil]; omega
    · rw [if_neg (by omega)]; simp

theorem half_loop (n : Int) (R : AV → List (Option Blk) → Prop) (hn : 2 ≤ n) (hn2 : n ≤ 24) (k : Int) (hk : k = 1 ∨ k = 2 ∨ k = 4 ∨ k = 8 ∨ k = 16) (hkn : k < n)
    (hR : R (.tup [.int .i64 (halfN n.toNat), .int .i64 0]) []) : Does PG nG G0 (fnOf PG f_tree_Half) 0 (lp PG f_tree_Half 0) (mkT 18 [(0, .int .i64 n), (4, .int .i64 k)]) [] R := by
  have key : ∀ m : Nat, ∀ k : Int, (k = 1 ∨ k = 2 ∨ k = 4 ∨ k = 8 ∨ k = 16) → k < n → (32 - k).toNat ≤ m → Does PG nG G0 (fnOf PG f_tree_Half) 0 (lp PG f_tree_Half 0) (mkT 18 [(0, .int .i64 n), (4, .int .i64 k)]) [] R := by
    intro m
    induction m with
    | zero => intro k hk _ h; omega
    | succ m ih =>
      intro k hk hkn h
      refine does_of_run prOk (tree_Half_l0_run G0 n k R ?_)
      simp only [ifK_iff, decide_eq_true_eq, decide_eq_false_iff_not]
      rw [wrap64 (by omega) (by omega), wrap64 (by omega) (by omega)]
      refine ⟨fun h2 => ih _ (by omega) (by omega) (by omega), fun h2 => ?_⟩
      have hs := halfN_spec n.toNat
      have : (halfN n.toNat : Int) = k := by omega
      rw [← this]; exact hR
  exact key _ k hk hkn (Nat.le_refl _)

theorem good_Half (n : Int) : Good PG nG G0 f_tree_Half [.int .i64 n] [] (.tup [.int .i64 (if n < 2 ∨ 24 < n then 0 else halfN n.toNat), .int .i64 (if n < 2 ∨ 24 < n then 3 else 0)]) [] := by
  refine good_of_run prOk (by kernel_rfl) (tree_Half_run n G0 _ ?_)
  simp only [ifK_iff, decide_eq_true_eq, decide_eq_false_iff_not]
  refine ⟨fun h => ?_, fun h => ⟨fun h2 => ?_, fun h2 => ?_⟩⟩
  · rw [if_pos (.inl h), if_pos (.inl h)]; exact ⟨rfl, trivial⟩
  · rw [if_pos (.inr h2), if_pos (.inr h2)]; exact ⟨rfl, trivial⟩
  · rw [if_neg (by omega), if_neg (by omega)]
    exact half_loop n _ (by omega) (by omega) 1 (.inl rfl) (by omega) ⟨rfl, rfl⟩

theorem good_Half' (n : Nat) (h : 2 ≤ n) (h2 : n ≤ 24) : Good PG nG G0 f_tree_Half [.int .i64 n] [] (.tup [.int .i64 (halfN n), .int .i64 0]) [] := by
  have := good_Half (G0 := G0) n
  rw [if_neg (by omega), if_neg (by omega)] at this
  simpa using this

theorem good_HalfOf (n : Int) (h : 2 ≤ n) : Good PG nG G0 f_greatsealref_HalfOf [.int .i64 n] [] (.int .i64 (halfN n.toNat)) [] := by
  refine good_of_run prOk (by kernel_rfl) (greatsealref_HalfOf_run n G0 _ ?_)
  have key : ∀ m : Nat, ∀ k : Int, (k = 1 ∨ k = 2 ∨ k = 4 ∨ k = 8 ∨ k = 16) → k.toNat ≤ m → (halfN n.toNat : Int) ≤ k →
      Does PG nG G0 (fnOf PG f_greatsealref_HalfOf) 0 (lp PG f_greatsealref_HalfOf 0) (mkT 10 [(0, .int .i64 n), (3, .int .i64 k)]) [] fun r' H'' => r' = .int .i64 (halfN n.toNat) ∧ H'' = [] := by
    intro m
    induction m with
    | zero => intro k hk h _; omega
    | succ m ih =>
      intro k hk hm hle
      refine does_of_run prOk (greatsealref_HalfOf_l0_run G0 n k _ ?_)
      simp only [ifK_iff, decide_eq_true_eq, decide_eq_false_iff_not]
      have hs := halfN_spec n.toNat
      have hd : Int.tdiv k 2 = k / 2 := by rw [Int.tdiv_eq_ediv_of_nonneg (by omega)]
      rw [hd, wrap64 (by omega) (by omega)]
      refine ⟨fun h2 => ⟨?_, trivial⟩, fun h2 => ⟨by omega, ih _ (by omega) (by omega) (by omega)⟩⟩
      congr 1
      omega
  have hs := halfN_spec n.toNat
  exact key 16 16 (by omega) (by omega) (by omega)
end Go.Ab

namespace Go.Ab
open Go.Proofs Go.Gs
variable {G0 : Nat → Option Obj}

theorem map_get {l : List By} {i : Nat} {s : By} (h : l[i]? = some s) : (l.map S1)[i]? = some [AV.str s] := by rw [List.getElem?_map, h]; rfl

theorem good_Root (hG : GlobOk G0) : ∀ (m : Nat) (l : List By) (nl : Bool), l.length ≤ m → Good PG nG G0 f_tree_Root [.sl 1 nl none (l.map S1)] [] (.tup [.str (rootOf l).1, .int .i64 (rootOf l).2]) [] := by
  intro m
  induction m with
  | zero =>
    intro l nl hm
    refine good_of_run prOk (by kernel_rfl) (tree_Root_run nl _ G0 _ ?_)
    have h0 : l = [] := List.eq_nil_of_length_eq_zero (by omega)
    subst h0
    simp only [ifK_iff, decide_eq_true_eq, decide_eq_false_iff_not, List.map_nil, List.length_nil]
    refine ⟨fun h => by omega, fun _ => ⟨fun _ => ⟨_, good_None, ?_⟩, fun h => by simp at h⟩⟩
    simp [rootOf, tRoot_zero]
  | succ m ih =>
    intro l nl hm
    refine good_of_run prOk (by kernel_rfl) (tree_Root_run nl _ G0 _ ?_)
    simp only [ifK_iff, decide_eq_true_eq, decide_eq_false_iff_not, List.length_map, beq_iff_eq, beq_eq_false_iff_ne]
    refine ⟨fun h => ?_, fun h => ⟨fun h0 => ⟨_, good_None, ?_⟩, fun h0 => ⟨fun h1 => ⟨by omega, ?_⟩, fun h1 => ?_⟩⟩⟩
    · rw [rootOf, if_pos (by omega)]; exact ⟨rfl, trivial⟩
    · rw [rootOf, if_neg (by omega), tRoot_zero (by omega)]; exact ⟨rfl, trivial⟩
    · obtain ⟨s, hs⟩ : ∃ s, l = [s] := List.length_eq_one_iff.1 (by omega)
      subst hs
      refine ⟨s, rfl, _, _, good_Leaf s, ?_⟩
      rw [rootOf, if_neg (by omega), tRoot_one rfl]; exact ⟨rfl, trivial⟩
    · have h2 : 2 ≤ l.length := by omega
      have hk1 := halfN_pos l.length
      have hk2 := halfN_lt h2
      have e1 : List.drop 0 (List.take (Int.toNat (halfN l.length : Int)) (l.map S1)) = (l.take (halfN l.length)).map S1 := by simp
      have e2 : List.drop (Int.toNat (halfN l.length : Int)) (List.take (Int.toNat (l.length : Int)) (l.map S1)) = (l.drop (halfN l.length)).map S1 := by
        simp [List.take_of_length_le]
      have r1 : rootOf (l.take (halfN l.length)) = tRoot (l.take (halfN l.length)) := by rw [rootOf, if_neg (by simp only [List.length_take]; omega)]
      have r2 : rootOf (l.drop (halfN l.length)) = tRoot (l.drop (halfN l.length)) := by rw [rootOf, if_neg (by simp only [List.length_drop]; omega)]
      have r0 : rootOf l = tRoot l := by rw [rootOf, if_neg (by omega)]
      have g1 := ih (l.take (halfN l.length)) nl (by simp only [List.length_take]; omega)
      have g2 := ih (l.drop (halfN l.length)) nl (by simp only [List.length_drop]; omega)
      rw [r1] at g1
      rw [r2] at g2
      refine ⟨_, _, good_Half' l.length h2 (by omega), ?_⟩
      simp only [bne_self_eq_false, Bool.false_eq_true, false_implies, true_and, true_implies]
      refine ⟨by omega, by omega, by omega, _, _, by rw [e1]; exact g1, fun h3 => ?_, fun h3 => ⟨by omega, by omega, Int.le_refl _, _, _, by rw [e2]; exact g2, fun h4 => ?_, fun h4 => ⟨_, _, good_Node hG _ _, ?_⟩⟩⟩
      · have h3 : (tRoot (l.take (halfN l.length))).2 ≠ 0 := by simpa using h3
        rw [r0, tRoot_two h2, if_pos h3]; exact ⟨rfl, trivial⟩
      · have h3 : (tRoot (l.take (halfN l.length))).2 = 0 := by simpa using h3
        have h4 : (tRoot (l.drop (halfN l.length))).2 ≠ 0 := by simpa using h4
        rw [r0, tRoot_two h2, if_neg (by simpa using h3), if_pos h4]; exact ⟨rfl, trivial⟩
      · have h3 : (tRoot (l.take (halfN l.length))).2 = 0 := by simpa using h3
        have h4 : (tRoot (l.drop (halfN l.length))).2 = 0 := by simpa using h4
        rw [r0, tRoot_two h2, if_neg (by simpa using h3), if_neg (by simpa using h4)]; exact ⟨rfl, trivial⟩

theorem good_Root' (hG : GlobOk G0) (l : List By) (nl : Bool) : Good PG nG G0 f_tree_Root [.sl 1 nl none (l.map S1)] [] (.tup [.str (rootOf l).1, .int .i64 (rootOf l).2]) [] := good_Root hG _ l nl (Nat.le_refl _)

/-- The heap of the document's own answer: the list, the function that calls itself. -/
def rootH (nl : Bool) (l : List By) : List (Option Blk) := [some (.var [.sl 1 nl none (l.map S1)]), some (.var [.func f_greatsealref_RootOf_c1 [.ref 0 0, .ref 1 0]])]

theorem good_RootOf1 (hG : GlobOk G0) (l : List By) (nl : Bool) (hl : l.length ≤ 24) : ∀ (m f t : Nat), f < t → t ≤ l.length → t - f ≤ m →
    Good PG nG G0 f_greatsealref_RootOf_c1 [.int .i64 f, .int .i64 t, .ref 0 0, .ref 1 0] (rootH nl l) (.tup [.str (tRoot ((l.drop f).take (t - f))).1, .int .i64 (tRoot ((l.drop f).take (t - f))).2]) (rootH nl l) := by
  intro m
  induction m with
  | zero => intro f t h1 _ h2; omega
  | succ m ih =>
    intro f t hft htl hm
    have hsub : ((l.drop f).take (t - f)).length = t - f := by simp only [List.length_take, List.length_drop]; omega
    refine good_of_run prOk (by kernel_rfl) (greatsealref_RootOf_c1_run f t nl (l.map S1) G0 _ ?_)
    simp only [ifK_iff, beq_iff_eq, beq_eq_false_iff_ne]
    have hw : IntKind.i64.wrap ((t : Int) - f) = ((t - f : Nat) : Int) := by rw [wrap64 (by omega) (by omega)]; omega
    rw [hw]
    refine ⟨fun h1 => ⟨by omega, ?_⟩, fun h1 => ?_⟩
    · obtain ⟨s, hs⟩ : ∃ s, l[f]? = some s := ⟨_, List.getElem?_eq_getElem (by omega)⟩
      have hsub1 : (l.drop f).take (t - f) = [s] := by
        have : t - f = 1 := by omega
        rw [this, List.take_one, List.head?_drop, hs]; rfl
      refine ⟨s, by simpa using map_get hs, _, _, good_LeafOf s, ?_⟩
      rw [tRoot_one (by omega), hsub1]
      exact ⟨rfl, rfl⟩
    · have h2 : 2 ≤ t - f := by omega
      have hk1 := halfN_pos (t - f)
      have hk2 := halfN_lt h2
      have hw2 : IntKind.i64.wrap ((f : Int) + (halfN (t - f) : Nat)) = ((f + halfN (t - f) : Nat) : Int) := by rw [wrap64 (by omega) (by omega)]; omega
      have s1 : ((l.drop f).take (t - f)).take (halfN (t - f)) = (l.drop f).take (f + halfN (t - f) - f) := by
        rw [List.take_take]; congr 1; omega
      have s2 : ((l.drop f).take (t - f)).drop (halfN (t - f)) = (l.drop (f + halfN (t - f))).take (t - (f + halfN (t - f))) := by
        rw [List.drop_take, List.drop_drop]; congr 1; omega
      have g1 := ih f (f + halfN (t - f)) (by omega) (by omega) (by omega)
      have g2 := ih (f + halfN (t - f)) t (by omega) htl (by omega)
      rw [← s1] at g1
      rw [← s2] at g2
      have gh := good_HalfOf (G0 := G0) ((t - f : Nat) : Int) (by omega)
      rw [Int.toNat_natCast] at gh
      have hr := tRoot_two (l := (l.drop f).take (t - f)) (by rw [hsub]; exact h2)
      rw [hsub] at hr
      refine ⟨_, gh, ?_⟩
      rw [hw2]
      refine ⟨_, _, nl, l.map S1, g1, fun h3 => ?_, fun h3 => ⟨_, _, nl, l.map S1, g2, fun h4 => ?_, fun h4 => ⟨_, _, good_NodeOf hG _ _ (by have := tRoot_len (((l.drop f).take (t - f)).take (halfN (t - f))); omega) (by have := tRoot_len (((l.drop f).take (t - f)).drop (halfN (t - f))); omega), ?_⟩⟩⟩
      · have h3 : (tRoot (((l.drop f).take (t - f)).take (halfN (t - f)))).2 ≠ 0 := by simpa using h3
        rw [hr, if_pos h3]; exact ⟨rfl, rfl⟩
      · have h3 : (tRoot (((l.drop f).take (t - f)).take (halfN (t - f)))).2 = 0 := by simpa using h3
        have h4 : (tRoot (((l.drop f).take (t - f)).drop (halfN (t - f)))).2 ≠ 0 := by simpa using h4
        rw [hr, if_neg (by simpa using h3), if_pos h4]; exact ⟨rfl, rfl⟩
      · have h3 : (tRoot (((l.drop f).take (t - f)).take (halfN (t - f)))).2 = 0 := by simpa using h3
        have h4 : (tRoot (((l.drop f).take (t - f)).drop (halfN (t - f)))).2 = 0 := by simpa using h4
        rw [hr, if_neg (by simpa using h3), if_neg (by simpa using h4)]; exact ⟨rfl, rfl⟩

theorem good_RootOf (hG : GlobOk G0) (l : List By) (nl : Bool) : Good PG nG G0 f_greatsealref_RootOf [.sl 1 nl none (l.map S1)] [] (.tup [.str (rootOf l).1, .int .i64 (rootOf l).2]) [] := by
  refine good_of_run prOk (by kernel_rfl) (greatsealref_RootOf_run nl _ G0 _ ?_)
  simp only [ifK_iff, decide_eq_true_eq, decide_eq_false_iff_not, List.length_map, beq_iff_eq, beq_eq_false_iff_ne]
  refine ⟨fun h => ?_, fun h => ⟨fun h0 => ?_, fun h0 => ?_⟩⟩
  · rw [rootOf, if_pos (by omega)]; exact ⟨rfl, trivial⟩
  · rw [rootOf, if_neg (by omega), tRoot_zero (by omega)]; exact ⟨rfl, trivial⟩
  · have g := good_RootOf1 hG l nl (by omega) l.length 0 l.length (by omega) (Nat.le_refl _) (by omega)
    have e : (l.drop 0).take (l.length - 0) = l := by simp
    rw [e] at g
    refine ⟨_, _, nl, l.map S1, g, ?_⟩
    rw [rootOf, if_neg (by omega)]; exact ⟨rfl, trivial⟩
end Go.Ab

namespace Go.Ab
open Go.Proofs Go.Gs
variable {G0 : Nat → Option Obj}

theorem getD_map {l : List By} {i : Nat} (h : i < l.length) : (l.map S1)[i]? = some [AV.str l[i]] := by rw [List.getElem?_map, List.getElem?_eq_getElem h]; rfl

end Go.Ab

namespace Go.Gs

def valD (l : List UInt8) : Nat := l.foldl (fun v c => v * 10 + (c.toNat - 48)) 0

theorem digit_toNat (k : Nat) (h : k < 10) : (UInt8.ofNat (48 + k)).toNat = 48 + k := by
  simp [UInt8.toNat_ofNat']; omega

theorem valD_dec (u : Nat) : valD (Lib.decDigits u) = u := by
  induction u using Nat.strongRecOn with
  | _ u ih =>
    rw [Lib.decDigits]
    split
    · rename_i h
      simp only [valD, List.foldl_cons, List.foldl_nil]
      rw [digit_toNat u h]; omega
    · rename_i h
      have := ih (u / 10) (by omega)
      unfold valD at this ⊢
      rw [List.foldl_append, this]
      simp only [List.foldl_cons, List.foldl_nil]
      rw [digit_toNat _ (by omega)]; omega

theorem dec_inj {m n : Nat} (h : Lib.decDigits m = Lib.decDigits n) : m = n := by
  rw [← valD_dec m, h, valD_dec]

theorem dec_digit (u : Nat) : ∀ c ∈ Lib.decDigits u, 48 ≤ c.toNat ∧ c.toNat ≤ 57 := by
  induction u using Nat.strongRecOn with
  | _ u ih =>
    rw [Lib.decDigits]
    split
    · rename_i h
      intro c hc
      have hc := List.mem_singleton.1 hc
      subst hc
      rw [digit_toNat u h]; omega
    · rename_i h
      intro c hc
      rcases List.mem_append.1 hc with hc | hc
      · exact ih (u / 10) (by omega) c hc
      · have hc := List.mem_singleton.1 hc
        subst hc
        rw [digit_toNat _ (by omega)]; omega

theorem split_first {x : UInt8} : ∀ {a b c d : List UInt8}, x ∉ a → x ∉ c → a ++ x :: b = c ++ x :: d → a = c ∧ b = d
  | [], b, [], d, _, _, h => by simp at h; exact ⟨rfl, h⟩
  | [], b, y :: c, d, _, hc, h => by simp at h; exact absurd h.1 (fun e => hc (by simp [e]))
  | y :: a, b, [], d, ha, _, h => by simp at h; exact absurd h.1.symm (fun e => ha (by simp [e]))
  | y :: a, b, z :: c, d, ha, hc, h => by
    simp only [List.cons_append, List.cons.injEq] at h
    obtain ⟨h1, h2⟩ := split_first (fun e => ha (by simp [e])) (fun e => hc (by simp [e])) h.2
    exact ⟨by rw [h.1, h1], h2⟩

theorem itoa_nat (n : Nat) : Lib.itoa n = Lib.decDigits n := by
  unfold Lib.itoa
  rw [if_neg (by omega)]; simp

theorem node_inj {a b c d : By} (h : (78 : UInt8) :: (Lib.itoa a.length ++ 58 :: (a ++ b)) = 78 :: (Lib.itoa c.length ++ 58 :: (c ++ d))) : a = c ∧ b = d := by
  rw [itoa_nat, itoa_nat] at h
  simp only [List.cons.injEq, true_and] at h
  have no : ∀ n : Nat, (58 : UInt8) ∉ Lib.decDigits n := fun n hc => by
    have := dec_digit n _ hc
    simp at this
  obtain ⟨h1, h2⟩ := split_first (no _) (no _) h
  have hl := dec_inj h1
  exact List.append_inj h2 hl

theorem tNode_ok {a b : By} (h : (tNode a b).2 = 0) : (tNode a b).1 = 78 :: (Lib.itoa a.length ++ 58 :: (a ++ b)) := by
  unfold tNode at h ⊢
  split
  · rename_i hc; rw [if_pos hc] at h; cases h
  · rfl

theorem tLeaf_ok {s : By} (h : (tLeaf s).2 = 0) : (tLeaf s).1 = 76 :: s := by
  unfold tLeaf at h ⊢
  split
  · rename_i hc; rw [if_pos hc] at h; cases h
  · rfl

/-- Which of three a good seal is. -/
theorem tRoot_cases {l : List By} (h : (tRoot l).2 = 0) :
    (l = [] ∧ (tRoot l).1 = [69]) ∨ (∃ s, l = [s] ∧ (tRoot l).1 = 76 :: s) ∨
    (2 ≤ l.length ∧ (tRoot (l.take (halfN l.length))).2 = 0 ∧ (tRoot (l.drop (halfN l.length))).2 = 0 ∧
      (tRoot l).1 = 78 :: (Lib.itoa (tRoot (l.take (halfN l.length))).1.length ++ 58 :: ((tRoot (l.take (halfN l.length))).1 ++ (tRoot (l.drop (halfN l.length))).1))) := by
  rcases Nat.lt_or_ge l.length 2 with h2 | h2
  · by_cases h0 : l.length = 0
    · exact .inl ⟨List.eq_nil_of_length_eq_zero h0, by rw [tRoot_zero h0]⟩
    · obtain ⟨s, rfl⟩ := List.length_eq_one_iff.1 (show l.length = 1 by omega)
      rw [tRoot_one rfl] at h ⊢
      exact .inr (.inl ⟨s, rfl, tLeaf_ok h⟩)
  · rw [tRoot_two h2] at h ⊢
    split at h
    · rename_i hc; exact absurd h hc
    · rename_i h3
      split at h
      · rename_i hc; exact absurd h hc
      · rename_i h4
        have h3 : (tRoot (l.take (halfN l.length))).2 = 0 := by simpa using h3
        have h4 : (tRoot (l.drop (halfN l.length))).2 = 0 := by simpa using h4
        rw [if_neg (by simpa using h3), if_neg (by simpa using h4)]
        exact .inr (.inr ⟨h2, h3, h4, tNode_ok h⟩)

/-- NO TWO LISTS HAVE ONE SEAL. -/
theorem tRoot_inj : ∀ (n : Nat) (l m : List By), l.length ≤ n → (tRoot l).2 = 0 → (tRoot m).2 = 0 → (tRoot l).1 = (tRoot m).1 → l = m := by
  intro n
  induction n with
  | zero =>
    intro l m hn h1 h2 he
    have hl : l = [] := List.eq_nil_of_length_eq_zero (by omega)
    subst hl
    rw [tRoot_zero rfl] at he
    rcases tRoot_cases h2 with ⟨rfl, _⟩ | ⟨s, rfl, h⟩ | ⟨_, _, _, h⟩
    · rfl
    · rw [h] at he; simp at he
    · rw [h] at he; simp at he
  | succ n ih =>
    intro l m hn h1 h2 he
    have d1 : (69 : UInt8) ≠ 76 := by decide
    have d2 : (69 : UInt8) ≠ 78 := by decide
    have d3 : (76 : UInt8) ≠ 78 := by decide
    rcases tRoot_cases h1 with ⟨e1, g1⟩ | ⟨s, e1, g1⟩ | ⟨a1, a2, a3, g1⟩ <;> rcases tRoot_cases h2 with ⟨e2, g2⟩ | ⟨t, e2, g2⟩ | ⟨b1, b2, b3, g2⟩ <;> rw [g1, g2] at he
    · rw [e1, e2]
    · exact absurd (List.cons.inj he).1 d1
    · exact absurd (List.cons.inj he).1 d2
    · exact absurd (List.cons.inj he).1.symm d1
    · rw [e1, e2, (List.cons.inj he).2]
    · exact absurd (List.cons.inj he).1 d3
    · exact absurd (List.cons.inj he).1.symm d2
    · exact absurd (List.cons.inj he).1.symm d3
    · obtain ⟨e1, e2⟩ := node_inj he
      have hk1 := halfN_pos l.length
      have hk2 := halfN_lt a1
      have i1 := ih _ _ (by simp only [List.length_take]; omega) a2 b2 e1
      have i2 := ih _ _ (by simp only [List.length_drop]; omega) a3 b3 e2
      rw [← List.take_append_drop (halfN l.length) l, ← List.take_append_drop (halfN m.length) m, i1, i2]
end Go.Gs

namespace Go.Ab
open Go.Proofs Go.Gs
variable {G0 : Nat → Option Obj}

theorem good_at (k : Int) (n : Nat) (hn : 0 < n) (h1 : (n : Int) ≤ 1000000000) (h2 : -9223372036854775808 ≤ k ∧ k ≤ 9223372036854775807) : Good PG nG G0 f_greatseallaw_at [.int .i64 k, .int .i64 n] [] (.int .i64 (k % n)) [] := by
  refine good_of_run prOk (by kernel_rfl) (greatseallaw_at_run k n G0 _ ?_)
  simp only [ifK_iff, decide_eq_true_eq, decide_eq_false_iff_not]
  have ht : Int.tmod k n = if k < 0 ∧ k % n ≠ 0 then k % n - n else k % n := by
    rw [Int.tmod_eq_emod]
    by_cases h0 : 0 ≤ k
    · rw [if_pos (.inl h0), if_neg (by omega)]; omega
    · by_cases hd : (n : Int) ∣ k
      · have : k % n = 0 := Int.emod_eq_zero_of_dvd hd
        rw [if_pos (.inr hd), if_neg (by omega)]; omega
      · have : k % n ≠ 0 := fun h => hd (Int.dvd_of_emod_eq_zero h)
        rw [if_neg (by omega), if_pos ⟨by omega, this⟩]
        omega
  have hp := Int.emod_nonneg k (show (n : Int) ≠ 0 by omega)
  have hq := Int.emod_lt_of_pos k (show (0 : Int) < n by omega)
  rw [ht]
  refine ⟨by omega, fun h => ⟨?_, trivial⟩, fun h => ⟨?_, trivial⟩⟩
  · rw [wrap64 (by split <;> omega) (by split <;> omega)]
    congr 1
    split at h <;> rename_i hc
    · rw [if_pos hc]; omega
    · omega
  · congr 1
    split at h <;> rename_i hc
    · omega
    · rw [if_neg hc]

theorem good_in (n a b : Int) : Good PG nG G0 f_greatsealref_in [.int .i64 n, .int .i64 a, .int .i64 b] [] (.bool (decide (a ≤ n ∧ n ≤ b))) [] := by
  refine good_of_run prOk (by kernel_rfl) (greatsealref_in_run n a b G0 _ ?_)
  simp only [ifK_iff, decide_eq_true_eq, decide_eq_false_iff_not]
  exact ⟨fun h => ⟨by simp [h], trivial⟩, fun h => ⟨by simp [h], trivial⟩⟩


end Go.Ab

namespace Go.Ab
open Go.Proofs
set_option maxRecDepth 100000

def an_trie_Check : FAnn := ⟨[], [(0, [0, 7], []), (2, [24], [])], none, []⟩
def an_trie_Root : FAnn := ⟨[], [], none, []⟩
def an_trie_root : FAnn := ⟨[], [], none, []⟩
def an_trie_Shows : FAnn := ⟨[], [(0, [0, 1, 11, 40, 41, 42], [])], none, []⟩
def an_trie_Path : FAnn := ⟨[], [(0, [0, 1, 7, 8], [7])], none, []⟩
def an_greatsealref_MapShows : FAnn := ⟨[], [(0, [0, 1, 11, 12, 34, 35, 36], [])], none, []⟩

theorem trie_Check_run (nlm0 : Bool) (m0 : List (AV × AV)) (G0 : Nat → Option Go.Obj) (R : AV → List (Option Blk) → Prop) (h :
  Does PG nG G0 (fnOf PG f_trie_Check) (0 : Nat) (lp PG f_trie_Check (0 : Nat)) (mkT (35 : Nat) [((0 : Nat), AV.mp nlm0 m0), ((7 : Nat), AV.int Go.IntKind.i64 (0 : Int))]) [] R) :
  Hold (runF PG ty nG G0 an_trie_Check f_trie_Check [AV.mp nlm0 m0] [] R) := kshow h (by kernel_rfl)

theorem trie_Check_l0_run (G0 : Nat → Option Obj) (b0 : Bool) (es1 : List (AV × AV)) (n2 : Int) (R : AV → List (Option Blk) → Prop) (h :
  ifK (decide (n2 < (16 : Int)))
  (∃ s3 b4,
    mlookD Go.IntKind.i64 n2 (AV.str []) es1 = some (AV.str s3, b4) ∧
      ifK b4
        (ifK (decide ((↑(List.length s3) : Int) > (12 : Int))) (R (AV.int Go.IntKind.i64 (2 : Int)) [])
          (Does PG nG G0 (fnOf PG f_trie_Check) (0 : Nat) (lp PG f_trie_Check (0 : Nat)) (mkT (35 : Nat) [((0 : Nat), AV.mp b0 es1), ((7 : Nat), AV.int Go.IntKind.i64 (Go.IntKind.wrap Go.IntKind.i64 (n2 + (1 : Int))))]) [] R))
        (Does PG nG G0 (fnOf PG f_trie_Check) (0 : Nat) (lp PG f_trie_Check (0 : Nat)) (mkT (35 : Nat) [((0 : Nat), AV.mp b0 es1), ((7 : Nat), AV.int Go.IntKind.i64 (Go.IntKind.wrap Go.IntKind.i64 (n2 + (1 : Int))))]) [] R))
  (Does PG nG G0 (fnOf PG f_trie_Check) (0 : Nat) (lp PG f_trie_Check (1 : Nat)) (mkT (35 : Nat) [((24 : Nat), AV.iter (0 : Nat))]) [some (Blk.iter es1 none)] R)) :
  Hold (runL PG ty nG G0 an_trie_Check f_trie_Check (0 : Nat) (0 : Nat) (mkT (35 : Nat) [((0 : Nat), AV.mp b0 es1), ((7 : Nat), AV.int Go.IntKind.i64 n2)]) [] R) := kshow h (by kernel_rfl)

theorem trie_Check_l1_run (G0 : Nat → Option Obj) (es5 : List (AV × AV)) (R : AV → List (Option Blk) → Prop) (h :
  (∀ (i : Nat) (p : AV × AV), es5[i]? = some p → ∃ n6 s7, p = (AV.int Go.IntKind.i64 n6, AV.str s7)) ∧
  (es5 = [] → R (AV.int Go.IntKind.i64 (0 : Int)) []) ∧
    ∀ (i : Nat) (n : Int) (s : List UInt8),
      es5[i]? = some (AV.int Go.IntKind.i64 n, AV.str s) →
        ifK (decide (n < (0 : Int))) (R (AV.int Go.IntKind.i64 (5 : Int)) [])
          (ifK (decide (n ≥ (16 : Int))) (R (AV.int Go.IntKind.i64 (5 : Int)) [])
            (Does PG nG G0 (fnOf PG f_trie_Check) (0 : Nat) (lp PG f_trie_Check (1 : Nat)) (mkT (35 : Nat) [((24 : Nat), AV.iter (0 : Nat))]) [some (Blk.iter (List.eraseIdx es5 i) none)] R))) :
  Hold (runL PG ty nG G0 an_trie_Check f_trie_Check (1 : Nat) (0 : Nat) (mkT (35 : Nat) [((24 : Nat), AV.iter (0 : Nat))]) [some (Blk.iter es5 none)] R) := kshow h (by kernel_rfl)

theorem trie_Root_run (nlm0 : Bool) (m0 : List (AV × AV)) (G0 : Nat → Option Go.Obj) (R : AV → List (Option Blk) → Prop) (h :
  ∃ n0,
  Good PG nG G0 f_trie_Check [AV.mp nlm0 m0] [] (AV.int Go.IntKind.i64 n0) [] ∧
    ifK (n0 != (0 : Int)) (R (AV.tup [AV.str [], AV.int Go.IntKind.i64 n0]) [])
      (∃ s1 n2, Good PG nG G0 f_trie_root [AV.mp nlm0 m0, AV.int Go.IntKind.i64 (0 : Int), AV.int Go.IntKind.i64 (16 : Int)] [] (AV.tup [AV.str s1, AV.int Go.IntKind.i64 n2]) [] ∧ R (AV.tup [AV.str s1, AV.int Go.IntKind.i64 n2]) [])) :
  Hold (runF PG ty nG G0 an_trie_Root f_trie_Root [AV.mp nlm0 m0] [] R) := kshow h (by kernel_rfl)

theorem trie_root_run (nlm0 : Bool) (m0 : List (AV × AV)) (from1 : Int) (many2 : Int) (G0 : Nat → Option Go.Obj) (R : AV → List (Option Blk) → Prop) (h :
  ifK (many2 == (1 : Int))
  (∃ s0 b1,
    mlookD Go.IntKind.i64 from1 (AV.str []) m0 = some (AV.str s0, b1) ∧
      ifK b1 (∃ s2 n3, Good PG nG G0 f_seal_Leaf [AV.str s0] [] (AV.tup [AV.str s2, AV.int Go.IntKind.i64 n3]) [] ∧ R (AV.tup [AV.str s2, AV.int Go.IntKind.i64 n3]) [])
        (∃ s4, Good PG nG G0 f_seal_None [] [] (AV.str s4) [] ∧ R (AV.tup [AV.str s4, AV.int Go.IntKind.i64 (0 : Int)]) []))
  ((2 : Int) ≠ (0 : Int) ∧
    ∃ s5 n6,
      Good PG nG G0 f_trie_root [AV.mp nlm0 m0, AV.int Go.IntKind.i64 from1, AV.int Go.IntKind.i64 (Go.IntKind.wrap Go.IntKind.i64 (Int.tdiv many2 (2 : Int)))] [] (AV.tup [AV.str s5, AV.int Go.IntKind.i64 n6]) [] ∧
        ifK (n6 != (0 : Int)) (R (AV.tup [AV.str [], AV.int Go.IntKind.i64 n6]) [])
          ((2 : Int) ≠ (0 : Int) ∧
            (2 : Int) ≠ (0 : Int) ∧
              ∃ s7 n8,
                Good PG nG G0 f_trie_root
                    [AV.mp nlm0 m0, AV.int Go.IntKind.i64 (Go.IntKind.wrap Go.IntKind.i64 (from1 + Go.IntKind.wrap Go.IntKind.i64 (Int.tdiv many2 (2 : Int)))),
                      AV.int Go.IntKind.i64 (Go.IntKind.wrap Go.IntKind.i64 (Int.tdiv many2 (2 : Int)))]
                    [] (AV.tup [AV.str s7, AV.int Go.IntKind.i64 n8]) [] ∧
                  ifK (n8 != (0 : Int)) (R (AV.tup [AV.str [], AV.int Go.IntKind.i64 n8]) [])
                    (∃ s9 n10, Good PG nG G0 f_seal_Node [AV.str s5, AV.str s7] [] (AV.tup [AV.str s9, AV.int Go.IntKind.i64 n10]) [] ∧ R (AV.tup [AV.str s9, AV.int Go.IntKind.i64 n10]) [])))) :
  Hold (runF PG ty nG G0 an_trie_root f_trie_root [AV.mp nlm0 m0, AV.int Go.IntKind.i64 from1, AV.int Go.IntKind.i64 many2] [] R) := kshow h (by kernel_rfl)

theorem trie_Shows_run (all0 : List UInt8) (key1 : Int) (value2 : List UInt8) (there3 : Bool) (nll4 : Bool) (l4 : List (List AV)) (G0 : Nat → Option Go.Obj) (R : AV → List (Option Blk) → Prop) (h :
  ifK (decide (key1 < (0 : Int))) (R (AV.int Go.IntKind.i64 (5 : Int)) [])
  (ifK (decide (key1 ≥ (16 : Int))) (R (AV.int Go.IntKind.i64 (5 : Int)) [])
    (ifK (!there3)
      (ifK (!value2 == []) (R (AV.int Go.IntKind.i64 (4 : Int)) [])
        (ifK ((↑(List.length l4) : Int) != (4 : Int)) (R (AV.int Go.IntKind.i64 (7 : Int)) [])
          (∃ s0,
            Good PG nG G0 f_seal_None [] [] (AV.str s0) [] ∧
              ifK there3
                (∃ s1 n2,
                  Good PG nG G0 f_seal_Leaf [AV.str value2] [] (AV.tup [AV.str s1, AV.int Go.IntKind.i64 n2]) [] ∧
                    ifK (n2 != (0 : Int)) (R (AV.int Go.IntKind.i64 n2) [])
                      (Does PG nG G0 (fnOf PG f_trie_Shows) (0 : Nat) (lp PG f_trie_Shows (0 : Nat))
                        (mkT (71 : Nat)
                          [((0 : Nat), AV.str all0), ((1 : Nat), AV.int Go.IntKind.i64 key1), ((11 : Nat), AV.str s1), ((40 : Nat), AV.sl (1 : Nat) nll4 none l4), ((41 : Nat), AV.int Go.IntKind.i64 (↑(List.length l4) : Int)),
                            ((42 : Nat), AV.int Go.IntKind.i64 (0 : Int))])
                        [] R))
                (Does PG nG G0 (fnOf PG f_trie_Shows) (0 : Nat) (lp PG f_trie_Shows (0 : Nat))
                  (mkT (71 : Nat)
                    [((0 : Nat), AV.str all0), ((1 : Nat), AV.int Go.IntKind.i64 key1), ((11 : Nat), AV.str s0), ((40 : Nat), AV.sl (1 : Nat) nll4 none l4), ((41 : Nat), AV.int Go.IntKind.i64 (↑(List.length l4) : Int)),
                      ((42 : Nat), AV.int Go.IntKind.i64 (0 : Int))])
                  [] R))))
      (ifK ((↑(List.length l4) : Int) != (4 : Int)) (R (AV.int Go.IntKind.i64 (7 : Int)) [])
        (∃ s3,
          Good PG nG G0 f_seal_None [] [] (AV.str s3) [] ∧
            ifK there3
              (∃ s4 n5,
                Good PG nG G0 f_seal_Leaf [AV.str value2] [] (AV.tup [AV.str s4, AV.int Go.IntKind.i64 n5]) [] ∧
                  ifK (n5 != (0 : Int)) (R (AV.int Go.IntKind.i64 n5) [])
                    (Does PG nG G0 (fnOf PG f_trie_Shows) (0 : Nat) (lp PG f_trie_Shows (0 : Nat))
                      (mkT (71 : Nat)
                        [((0 : Nat), AV.str all0), ((1 : Nat), AV.int Go.IntKind.i64 key1), ((11 : Nat), AV.str s4), ((40 : Nat), AV.sl (1 : Nat) nll4 none l4), ((41 : Nat), AV.int Go.IntKind.i64 (↑(List.length l4) : Int)),
                          ((42 : Nat), AV.int Go.IntKind.i64 (0 : Int))])
                      [] R))
              (Does PG nG G0 (fnOf PG f_trie_Shows) (0 : Nat) (lp PG f_trie_Shows (0 : Nat))
                (mkT (71 : Nat)
                  [((0 : Nat), AV.str all0), ((1 : Nat), AV.int Go.IntKind.i64 key1), ((11 : Nat), AV.str s3), ((40 : Nat), AV.sl (1 : Nat) nll4 none l4), ((41 : Nat), AV.int Go.IntKind.i64 (↑(List.length l4) : Int)),
                    ((42 : Nat), AV.int Go.IntKind.i64 (0 : Int))])
                [] R)))))) :
  Hold (runF PG ty nG G0 an_trie_Shows f_trie_Shows [AV.str all0, AV.int Go.IntKind.i64 key1, AV.str value2, AV.bool there3, AV.sl (1 : Nat) nll4 none l4] [] R) := kshow h (by kernel_rfl)

theorem trie_Shows_l0_run (G0 : Nat → Option Obj) (s6 : List UInt8) (n7 : Int) (s8 : List UInt8) (b9 : Bool) (xs10 : List (List AV)) (n11 : Int) (n12 : Int) (R : AV → List (Option Blk) → Prop) (h :
  ifK (decide (n12 < n11))
  ((0 : Int) ≤ n12 ∧
    ∃ s13,
      xs10[Int.toNat n12]? = some [AV.str s13] ∧
        (0 : Int) ≤ n12 ∧
          ifK (Go.IntKind.wrap Go.IntKind.i64 (↑(BitVec.toNat (BitVec.ofInt (64 : Nat) (Int.fdiv n7 ((2 : Int) ^ min (Int.toNat n12) (64 : Nat))) &&& BitVec.ofInt (64 : Nat) (1 : Int))) : Int) == (1 : Int))
            (∃ s14 n15,
              Good PG nG G0 f_seal_Node [AV.str s13, AV.str s8] [] (AV.tup [AV.str s14, AV.int Go.IntKind.i64 n15]) [] ∧
                ifK (n15 != (0 : Int)) (R (AV.int Go.IntKind.i64 n15) [])
                  (Does PG nG G0 (fnOf PG f_trie_Shows) (0 : Nat) (lp PG f_trie_Shows (0 : Nat))
                    (mkT (71 : Nat)
                      [((0 : Nat), AV.str s6), ((1 : Nat), AV.int Go.IntKind.i64 n7), ((11 : Nat), AV.str s14), ((40 : Nat), AV.sl (1 : Nat) b9 none xs10), ((41 : Nat), AV.int Go.IntKind.i64 n11),
                        ((42 : Nat), AV.int Go.IntKind.i64 (Go.IntKind.wrap Go.IntKind.i64 (n12 + (1 : Int))))])
                    [] R))
            (∃ s16 n17,
              Good PG nG G0 f_seal_Node [AV.str s8, AV.str s13] [] (AV.tup [AV.str s16, AV.int Go.IntKind.i64 n17]) [] ∧
                ifK (n17 != (0 : Int)) (R (AV.int Go.IntKind.i64 n17) [])
                  (Does PG nG G0 (fnOf PG f_trie_Shows) (0 : Nat) (lp PG f_trie_Shows (0 : Nat))
                    (mkT (71 : Nat)
                      [((0 : Nat), AV.str s6), ((1 : Nat), AV.int Go.IntKind.i64 n7), ((11 : Nat), AV.str s16), ((40 : Nat), AV.sl (1 : Nat) b9 none xs10), ((41 : Nat), AV.int Go.IntKind.i64 n11),
                        ((42 : Nat), AV.int Go.IntKind.i64 (Go.IntKind.wrap Go.IntKind.i64 (n12 + (1 : Int))))])
                    [] R)))
  (ifK (!s8 == s6) (R (AV.int Go.IntKind.i64 (7 : Int)) []) (R (AV.int Go.IntKind.i64 (0 : Int)) []))) :
  Hold (runL PG ty nG G0 an_trie_Shows f_trie_Shows (0 : Nat) (0 : Nat)
  (mkT (71 : Nat) [((0 : Nat), AV.str s6), ((1 : Nat), AV.int Go.IntKind.i64 n7), ((11 : Nat), AV.str s8), ((40 : Nat), AV.sl (1 : Nat) b9 none xs10), ((41 : Nat), AV.int Go.IntKind.i64 n11), ((42 : Nat), AV.int Go.IntKind.i64 n12)]) [] R) := kshow h (by kernel_rfl)

theorem trie_Path_run (nlm0 : Bool) (m0 : List (AV × AV)) (key1 : Int) (G0 : Nat → Option Go.Obj) (R : AV → List (Option Blk) → Prop) (h :
  ∃ n0,
  Good PG nG G0 f_trie_Check [AV.mp nlm0 m0] [] (AV.int Go.IntKind.i64 n0) [] ∧
    ifK (n0 != (0 : Int)) (R (AV.tup [AV.sl (1 : Nat) true none [], AV.int Go.IntKind.i64 n0]) [])
      (ifK (decide (key1 < (0 : Int))) (R (AV.tup [AV.sl (1 : Nat) true none [], AV.int Go.IntKind.i64 (5 : Int)]) [])
        (ifK (decide (key1 ≥ (16 : Int))) (R (AV.tup [AV.sl (1 : Nat) true none [], AV.int Go.IntKind.i64 (5 : Int)]) [])
          (Does PG nG G0 (fnOf PG f_trie_Path) (0 : Nat) (lp PG f_trie_Path (0 : Nat))
            (mkT (49 : Nat) [((0 : Nat), AV.mp nlm0 m0), ((1 : Nat), AV.int Go.IntKind.i64 key1), ((7 : Nat), AV.sl (1 : Nat) true (some (0 : Nat)) []), ((8 : Nat), AV.int Go.IntKind.i64 (1 : Int))]) [some (Blk.grow (1 : Nat) (0 : Nat))]
            R)))) :
  Hold (runF PG ty nG G0 an_trie_Path f_trie_Path [AV.mp nlm0 m0, AV.int Go.IntKind.i64 key1] [] R) := kshow h (by kernel_rfl)

theorem trie_Path_l0_run (G0 : Nat → Option Obj) (b1 : Bool) (es2 : List (AV × AV)) (n3 : Int) (b4 : Bool) (xs5 : List (List AV)) (n6 : Int) (m7 : Nat) (R : AV → List (Option Blk) → Prop) (h :
  ifK (decide (n6 < (16 : Int)))
  (n6 ≠ (0 : Int) ∧
    ∃ s8 n9,
      Good PG nG G0 f_trie_root
          [AV.mp b1 es2,
            AV.int Go.IntKind.i64 (Go.IntKind.wrap Go.IntKind.i64 (↑(BitVec.toNat (BitVec.ofInt (64 : Nat) (Go.IntKind.wrap Go.IntKind.i64 (Go.IntKind.wrap Go.IntKind.i64 (Int.tdiv n3 n6) * n6)) ^^^ BitVec.ofInt (64 : Nat) n6)) : Int)),
            AV.int Go.IntKind.i64 n6]
          [] (AV.tup [AV.str s8, AV.int Go.IntKind.i64 n9]) [] ∧
        ifK (n9 != (0 : Int)) (R (AV.tup [AV.sl (1 : Nat) true none [], AV.int Go.IntKind.i64 n9]) [])
          ((List.length xs5 + List.length [[AV.str s8]]) * (16 : Nat) ≤ (140737488355328 : Nat) ∧
            List.length xs5 = m7 ∧
              Does PG nG G0 (fnOf PG f_trie_Path) (0 : Nat) (lp PG f_trie_Path (0 : Nat))
                (mkT (49 : Nat)
                  [((0 : Nat), AV.mp b1 es2), ((1 : Nat), AV.int Go.IntKind.i64 n3), ((7 : Nat), AV.sl (1 : Nat) (b4 && List.isEmpty [[AV.str s8]]) (some (0 : Nat)) (xs5 ++ [[AV.str s8]])),
                    ((8 : Nat), AV.int Go.IntKind.i64 (Go.IntKind.wrap Go.IntKind.i64 (n6 * (2 : Int))))])
                [some (Blk.grow (1 : Nat) (m7 + List.length [[AV.str s8]]))] R))
  (R (AV.tup [AV.sl (1 : Nat) b4 none xs5, AV.int Go.IntKind.i64 (0 : Int)]) [])) :
  Hold (runL PG ty nG G0 an_trie_Path f_trie_Path (0 : Nat) (0 : Nat)
  (mkT (49 : Nat) [((0 : Nat), AV.mp b1 es2), ((1 : Nat), AV.int Go.IntKind.i64 n3), ((7 : Nat), AV.sl (1 : Nat) b4 (some (0 : Nat)) xs5), ((8 : Nat), AV.int Go.IntKind.i64 n6)]) [some (Blk.grow (1 : Nat) m7)] R) := kshow h (by kernel_rfl)

theorem greatsealref_MapShows_run (all0 : List UInt8) (key1 : Int) (value2 : List UInt8) (there3 : Bool) (nll4 : Bool) (l4 : List (List AV)) (G0 : Nat → Option Go.Obj) (R : AV → List (Option Blk) → Prop) (h :
  ∃ b0,
  Good PG nG G0 f_greatsealref_in [AV.int Go.IntKind.i64 key1, AV.int Go.IntKind.i64 (0 : Int), AV.int Go.IntKind.i64 (15 : Int)] [] (AV.bool b0) [] ∧
    ifK (!b0) (R (AV.int Go.IntKind.i64 (5 : Int)) [])
      (ifK (!there3)
        (ifK (decide ((↑(List.length value2) : Int) > (0 : Int))) (R (AV.int Go.IntKind.i64 (4 : Int)) [])
          (ifK ((↑(List.length l4) : Int) != (4 : Int)) (R (AV.int Go.IntKind.i64 (7 : Int)) [])
            (ifK there3
              (∃ s1 n2,
                Good PG nG G0 f_greatsealref_LeafOf [AV.str value2] [] (AV.tup [AV.str s1, AV.int Go.IntKind.i64 n2]) [] ∧
                  Does PG nG G0 (fnOf PG f_greatsealref_MapShows) (0 : Nat) (lp PG f_greatsealref_MapShows (0 : Nat))
                    (mkT (69 : Nat)
                      [((0 : Nat), AV.str all0), ((1 : Nat), AV.int Go.IntKind.i64 key1), ((11 : Nat), AV.str s1), ((12 : Nat), AV.int Go.IntKind.i64 n2), ((34 : Nat), AV.sl (1 : Nat) nll4 none l4),
                        ((35 : Nat), AV.int Go.IntKind.i64 (↑(List.length l4) : Int)), ((36 : Nat), AV.int Go.IntKind.i64 (0 : Int))])
                    [] R)
              (Does PG nG G0 (fnOf PG f_greatsealref_MapShows) (0 : Nat) (lp PG f_greatsealref_MapShows (0 : Nat))
                (mkT (69 : Nat)
                  [((0 : Nat), AV.str all0), ((1 : Nat), AV.int Go.IntKind.i64 key1), ((11 : Nat), AV.str [(69 : UInt8)]), ((12 : Nat), AV.int Go.IntKind.i64 (0 : Int)), ((34 : Nat), AV.sl (1 : Nat) nll4 none l4),
                    ((35 : Nat), AV.int Go.IntKind.i64 (↑(List.length l4) : Int)), ((36 : Nat), AV.int Go.IntKind.i64 (0 : Int))])
                [] R))))
        (ifK ((↑(List.length l4) : Int) != (4 : Int)) (R (AV.int Go.IntKind.i64 (7 : Int)) [])
          (ifK there3
            (∃ s3 n4,
              Good PG nG G0 f_greatsealref_LeafOf [AV.str value2] [] (AV.tup [AV.str s3, AV.int Go.IntKind.i64 n4]) [] ∧
                Does PG nG G0 (fnOf PG f_greatsealref_MapShows) (0 : Nat) (lp PG f_greatsealref_MapShows (0 : Nat))
                  (mkT (69 : Nat)
                    [((0 : Nat), AV.str all0), ((1 : Nat), AV.int Go.IntKind.i64 key1), ((11 : Nat), AV.str s3), ((12 : Nat), AV.int Go.IntKind.i64 n4), ((34 : Nat), AV.sl (1 : Nat) nll4 none l4),
                      ((35 : Nat), AV.int Go.IntKind.i64 (↑(List.length l4) : Int)), ((36 : Nat), AV.int Go.IntKind.i64 (0 : Int))])
                  [] R)
            (Does PG nG G0 (fnOf PG f_greatsealref_MapShows) (0 : Nat) (lp PG f_greatsealref_MapShows (0 : Nat))
              (mkT (69 : Nat)
                [((0 : Nat), AV.str all0), ((1 : Nat), AV.int Go.IntKind.i64 key1), ((11 : Nat), AV.str [(69 : UInt8)]), ((12 : Nat), AV.int Go.IntKind.i64 (0 : Int)), ((34 : Nat), AV.sl (1 : Nat) nll4 none l4),
                  ((35 : Nat), AV.int Go.IntKind.i64 (↑(List.length l4) : Int)), ((36 : Nat), AV.int Go.IntKind.i64 (0 : Int))])
              [] R))))) :
  Hold (runF PG ty nG G0 an_greatsealref_MapShows f_greatsealref_MapShows [AV.str all0, AV.int Go.IntKind.i64 key1, AV.str value2, AV.bool there3, AV.sl (1 : Nat) nll4 none l4] [] R) := kshow h (by kernel_rfl)

theorem greatsealref_MapShows_l0_run (G0 : Nat → Option Obj) (s5 : List UInt8) (n6 : Int) (s7 : List UInt8) (n8 : Int) (b9 : Bool) (xs10 : List (List AV)) (n11 : Int) (n12 : Int) (R : AV → List (Option Blk) → Prop) (h :
  ifK (decide (n12 < n11))
  ((0 : Int) ≤ n12 ∧
    ∃ s13,
      xs10[Int.toNat n12]? = some [AV.str s13] ∧
        ifK (n8 != (0 : Int)) (R (AV.int Go.IntKind.i64 n8) [])
          ((2 : Int) ≠ (0 : Int) ∧
            ifK (Int.tmod n6 (2 : Int) == (0 : Int))
              (∃ s14 n15,
                Good PG nG G0 f_greatsealref_NodeOf [AV.str s7, AV.str s13] [] (AV.tup [AV.str s14, AV.int Go.IntKind.i64 n15]) [] ∧
                  (2 : Int) ≠ (0 : Int) ∧
                    Does PG nG G0 (fnOf PG f_greatsealref_MapShows) (0 : Nat) (lp PG f_greatsealref_MapShows (0 : Nat))
                      (mkT (69 : Nat)
                        [((0 : Nat), AV.str s5), ((1 : Nat), AV.int Go.IntKind.i64 (Go.IntKind.wrap Go.IntKind.i64 (Int.tdiv n6 (2 : Int)))), ((11 : Nat), AV.str s14), ((12 : Nat), AV.int Go.IntKind.i64 n15),
                          ((34 : Nat), AV.sl (1 : Nat) b9 none xs10), ((35 : Nat), AV.int Go.IntKind.i64 n11), ((36 : Nat), AV.int Go.IntKind.i64 (Go.IntKind.wrap Go.IntKind.i64 (n12 + (1 : Int))))])
                      [] R)
              (∃ s16 n17,
                Good PG nG G0 f_greatsealref_NodeOf [AV.str s13, AV.str s7] [] (AV.tup [AV.str s16, AV.int Go.IntKind.i64 n17]) [] ∧
                  (2 : Int) ≠ (0 : Int) ∧
                    Does PG nG G0 (fnOf PG f_greatsealref_MapShows) (0 : Nat) (lp PG f_greatsealref_MapShows (0 : Nat))
                      (mkT (69 : Nat)
                        [((0 : Nat), AV.str s5), ((1 : Nat), AV.int Go.IntKind.i64 (Go.IntKind.wrap Go.IntKind.i64 (Int.tdiv n6 (2 : Int)))), ((11 : Nat), AV.str s16), ((12 : Nat), AV.int Go.IntKind.i64 n17),
                          ((34 : Nat), AV.sl (1 : Nat) b9 none xs10), ((35 : Nat), AV.int Go.IntKind.i64 n11), ((36 : Nat), AV.int Go.IntKind.i64 (Go.IntKind.wrap Go.IntKind.i64 (n12 + (1 : Int))))])
                      [] R)))
  (ifK (n8 == (0 : Int)) (ifK (!s7 == s5) (R (AV.int Go.IntKind.i64 (7 : Int)) []) (R (AV.int Go.IntKind.i64 n8) [])) (R (AV.int Go.IntKind.i64 n8) []))) :
  Hold (runL PG ty nG G0 an_greatsealref_MapShows f_greatsealref_MapShows (0 : Nat) (0 : Nat)
  (mkT (69 : Nat)
    [((0 : Nat), AV.str s5), ((1 : Nat), AV.int Go.IntKind.i64 n6), ((11 : Nat), AV.str s7), ((12 : Nat), AV.int Go.IntKind.i64 n8), ((34 : Nat), AV.sl (1 : Nat) b9 none xs10), ((35 : Nat), AV.int Go.IntKind.i64 n11),
      ((36 : Nat), AV.int Go.IntKind.i64 n12)])
  [] R) := kshow h (by kernel_rfl)

end Go.Ab

namespace Go.Ab
open Go.Proofs
set_option maxRecDepth 100000

def an_greatsealref_MapRoots : FAnn := ⟨[], [(0, [0, 3, 13], [3]), (2, [3, 8], [3, 8]), (4, [3, 8, 9, 10], [9])], none, []⟩
def an_greatsealref_MapPath : FAnn := ⟨[], [(0, [1, 5, 6, 10], [6])], none, []⟩

theorem greatsealref_MapRoots_run (nlm0 : Bool) (m0 : List (AV × AV)) (G0 : Nat → Option Go.Obj) (R : AV → List (Option Blk) → Prop) (h :
  Does PG nG G0 (fnOf PG f_greatsealref_MapRoots) (0 : Nat) (lp PG f_greatsealref_MapRoots (0 : Nat)) (mkT (67 : Nat) [((0 : Nat), AV.mp nlm0 m0), ((3 : Nat), AV.sl (1 : Nat) true (some (0 : Nat)) []), ((13 : Nat), AV.int Go.IntKind.i64 (0 : Int))])
  [some (Blk.grow (1 : Nat) (0 : Nat))] R) :
  Hold (runF PG ty nG G0 an_greatsealref_MapRoots f_greatsealref_MapRoots [AV.mp nlm0 m0] [] R) := kshow h (by kernel_rfl)

theorem greatsealref_MapRoots_l0_run (G0 : Nat → Option Obj) (b0 : Bool) (es1 : List (AV × AV)) (b2 : Bool) (xs3 : List (List AV)) (n4 : Int) (m5 : Nat) (R : AV → List (Option Blk) → Prop) (h :
  ifK (decide (n4 < (16 : Int)))
  (∃ s6 b7,
    mlookD Go.IntKind.i64 n4 (AV.str []) es1 = some (AV.str s6, b7) ∧
      ifK b7
        (∃ s8 n9,
          Good PG nG G0 f_greatsealref_LeafOf [AV.str s6] [] (AV.tup [AV.str s8, AV.int Go.IntKind.i64 n9]) [] ∧
            (List.length xs3 + List.length [[AV.str s8]]) * (16 : Nat) ≤ (140737488355328 : Nat) ∧
              List.length xs3 = m5 ∧
                Does PG nG G0 (fnOf PG f_greatsealref_MapRoots) (0 : Nat) (lp PG f_greatsealref_MapRoots (0 : Nat))
                  (mkT (67 : Nat)
                    [((0 : Nat), AV.mp b0 es1), ((3 : Nat), AV.sl (1 : Nat) (b2 && List.isEmpty [[AV.str s8]]) (some (0 : Nat)) (xs3 ++ [[AV.str s8]])), ((13 : Nat), AV.int Go.IntKind.i64 (Go.IntKind.wrap Go.IntKind.i64 (n4 + (1 : Int))))])
                  [some (Blk.grow (1 : Nat) (m5 + List.length [[AV.str s8]]))] R)
        ((List.length xs3 + (1 : Nat)) * (16 : Nat) ≤ (140737488355328 : Nat) ∧
          List.length xs3 = m5 ∧
            Does PG nG G0 (fnOf PG f_greatsealref_MapRoots) (0 : Nat) (lp PG f_greatsealref_MapRoots (0 : Nat))
              (mkT (67 : Nat)
                [((0 : Nat), AV.mp b0 es1), ((3 : Nat), AV.sl (1 : Nat) (b2 && false) (some (0 : Nat)) (xs3 ++ [[AV.str [(69 : UInt8)]]])), ((13 : Nat), AV.int Go.IntKind.i64 (Go.IntKind.wrap Go.IntKind.i64 (n4 + (1 : Int))))])
              [some (Blk.grow (1 : Nat) (m5 + (1 : Nat)))] R))
  (Does PG nG G0 (fnOf PG f_greatsealref_MapRoots) (0 : Nat) (lp PG f_greatsealref_MapRoots (1 : Nat)) (mkT (67 : Nat) [((3 : Nat), AV.sl (1 : Nat) b2 (some (0 : Nat)) xs3), ((8 : Nat), AV.sl (1 : Nat) false (some (1 : Nat)) [[AV.sl (1 : Nat) b2 none xs3]])])
    [some (Blk.grow (1 : Nat) m5), some (Blk.grow (1 : Nat) (1 : Nat))] R)) :
  Hold (runL PG ty nG G0 an_greatsealref_MapRoots f_greatsealref_MapRoots (0 : Nat) (0 : Nat) (mkT (67 : Nat) [((0 : Nat), AV.mp b0 es1), ((3 : Nat), AV.sl (1 : Nat) b2 (some (0 : Nat)) xs3), ((13 : Nat), AV.int Go.IntKind.i64 n4)])
  [some (Blk.grow (1 : Nat) m5)] R) := kshow h (by kernel_rfl)

theorem greatsealref_MapRoots_l1_run (G0 : Nat → Option Obj) (b10 : Bool) (xs11 : List (List AV)) (b12 : Bool) (xs13 : List (List AV)) (m14 : Nat) (m15 : Nat) (R : AV → List (Option Blk) → Prop) (h :
  ifK (decide ((↑(List.length xs11) : Int) > (1 : Int)))
  (Does PG nG G0 (fnOf PG f_greatsealref_MapRoots) (0 : Nat) (lp PG f_greatsealref_MapRoots (2 : Nat))
    (mkT (67 : Nat) [((3 : Nat), AV.sl (1 : Nat) b10 (some (0 : Nat)) xs11), ((8 : Nat), AV.sl (1 : Nat) b12 (some (1 : Nat)) xs13), ((9 : Nat), AV.sl (1 : Nat) true (some (2 : Nat)) []), ((10 : Nat), AV.int Go.IntKind.i64 (0 : Int))])
    [some (Blk.grow (1 : Nat) m14), some (Blk.grow (1 : Nat) m15), some (Blk.grow (1 : Nat) (0 : Nat))] R)
  (R (AV.sl (1 : Nat) b12 none xs13) [])) :
  Hold (runL PG ty nG G0 an_greatsealref_MapRoots f_greatsealref_MapRoots (1 : Nat) (0 : Nat) (mkT (67 : Nat) [((3 : Nat), AV.sl (1 : Nat) b10 (some (0 : Nat)) xs11), ((8 : Nat), AV.sl (1 : Nat) b12 (some (1 : Nat)) xs13)])
  [some (Blk.grow (1 : Nat) m14), some (Blk.grow (1 : Nat) m15)] R) := kshow h (by kernel_rfl)

theorem greatsealref_MapRoots_l2_run (G0 : Nat → Option Obj) (b16 : Bool) (xs17 : List (List AV)) (b18 : Bool) (xs19 : List (List AV)) (b20 : Bool) (xs21 : List (List AV)) (n22 : Int) (m23 : Nat) (m24 : Nat) (m25 : Nat) (R : AV → List (Option Blk) → Prop) (h :
  ifK (decide (n22 < (↑(List.length xs17) : Int)))
  ((0 : Int) ≤ n22 ∧
    ∃ s26,
      xs17[Int.toNat n22]? = some [AV.str s26] ∧
        (0 : Int) ≤ Go.IntKind.wrap Go.IntKind.i64 (n22 + (1 : Int)) ∧
          ∃ s27,
            xs17[Int.toNat (Go.IntKind.wrap Go.IntKind.i64 (n22 + (1 : Int)))]? = some [AV.str s27] ∧
              ∃ s28 n29,
                Good PG nG G0 f_greatsealref_NodeOf [AV.str s26, AV.str s27] [] (AV.tup [AV.str s28, AV.int Go.IntKind.i64 n29]) [] ∧
                  (List.length xs21 + List.length [[AV.str s28]]) * (16 : Nat) ≤ (140737488355328 : Nat) ∧
                    List.length xs21 = m25 ∧
                      Does PG nG G0 (fnOf PG f_greatsealref_MapRoots) (0 : Nat) (lp PG f_greatsealref_MapRoots (2 : Nat))
                        (mkT (67 : Nat)
                          [((3 : Nat), AV.sl (1 : Nat) b16 (some (0 : Nat)) xs17), ((8 : Nat), AV.sl (1 : Nat) b18 (some (1 : Nat)) xs19),
                            ((9 : Nat), AV.sl (1 : Nat) (b20 && List.isEmpty [[AV.str s28]]) (some (2 : Nat)) (xs21 ++ [[AV.str s28]])), ((10 : Nat), AV.int Go.IntKind.i64 (Go.IntKind.wrap Go.IntKind.i64 (n22 + (2 : Int))))])
                        [some (Blk.grow (1 : Nat) m23), some (Blk.grow (1 : Nat) m24), some (Blk.grow (1 : Nat) (m25 + List.length [[AV.str s28]]))] R)
  ((List.length xs19 + List.length [[AV.sl (1 : Nat) b20 none xs21]]) * (24 : Nat) ≤ (140737488355328 : Nat) ∧
    List.length xs19 = m24 ∧
      Does PG nG G0 (fnOf PG f_greatsealref_MapRoots) (0 : Nat) (lp PG f_greatsealref_MapRoots (1 : Nat))
        (mkT (67 : Nat) [((3 : Nat), AV.sl (1 : Nat) b20 (some (0 : Nat)) xs21), ((8 : Nat), AV.sl (1 : Nat) (b18 && List.isEmpty [[AV.sl (1 : Nat) b20 none xs21]]) (some (1 : Nat)) (xs19 ++ [[AV.sl (1 : Nat) b20 none xs21]]))])
        [some (Blk.grow (1 : Nat) m25), some (Blk.grow (1 : Nat) (m24 + List.length [[AV.sl (1 : Nat) b20 none xs21]]))] R)) :
  Hold (runL PG ty nG G0 an_greatsealref_MapRoots f_greatsealref_MapRoots (2 : Nat) (0 : Nat)
  (mkT (67 : Nat) [((3 : Nat), AV.sl (1 : Nat) b16 (some (0 : Nat)) xs17), ((8 : Nat), AV.sl (1 : Nat) b18 (some (1 : Nat)) xs19), ((9 : Nat), AV.sl (1 : Nat) b20 (some (2 : Nat)) xs21), ((10 : Nat), AV.int Go.IntKind.i64 n22)])
  [some (Blk.grow (1 : Nat) m23), some (Blk.grow (1 : Nat) m24), some (Blk.grow (1 : Nat) m25)] R) := kshow h (by kernel_rfl)

theorem greatsealref_MapPath_run (nlm0 : Bool) (m0 : List (AV × AV)) (key1 : Int) (G0 : Nat → Option Go.Obj) (R : AV → List (Option Blk) → Prop) (h :
  ∃ b0 xs1,
  Good PG nG G0 f_greatsealref_MapRoots [AV.mp nlm0 m0] [] (AV.sl (1 : Nat) b0 none xs1) [] ∧
    Does PG nG G0 (fnOf PG f_greatsealref_MapPath) (0 : Nat) (lp PG f_greatsealref_MapPath (0 : Nat))
      (mkT (28 : Nat) [((1 : Nat), AV.int Go.IntKind.i64 key1), ((5 : Nat), AV.sl (1 : Nat) b0 none xs1), ((6 : Nat), AV.sl (1 : Nat) true (some (0 : Nat)) []), ((10 : Nat), AV.int Go.IntKind.i64 (0 : Int))])
      [some (Blk.grow (1 : Nat) (0 : Nat))] R) :
  Hold (runF PG ty nG G0 an_greatsealref_MapPath f_greatsealref_MapPath [AV.mp nlm0 m0, AV.int Go.IntKind.i64 key1] [] R) := kshow h (by kernel_rfl)

theorem greatsealref_MapPath_l0_run (G0 : Nat → Option Obj) (n2 : Int) (b3 : Bool) (xs4 : List (List AV)) (b5 : Bool) (xs6 : List (List AV)) (n7 : Int) (m8 : Nat) (R : AV → List (Option Blk) → Prop) (h :
  ifK (decide (n7 < (4 : Int)))
  ((0 : Int) ≤ n7 ∧
    ∃ b9 xs10,
      xs4[Int.toNat n7]? = some [AV.sl (1 : Nat) b9 none xs10] ∧
        (0 : Int) ≤ n7 ∧
          (0 : Int) ≤ Go.IntKind.wrap Go.IntKind.i64 (↑(BitVec.toNat (BitVec.ofInt (64 : Nat) (Int.fdiv n2 ((2 : Int) ^ min (Int.toNat n7) (64 : Nat))) ^^^ BitVec.ofInt (64 : Nat) (1 : Int))) : Int) ∧
            ∃ s11,
              xs10[Int.toNat (Go.IntKind.wrap Go.IntKind.i64 (↑(BitVec.toNat (BitVec.ofInt (64 : Nat) (Int.fdiv n2 ((2 : Int) ^ min (Int.toNat n7) (64 : Nat))) ^^^ BitVec.ofInt (64 : Nat) (1 : Int))) : Int))]? = some [AV.str s11] ∧
                (List.length xs6 + List.length [[AV.str s11]]) * (16 : Nat) ≤ (140737488355328 : Nat) ∧
                  List.length xs6 = m8 ∧
                    Does PG nG G0 (fnOf PG f_greatsealref_MapPath) (0 : Nat) (lp PG f_greatsealref_MapPath (0 : Nat))
                      (mkT (28 : Nat)
                        [((1 : Nat), AV.int Go.IntKind.i64 n2), ((5 : Nat), AV.sl (1 : Nat) b3 none xs4), ((6 : Nat), AV.sl (1 : Nat) (b5 && List.isEmpty [[AV.str s11]]) (some (0 : Nat)) (xs6 ++ [[AV.str s11]])),
                          ((10 : Nat), AV.int Go.IntKind.i64 (Go.IntKind.wrap Go.IntKind.i64 (n7 + (1 : Int))))])
                      [some (Blk.grow (1 : Nat) (m8 + List.length [[AV.str s11]]))] R)
  (R (AV.sl (1 : Nat) b5 none xs6) [])) :
  Hold (runL PG ty nG G0 an_greatsealref_MapPath f_greatsealref_MapPath (0 : Nat) (0 : Nat)
  (mkT (28 : Nat) [((1 : Nat), AV.int Go.IntKind.i64 n2), ((5 : Nat), AV.sl (1 : Nat) b3 none xs4), ((6 : Nat), AV.sl (1 : Nat) b5 (some (0 : Nat)) xs6), ((10 : Nat), AV.int Go.IntKind.i64 n7)]) [some (Blk.grow (1 : Nat) m8)] R) := kshow h (by kernel_rfl)

end Go.Ab

namespace Go.Gs

/-- A good seal of two or more, opened. -/
theorem tRoot_split {l : List By} (h : (tRoot l).2 = 0) (h2 : 2 ≤ l.length) :
    (tRoot (l.take (halfN l.length))).2 = 0 ∧ (tRoot (l.drop (halfN l.length))).2 = 0 ∧
      tNode (tRoot (l.take (halfN l.length))).1 (tRoot (l.drop (halfN l.length))).1 = ((tRoot l).1, 0) := by
  rcases tRoot_cases h with ⟨rfl, _⟩ | ⟨s, rfl, _⟩ | ⟨_, h3, h4, _⟩
  · simp at h2
  · simp at h2
  · refine ⟨h3, h4, ?_⟩
    have := tRoot_two h2
    rw [if_neg (by simpa using h3), if_neg (by simpa using h4)] at this
    rw [← this, ← h]

theorem tNode_inj {a b c d x : By} (h : tNode a b = (x, 0)) (k : tNode c d = (x, 0)) : a = c ∧ b = d := by
  have h1 := tNode_ok (a := a) (b := b) (by rw [h])
  have h2 := tNode_ok (a := c) (b := d) (by rw [k])
  rw [h] at h1
  rw [k] at h2
  exact node_inj (h1.symm.trans h2)

theorem tLeaf_inj {a b x : By} (h : tLeaf a = (x, 0)) (k : tLeaf b = (x, 0)) : a = b := by
  have h1 := tLeaf_ok (s := a) (by rw [h])
  have h2 := tLeaf_ok (s := b) (by rw [k])
  rw [h] at h1
  rw [k] at h2
  simpa using h1.symm.trans h2

/-- From below: does what is beside stand left? -/
def turnsN (n i : Nat) : List Bool :=
  if _h : n ≤ 1 then [] else if i < halfN n then turnsN (halfN n) i ++ [false] else turnsN (n - halfN n) (i - halfN n) ++ [true]
  termination_by n
  decreasing_by
  all_goals
    have := halfN_pos n
    have := halfN_lt (n := n) (by omega)
    omega

theorem turnsN_one {n i : Nat} (h : n ≤ 1) : turnsN n i = [] := by rw [turnsN, dif_pos h]
theorem turnsN_two {n i : Nat} (h : 2 ≤ n) : turnsN n i = if i < halfN n then turnsN (halfN n) i ++ [false] else turnsN (n - halfN n) (i - halfN n) ++ [true] := by
  rw [turnsN, dif_neg (by omega)]

/-- What stands beside, from below. -/
def pathOf (l : List By) (i : Nat) : List (Bool × By) :=
  if _h : l.length ≤ 1 then [] else
    if i < halfN l.length then pathOf (l.take (halfN l.length)) i ++ [(false, (tRoot (l.drop (halfN l.length))).1)]
    else pathOf (l.drop (halfN l.length)) (i - halfN l.length) ++ [(true, (tRoot (l.take (halfN l.length))).1)]
  termination_by l.length
  decreasing_by
  all_goals
    have := halfN_pos l.length
    have := halfN_lt (n := l.length) (by omega)
    simp only [List.length_take, List.length_drop]
    omega

theorem pathOf_one {l : List By} {i : Nat} (h : l.length ≤ 1) : pathOf l i = [] := by rw [pathOf, dif_pos h]
theorem pathOf_two {l : List By} {i : Nat} (h : 2 ≤ l.length) : pathOf l i =
    if i < halfN l.length then pathOf (l.take (halfN l.length)) i ++ [(false, (tRoot (l.drop (halfN l.length))).1)]
    else pathOf (l.drop (halfN l.length)) (i - halfN l.length) ++ [(true, (tRoot (l.take (halfN l.length))).1)] := by
  rw [pathOf, dif_neg (by omega)]

theorem pathOf_sides : ∀ (n : Nat) (l : List By) (i : Nat), l.length ≤ n → (pathOf l i).map (·.1) = turnsN l.length i := by
  intro n
  induction n with
  | zero => intro l i h; rw [pathOf_one (by omega), turnsN_one (by omega)]; rfl
  | succ n ih =>
    intro l i h
    rcases Nat.lt_or_ge l.length 2 with h2 | h2
    · rw [pathOf_one (by omega), turnsN_one (by omega)]; rfl
    · have hk1 := halfN_pos l.length
      have hk2 := halfN_lt h2
      rw [pathOf_two h2, turnsN_two h2]
      split
      · rw [List.map_append, ih _ _ (by simp only [List.length_take]; omega)]
        simp only [List.length_take, List.map_cons, List.map_nil]
        rw [Nat.min_eq_left (by omega)]
      · rw [List.map_append, ih _ _ (by simp only [List.length_drop]; omega)]
        simp only [List.length_drop, List.map_cons, List.map_nil]

/-- One step up. -/
def up1 (now : By) (st : Bool × By) : By × Int := if st.1 then tNode st.2 now else tNode now st.2

/-- The way up: from a seal, by sides that are due and steps. -/
def climb : By → List Bool → List (Bool × By) → By × Int
  | now, b :: bs, st :: r => if st.1 ≠ b then ([], 7) else if (up1 now st).2 ≠ 0 then ([], (up1 now st).2) else climb (up1 now st).1 bs r
  | now, _, _ => (now, 0)

theorem climb_append : ∀ (bs : List Bool) (now : By) (r : List (Bool × By)) (cs : List Bool) (q : List (Bool × By)), bs.length = r.length →
    climb now (bs ++ cs) (r ++ q) = if (climb now bs r).2 ≠ 0 then ([], (climb now bs r).2) else climb (climb now bs r).1 cs q
  | [], now, [], cs, q, _ => by simp [climb]
  | b :: bs, now, st :: r, cs, q, h => by
    simp only [List.cons_append, climb]
    split
    · simp
    · split
      · simp
      · exact climb_append bs _ r cs q (by simpa using h)
  | [], _, _ :: _, _, _, h => by simp at h
  | _ :: _, _, [], _, _, h => by simp at h

/-- THE WAY UP ENDS AT THE LIST's SEAL ONLY FROM THE TEXT THAT STANDS THERE, BY THE STEPS THAT STAND THERE. -/
theorem climb_iff : ∀ (n : Nat) (l : List By) (i : Nat) (now : By) (steps : List (Bool × By)), l.length ≤ n → (tRoot l).2 = 0 → (hi : i < l.length) → steps.length = (turnsN l.length i).length →
    (climb now (turnsN l.length i) steps = ((tRoot l).1, 0) ↔ tLeaf l[i] = (now, 0) ∧ steps = pathOf l i) := by
  intro n
  induction n with
  | zero => intro l i now steps h _ hi; omega
  | succ n ih =>
    intro l i now steps hn hr hi hlen
    rcases Nat.lt_or_ge l.length 2 with h2 | h2
    · obtain ⟨s, rfl⟩ := List.length_eq_one_iff.1 (show l.length = 1 by omega)
      have hi0 : i = 0 := by simpa using hi
      subst hi0
      rw [turnsN_one (by simp)] at hlen ⊢
      obtain rfl : steps = [] := List.eq_nil_of_length_eq_zero hlen
      rw [tRoot_one rfl] at hr ⊢
      rw [pathOf_one (by simp)]
      simp only [List.headD_cons] at hr
      simp only [climb, List.headD_cons, List.getElem_cons_zero, and_true, Prod.mk.injEq]
      constructor
      · rintro rfl; exact Prod.ext rfl hr
      · intro h; rw [h]
    · have hk1 := halfN_pos l.length
      have hk2 := halfN_lt h2
      obtain ⟨r1, r2, r3⟩ := tRoot_split hr h2
      have lt1 : (l.take (halfN l.length)).length = halfN l.length := by simp only [List.length_take]; omega
      have ld1 : (l.drop (halfN l.length)).length = l.length - halfN l.length := by simp only [List.length_drop]
      rw [turnsN_two h2] at hlen ⊢
      rw [pathOf_two h2]
      by_cases hk : i < halfN l.length
      · rw [if_pos hk] at hlen ⊢
        rw [if_pos hk]
        have hne : steps ≠ [] := by rintro rfl; simp at hlen
        obtain ⟨st, last, rfl⟩ : ∃ st last, steps = st ++ [last] := ⟨steps.dropLast, steps.getLast hne, (List.dropLast_concat_getLast hne).symm⟩
        have hl2 : (turnsN (halfN l.length) i).length = st.length := by simpa using hlen.symm
        have IH := ih (l.take (halfN l.length)) i now st (by omega) r1 (by omega) (by rw [lt1]; exact hl2.symm)
        rw [climb_append _ _ _ _ _ hl2]
        have hg : (l.take (halfN l.length))[i]'(by omega) = l[i] := by simp
        rw [hg, lt1] at IH
        obtain ⟨lb, ls⟩ := last
        constructor
        · intro h
          split at h
          · rename_i h1; rw [Prod.mk.injEq] at h; exact absurd h.2 h1
          · rename_i h1
            have h1 : (climb now (turnsN (halfN l.length) i) st).2 = 0 := by simpa using h1
            simp only [climb] at h
            split at h
            · rw [Prod.mk.injEq] at h; exact absurd h.2 (by decide)
            · rename_i h3
              have h3 : lb = false := by simpa using h3
              subst h3
              split at h
              · rename_i h4; rw [Prod.mk.injEq] at h; exact absurd h.2 h4
              · rename_i h4
                have h4 : (up1 (climb now (turnsN (halfN l.length) i) st).1 (false, ls)).2 = 0 := by simpa using h4
                have h5 : tNode (climb now (turnsN (halfN l.length) i) st).1 ls = ((tRoot l).1, 0) := by
                  rw [← h]; exact Prod.ext rfl h4
                obtain ⟨g1, g2⟩ := tNode_inj h5 r3
                obtain ⟨g3, g4⟩ := IH.1 (by rw [← g1]; exact Prod.ext rfl h1)
                exact ⟨g3, by rw [g4, g2]⟩
        · rintro ⟨h1, h3⟩
          obtain ⟨h4, h5⟩ := List.append_inj' h3 rfl
          have h6 := IH.2 ⟨h1, h4⟩
          rw [h6]
          have h5 : (lb, ls) = (false, (tRoot (l.drop (halfN l.length))).1) := by simpa using h5
          rw [h5]
          simp only [climb, up1]
          rw [if_neg (by simp), if_neg (by simp)]
          simp only [Bool.false_eq_true, if_false]
          rw [r3]; simp
      · rw [if_neg hk] at hlen ⊢
        rw [if_neg hk]
        have hne : steps ≠ [] := by rintro rfl; simp at hlen
        obtain ⟨st, last, rfl⟩ : ∃ st last, steps = st ++ [last] := ⟨steps.dropLast, steps.getLast hne, (List.dropLast_concat_getLast hne).symm⟩
        have hl2 : (turnsN (l.length - halfN l.length) (i - halfN l.length)).length = st.length := by simpa using hlen.symm
        have IH := ih (l.drop (halfN l.length)) (i - halfN l.length) now st (by omega) r2 (by omega) (by rw [ld1]; exact hl2.symm)
        rw [climb_append _ _ _ _ _ hl2]
        have hg : (l.drop (halfN l.length))[i - halfN l.length]'(by omega) = l[i] := by
          rw [List.getElem_drop]; congr 1; omega
        rw [hg, ld1] at IH
        obtain ⟨lb, ls⟩ := last
        constructor
        · intro h
          split at h
          · rename_i h1; rw [Prod.mk.injEq] at h; exact absurd h.2 h1
          · rename_i h1
            have h1 : (climb now (turnsN (l.length - halfN l.length) (i - halfN l.length)) st).2 = 0 := by simpa using h1
            simp only [climb] at h
            split at h
            · rw [Prod.mk.injEq] at h; exact absurd h.2 (by decide)
            · rename_i h3
              have h3 : lb = true := by simpa using h3
              subst h3
              split at h
              · rename_i h4; rw [Prod.mk.injEq] at h; exact absurd h.2 h4
              · rename_i h4
                have h4 : (up1 (climb now (turnsN (l.length - halfN l.length) (i - halfN l.length)) st).1 (true, ls)).2 = 0 := by simpa using h4
                have h5 : tNode ls (climb now (turnsN (l.length - halfN l.length) (i - halfN l.length)) st).1 = ((tRoot l).1, 0) := by
                  rw [← h]; exact Prod.ext rfl h4
                obtain ⟨g1, g2⟩ := tNode_inj h5 r3
                obtain ⟨g3, g4⟩ := IH.1 (by rw [← g2]; exact Prod.ext rfl h1)
                exact ⟨g3, by rw [g4, g1]⟩
        · rintro ⟨h1, h3⟩
          obtain ⟨h4, h5⟩ := List.append_inj' h3 rfl
          have h6 := IH.2 ⟨h1, h4⟩
          rw [h6]
          have h5 : (lb, ls) = (true, (tRoot (l.take (halfN l.length))).1) := by simpa using h5
          rw [h5]
          simp only [climb, up1]
          rw [if_neg (by simp), if_neg (by simp)]
          simp only [if_true]
          rw [r3]; simp

/-- Do steps show that a text stands at a place of a list of so many whose seal this is? -/
def pathShows (root : By) (n i : Int) (text : By) (steps : List (Bool × By)) : Int :=
  if n < 1 ∨ 24 < n then 3 else if i < 0 ∨ n ≤ i then 5
  else if (turnsN n.toNat i.toNat).length ≠ steps.length then 7
  else if (tLeaf text).2 ≠ 0 then (tLeaf text).2
  else if (climb (tLeaf text).1 (turnsN n.toNat i.toNat) steps).2 ≠ 0 then (climb (tLeaf text).1 (turnsN n.toNat i.toNat) steps).2
  else if (climb (tLeaf text).1 (turnsN n.toNat i.toNat) steps).1 ≠ root then 7 else 0

theorem tLeaf_get : ∀ (n : Nat) (l : List By) (i : Nat), l.length ≤ n → (tRoot l).2 = 0 → (hi : i < l.length) → (tLeaf l[i]).2 = 0 := by
  intro n
  induction n with
  | zero => intro l i h _ hi; omega
  | succ n ih =>
    intro l i hn hr hi
    rcases Nat.lt_or_ge l.length 2 with h2 | h2
    · obtain ⟨s, rfl⟩ := List.length_eq_one_iff.1 (show l.length = 1 by omega)
      have hi0 : i = 0 := by simpa using hi
      subst hi0
      rw [tRoot_one rfl] at hr
      exact hr
    · have hk1 := halfN_pos l.length
      have hk2 := halfN_lt h2
      obtain ⟨r1, r2, _⟩ := tRoot_split hr h2
      by_cases hk : i < halfN l.length
      · have := ih (l.take (halfN l.length)) i (by simp only [List.length_take]; omega) r1 (by simp only [List.length_take]; omega)
        simpa using this
      · have := ih (l.drop (halfN l.length)) (i - halfN l.length) (by simp only [List.length_drop]; omega) r2 (by simp only [List.length_drop]; omega)
        rw [List.getElem_drop] at this
        have e : halfN l.length + (i - halfN l.length) = i := by omega
        simpa [e] using this

/-- WHAT IS SHOWN IS SO, AND WHAT IS SO IS SHOWN, BY ONE PATH ALONE. -/
theorem pathShows_iff {l : List By} {i : Nat} (hl : l.length ≤ 24) (hr : (tRoot l).2 = 0) (hi : i < l.length) (text : By) (steps : List (Bool × By)) :
    pathShows (tRoot l).1 l.length i text steps = 0 ↔ text = l[i] ∧ steps = pathOf l i := by
  unfold pathShows
  rw [if_neg (by omega), if_neg (by omega), Int.toNat_natCast, Int.toNat_natCast]
  have hp := congrArg List.length (pathOf_sides _ l i (Nat.le_refl _))
  rw [List.length_map] at hp
  have hg := tLeaf_get _ l i (Nat.le_refl _) hr hi
  constructor
  · intro h
    split at h
    · cases h
    · rename_i h1
      have h1 : (turnsN l.length i).length = steps.length := by simpa using h1
      split at h
      · rename_i h2; exact absurd h h2
      · rename_i h2
        have h2 : (tLeaf text).2 = 0 := by simpa using h2
        split at h
        · rename_i h3; exact absurd h h3
        · rename_i h3
          have h3 : (climb (tLeaf text).1 (turnsN l.length i) steps).2 = 0 := by simpa using h3
          split at h
          · cases h
          · rename_i h4
            have h4 : (climb (tLeaf text).1 (turnsN l.length i) steps).1 = (tRoot l).1 := by simpa using h4
            obtain ⟨g1, g2⟩ := (climb_iff _ l i (tLeaf text).1 steps (Nat.le_refl _) hr hi h1.symm).1 (Prod.ext h4 h3)
            exact ⟨tLeaf_inj (x := (tLeaf text).1) (Prod.ext rfl h2) g1, g2⟩
  · rintro ⟨rfl, rfl⟩
    have := (climb_iff _ l i (tLeaf l[i]).1 (pathOf l i) (Nat.le_refl _) hr hi hp).2 ⟨Prod.ext rfl hg, rfl⟩
    rw [this, if_neg (by omega), if_neg (by omega), if_neg (by simp), if_neg (by simp)]

/-- What a way up says, held against what it should come to. -/
def fin7 (all : By) (r : By × Int) : Int := if r.2 ≠ 0 then r.2 else if r.1 ≠ all then 7 else 0

theorem fin7_err {all : By} {c : Int} (h : c ≠ 0) : fin7 all ([], c) = c := by unfold fin7; rw [if_pos h]
theorem fin7_end {all now : By} : fin7 all (now, 0) = if now ≠ all then 7 else 0 := by unfold fin7; rw [if_neg (by simp)]
end Go.Gs

namespace Go.Gs

theorem halfN_between {m n : Nat} (h : halfN n < m) (h2 : m ≤ n) (h3 : n ≤ 32) : halfN m = halfN n := by
  have := halfN_spec n
  have := halfN_spec m
  omega

/-- The seal of a beginning is good where the list's is, and no longer. -/
theorem tRoot_begin : ∀ (n : Nat) (l : List By) (m : Nat), l.length ≤ n → n ≤ 24 → (tRoot l).2 = 0 → 1 ≤ m → m ≤ l.length → (tRoot (l.take m)).2 = 0 ∧ (tRoot (l.take m)).1.length ≤ (tRoot l).1.length := by
  intro n
  induction n with
  | zero => intro l m h _ _ h1 h2; omega
  | succ n ih =>
    intro l m hn hb hr h1 hm
    by_cases hml : m = l.length
    · subst hml; rw [List.take_length]; exact ⟨hr, Nat.le_refl _⟩
    · have h2 : 2 ≤ l.length := by omega
      have hk1 := halfN_pos l.length
      have hk2 := halfN_lt h2
      obtain ⟨r1, r2, r3⟩ := tRoot_split hr h2
      have r4 := tNode_ok (a := (tRoot (l.take (halfN l.length))).1) (b := (tRoot (l.drop (halfN l.length))).1) (by rw [r3])
      rw [r3] at r4
      have r4 : (tRoot l).1 = _ := r4
      have r5 : (tRoot (l.take (halfN l.length))).1.length + (tRoot (l.drop (halfN l.length))).1.length ≤ 20000 := by
        unfold tNode at r3
        split at r3
        · rw [Prod.mk.injEq] at r3; exact absurd r3.2 (by decide)
        · omega
      by_cases hk : m ≤ halfN l.length
      · have := ih (l.take (halfN l.length)) m (by simp only [List.length_take]; omega) (by omega) r1 h1 (by simp only [List.length_take]; omega)
        rw [List.take_take, Nat.min_eq_left hk] at this
        refine ⟨this.1, Nat.le_trans this.2 ?_⟩
        rw [r4]
        simp only [List.length_cons, List.length_append]; omega
      · have h3 := ih (l.drop (halfN l.length)) (m - halfN l.length) (by simp only [List.length_drop]; omega) (by omega) r2 (by omega) (by simp only [List.length_drop]; omega)
        have hhm : halfN m = halfN l.length := halfN_between (by omega) (by omega) (by omega)
        have hlm : (l.take m).length = m := by simp only [List.length_take]; omega
        have e1 : (l.take m).take (halfN l.length) = l.take (halfN l.length) := by rw [List.take_take, Nat.min_eq_left (by omega)]
        have e2 : (l.take m).drop (halfN l.length) = (l.drop (halfN l.length)).take (m - halfN l.length) := by rw [List.drop_take]
        have h4 := tRoot_two (l := l.take m) (by omega)
        rw [hlm, hhm, e1, e2, if_neg (by simpa using r1), if_neg (by simpa using h3.1)] at h4
        have h5 : tNode (tRoot (l.take (halfN l.length))).1 (tRoot ((l.drop (halfN l.length)).take (m - halfN l.length))).1 = (78 :: (Lib.itoa (tRoot (l.take (halfN l.length))).1.length ++ 58 :: ((tRoot (l.take (halfN l.length))).1 ++ (tRoot ((l.drop (halfN l.length)).take (m - halfN l.length))).1)), 0) := by
          unfold tNode; rw [if_neg (by have := h3.2; omega)]
        rw [h4, h5, r4]
        refine ⟨rfl, ?_⟩
        have := h3.2
        simp only [List.length_cons, List.length_append]; omega

/-- The seal of a beginning that goes beyond the first half. -/
theorem tRoot_beyond {l : List By} {m : Nat} (hl : l.length ≤ 24) (hr : (tRoot l).2 = 0) (h2 : 2 ≤ l.length) (hk : halfN l.length < m) (hm : m ≤ l.length) :
    (tRoot ((l.drop (halfN l.length)).take (m - halfN l.length))).2 = 0 ∧
      tNode (tRoot (l.take (halfN l.length))).1 (tRoot ((l.drop (halfN l.length)).take (m - halfN l.length))).1 = ((tRoot (l.take m)).1, 0) := by
  have hk1 := halfN_pos l.length
  have hr2 := (tRoot_begin _ l m (Nat.le_refl _) hl hr (by omega) hm).1
  have hlm : (l.take m).length = m := by simp only [List.length_take]; omega
  have hhm : halfN m = halfN l.length := halfN_between (by omega) (by omega) (by omega)
  obtain ⟨_, g2, g3⟩ := tRoot_split hr2 (by omega)
  rw [hlm, hhm] at g2 g3
  have e1 : (l.take m).take (halfN l.length) = l.take (halfN l.length) := by rw [List.take_take, Nat.min_eq_left (by omega)]
  have e2 : (l.take m).drop (halfN l.length) = (l.drop (halfN l.length)).take (m - halfN l.length) := by rw [List.drop_take]
  rw [e2] at g2 g3
  rw [e1] at g3
  exact ⟨g2, g3⟩

/-- The seals that show that a list goes on behind its first m. -/
def growOf (l : List By) (m : Nat) (known : Bool) : List By :=
  if _h : l.length ≤ m ∨ l.length ≤ 1 then (if known then [] else [(tRoot l).1]) else
    if m ≤ halfN l.length then growOf (l.take (halfN l.length)) m known ++ [(tRoot (l.drop (halfN l.length))).1]
    else growOf (l.drop (halfN l.length)) (m - halfN l.length) false ++ [(tRoot (l.take (halfN l.length))).1]
  termination_by l.length
  decreasing_by
  all_goals
    have := halfN_pos l.length
    have := halfN_lt (n := l.length) (by omega)
    simp only [List.length_take, List.length_drop]
    omega

theorem growOf_all {l : List By} {known : Bool} : growOf l l.length known = if known then [] else [(tRoot l).1] := by rw [growOf, dif_pos (.inl (Nat.le_refl _))]
theorem growOf_less {l : List By} {m : Nat} {known : Bool} (h1 : 1 ≤ m) (h : m < l.length) : growOf l m known =
    if m ≤ halfN l.length then growOf (l.take (halfN l.length)) m known ++ [(tRoot (l.drop (halfN l.length))).1]
    else growOf (l.drop (halfN l.length)) (m - halfN l.length) false ++ [(tRoot (l.take (halfN l.length))).1] := by
  rw [growOf, dif_neg (by omega)]

/-- One who takes seals, the last one first. -/
abbrev Sh := List By × Bool
def lastS (s : Sh) : By × Sh := if s.1 = [] then ([], s.1, true) else (s.1.getLastD [], s.1.dropLast, s.2)
def nodeS (a b : By) (s : Sh) : By × Sh := ((tNode a b).1, s.1, s.2 || (tNode a b).2 != 0)

/-- Both seals, of the first m, and of all n. -/
def bothS (m n : Nat) (old : By) (known : Bool) (s : Sh) : By × By × Sh :=
  if _h : n ≤ m ∨ n ≤ 1 then (if known then (old, old, s) else ((lastS s).1, (lastS s).1, (lastS s).2)) else
    if m ≤ halfN n then
      let r := bothS m (halfN n) old known (lastS s).2
      (r.1, nodeS r.2.1 (lastS s).1 r.2.2)
    else
      let r := bothS (m - halfN n) (n - halfN n) old false (lastS s).2
      let x := nodeS (lastS s).1 r.1 r.2.2
      (x.1, nodeS (lastS s).1 r.2.1 x.2)
  termination_by n
  decreasing_by
  all_goals
    have := halfN_pos n
    have := halfN_lt (n := n) (by omega)
    omega

theorem bothS_all {n : Nat} {old : By} {known : Bool} {s : Sh} : bothS n n old known s = if known then (old, old, s) else ((lastS s).1, (lastS s).1, (lastS s).2) := by rw [bothS, dif_pos (.inl (Nat.le_refl _))]
theorem bothS_less {m n : Nat} {old : By} {known : Bool} {s : Sh} (h1 : 1 ≤ m) (h : m < n) : bothS m n old known s =
    if m ≤ halfN n then
      ((bothS m (halfN n) old known (lastS s).2).1, nodeS (bothS m (halfN n) old known (lastS s).2).2.1 (lastS s).1 (bothS m (halfN n) old known (lastS s).2).2.2)
    else
      ((nodeS (lastS s).1 (bothS (m - halfN n) (n - halfN n) old false (lastS s).2).1 (bothS (m - halfN n) (n - halfN n) old false (lastS s).2).2.2).1,
        nodeS (lastS s).1 (bothS (m - halfN n) (n - halfN n) old false (lastS s).2).2.1 (nodeS (lastS s).1 (bothS (m - halfN n) (n - halfN n) old false (lastS s).2).1 (bothS (m - halfN n) (n - halfN n) old false (lastS s).2).2.2).2) := by
  rw [bothS, dif_neg (by omega)]

theorem lastS_good {s : Sh} (h : (lastS s).2.2 = false) : s.2 = false ∧ s.1 = (lastS s).2.1 ++ [(lastS s).1] := by
  unfold lastS at h ⊢
  split
  · rename_i hc; rw [if_pos hc] at h; cases h
  · rename_i hc
    rw [if_neg hc] at h
    refine ⟨h, ?_⟩
    simp only
    have : s.1.getLastD [] = s.1.getLast hc := by rw [List.getLastD_eq_getLast?, List.getLast?_eq_some_getLast hc]; rfl
    rw [this, List.dropLast_concat_getLast]

theorem lastS_mk (r : List By) (x : By) (b : Bool) : lastS (r ++ [x], b) = (x, r, b) := by
  unfold lastS
  rw [if_neg (by simp)]
  simp

theorem bothS_bad : ∀ (N m n : Nat) (old : By) (known : Bool) (s : Sh), n ≤ N → 1 ≤ m → m ≤ n → (bothS m n old known s).2.2.2 = false → s.2 = false := by
  intro N
  induction N with
  | zero => intro m n old known s h h1 h2; omega
  | succ N ih =>
    intro m n old known s hn h1 h2 h
    by_cases hmn : m = n
    · subst hmn
      rw [bothS_all] at h
      split at h
      · exact h
      · exact (lastS_good h).1
    · have hk1 := halfN_pos n
      have hk2 := halfN_lt (n := n) (by omega)
      rw [bothS_less h1 (by omega)] at h
      split at h
      · rename_i hk
        simp only [nodeS, Bool.or_eq_false_iff] at h
        exact (lastS_good (ih _ _ _ _ _ (by omega) h1 (by omega) h.1)).1
      · rename_i hk
        simp only [nodeS, Bool.or_eq_false_iff] at h
        exact (lastS_good (ih _ _ _ _ _ (by omega) (by omega) (by omega) h.1.1)).1

/-- WHAT SEALS SHOW IS SO, AND JUST THESE SEALS SHOW IT. -/
theorem bothS_only : ∀ (N : Nat) (l : List By) (m : Nat) (old : By) (known : Bool) (s : Sh) (rest : List By), l.length ≤ N → l.length ≤ 24 → (tRoot l).2 = 0 → 1 ≤ m → m ≤ l.length →
    (bothS m l.length old known s).2.2 = (rest, false) → (bothS m l.length old known s).2.1 = (tRoot l).1 →
      s.2 = false ∧ s.1 = rest ++ growOf l m known ∧ (bothS m l.length old known s) = ((tRoot (l.take m)).1, (tRoot l).1, rest, false) := by
  intro N
  induction N with
  | zero => intro l m old known s rest h _ _ h1 h2; omega
  | succ N ih =>
    intro l m old known s rest hN hl hr h1 hm
    by_cases hml : m = l.length
    · subst hml
      rw [bothS_all, growOf_all, List.take_length]
      cases known with
      | true =>
        simp only [if_true, List.append_nil, Prod.mk.injEq]
        intro h3 h4
        rw [h3]; exact ⟨rfl, rfl, h4, h4, rfl⟩
      | false =>
        simp only [Bool.false_eq_true, if_false, Prod.mk.injEq]
        intro h3 h4
        obtain ⟨g1, g2⟩ := lastS_good (s := s) (by rw [h3])
        rw [h3, h4] at g2
        exact ⟨g1, g2, h4, h4, h3⟩
    · have h2 : 2 ≤ l.length := by omega
      have hk1 := halfN_pos l.length
      have hk2 := halfN_lt h2
      obtain ⟨r1, r2, r3⟩ := tRoot_split hr h2
      have lt1 : (l.take (halfN l.length)).length = halfN l.length := by simp only [List.length_take]; omega
      have ld1 : (l.drop (halfN l.length)).length = l.length - halfN l.length := by simp only [List.length_drop]
      intro h3 h4
      · have hb := bothS_bad _ m l.length old known s (Nat.le_refl _) h1 hm (by rw [h3])
        rw [bothS_less h1 (by omega)] at h3 h4 ⊢
        rw [growOf_less h1 (by omega)]
        by_cases hk : m ≤ halfN l.length
        · rw [if_pos hk] at h3 h4 ⊢
          rw [if_pos hk]
          simp only [nodeS, Prod.mk.injEq, Bool.or_eq_false_iff, bne_eq_false_iff_eq] at h3 h4
          have h5 : tNode (bothS m (halfN l.length) old known (lastS s).2).2.1 (lastS s).1 = ((tRoot l).1, 0) := Prod.ext h4 h3.2.2
          obtain ⟨g1, g2⟩ := tNode_inj h5 r3
          have IH := ih (l.take (halfN l.length)) m old known (lastS s).2 rest (by omega) (by omega) r1 h1 (by omega)
          rw [lt1, List.take_take, Nat.min_eq_left hk] at IH
          obtain ⟨i1, i2, i3⟩ := IH (Prod.ext h3.1 h3.2.1) g1
          have hls := lastS_good (s := s) i1
          refine ⟨hb, ?_, ?_⟩
          · rw [hls.2, i2, g2, List.append_assoc]
          · rw [i3, g2]
            simp only [nodeS, r3]
            simp
        · rw [if_neg hk] at h3 h4 ⊢
          rw [if_neg hk]
          simp only [nodeS, Prod.mk.injEq, Bool.or_eq_false_iff, bne_eq_false_iff_eq] at h3 h4
          have h5 : tNode (lastS s).1 (bothS (m - halfN l.length) (l.length - halfN l.length) old false (lastS s).2).2.1 = ((tRoot l).1, 0) := Prod.ext h4 h3.2.2
          obtain ⟨g1, g2⟩ := tNode_inj h5 r3
          have IH := ih (l.drop (halfN l.length)) (m - halfN l.length) old false (lastS s).2 rest (by omega) (by omega) r2 (by omega) (by omega)
          rw [ld1] at IH
          obtain ⟨i1, i2, i3⟩ := IH (Prod.ext h3.1 h3.2.1.1) g2
          have hls := lastS_good (s := s) i1
          obtain ⟨b1, b2⟩ := tRoot_beyond hl hr h2 (by omega) hm
          refine ⟨hb, ?_, ?_⟩
          · rw [hls.2, i2, g1, List.append_assoc]
          · rw [i3, g1]
            simp only [nodeS, r3, b2]
            simp

theorem bothS_shows : ∀ (N : Nat) (l : List By) (m : Nat) (old : By) (known : Bool) (rest : List By), l.length ≤ N → l.length ≤ 24 → (tRoot l).2 = 0 → 1 ≤ m → m ≤ l.length → (known = true → old = (tRoot (l.take m)).1) →
    bothS m l.length old known (rest ++ growOf l m known, false) = ((tRoot (l.take m)).1, (tRoot l).1, rest, false) := by
  intro N
  induction N with
  | zero => intro l m old known rest h _ _ h1 h2; omega
  | succ N ih =>
    intro l m old known rest hN hl hr h1 hm hold
    by_cases hml : m = l.length
    · subst hml
      rw [bothS_all, growOf_all]
      cases known with
      | true =>
        have := hold rfl
        rw [this]
        simp [List.take_length]
      | false =>
        simp only [Bool.false_eq_true, if_false, List.take_length]
        rw [lastS_mk]
    · have h2 : 2 ≤ l.length := by omega
      have hk1 := halfN_pos l.length
      have hk2 := halfN_lt h2
      obtain ⟨r1, r2, r3⟩ := tRoot_split hr h2
      have lt1 : (l.take (halfN l.length)).length = halfN l.length := by simp only [List.length_take]; omega
      have ld1 : (l.drop (halfN l.length)).length = l.length - halfN l.length := by simp only [List.length_drop]
      rw [bothS_less h1 (by omega), growOf_less h1 (by omega)]
      by_cases hk : m ≤ halfN l.length
      · rw [if_pos hk, if_pos hk, ← List.append_assoc, lastS_mk]
        have IH := ih (l.take (halfN l.length)) m old known rest (by omega) (by omega) r1 h1 (by omega) (by rw [List.take_take, Nat.min_eq_left hk]; exact hold)
        rw [lt1, List.take_take, Nat.min_eq_left hk] at IH
        simp only
        rw [IH]
        simp only [nodeS, r3]
        simp
      · rw [if_neg hk, if_neg hk, ← List.append_assoc, lastS_mk]
        have IH := ih (l.drop (halfN l.length)) (m - halfN l.length) old false rest (by omega) (by omega) r2 (by omega) (by omega) (fun h => by cases h)
        rw [ld1] at IH
        obtain ⟨b1, b2⟩ := tRoot_beyond hl hr h2 (by omega) hm
        simp only
        rw [IH]
        simp only [nodeS, r3, b2]
        simp

/-- Do seals show that a list of n whose seal is root goes on where one of m ended whose seal is old? -/
def growShows (old : By) (m : Int) (root : By) (n : Int) (l : List By) : Int :=
  if m < 1 ∨ n < m ∨ 24 < n then 3
  else if (bothS m.toNat n.toNat old true (l, false)).2.2.2 = true ∨ (bothS m.toNat n.toNat old true (l, false)).2.2.1 ≠ [] ∨ (bothS m.toNat n.toNat old true (l, false)).1 ≠ old ∨ (bothS m.toNat n.toNat old true (l, false)).2.1 ≠ root then 7 else 0

theorem growShows_iff {l : List By} {m : Nat} (hl : l.length ≤ 24) (hr : (tRoot l).2 = 0) (h1 : 1 ≤ m) (hm : m ≤ l.length) (old : By) (seals : List By) :
    growShows old m (tRoot l).1 l.length seals = 0 ↔ old = (tRoot (l.take m)).1 ∧ seals = growOf l m true := by
  unfold growShows
  rw [if_neg (by omega), Int.toNat_natCast, Int.toNat_natCast]
  constructor
  · intro h
    split at h
    · cases h
    · rename_i h2
      simp only [not_or, Bool.not_eq_true, ne_eq, Decidable.not_not] at h2
      obtain ⟨e1, e2, e3, e4⟩ := h2
      obtain ⟨_, g2, g3⟩ := bothS_only _ l m old true (seals, false) [] (Nat.le_refl _) hl hr h1 hm (Prod.ext e2 e1) e4
      rw [g3] at e3
      exact ⟨e3.symm, by simpa using g2⟩
  · rintro ⟨e1, rfl⟩
    have := bothS_shows _ l m old true [] (Nat.le_refl _) hl hr h1 hm (fun _ => e1)
    rw [List.nil_append] at this
    rw [this, if_neg]
    simp [e1]
end Go.Gs

namespace Go.Gs

/-- The seal of one key. -/
def tV : Option By → By × Int
  | some s => tLeaf s
  | none => ([69], 0)

theorem tV_inj {a b : Option By} {x : By} (h : tV a = (x, 0)) (k : tV b = (x, 0)) : a = b := by
  cases a with
  | none =>
    cases b with
    | none => rfl
    | some t =>
      have := tLeaf_ok (s := t) (by rw [show tLeaf t = (x, 0) from k])
      rw [show tLeaf t = (x, 0) from k] at this
      have h : ([69] : By) = x := (Prod.mk.injEq _ _ _ _ ▸ h).1
      rw [← h] at this
      simp at this
  | some s =>
    cases b with
    | none =>
      have := tLeaf_ok (s := s) (by rw [show tLeaf s = (x, 0) from h])
      rw [show tLeaf s = (x, 0) from h] at this
      have k : ([69] : By) = x := (Prod.mk.injEq _ _ _ _ ▸ k).1
      rw [← k] at this
      simp at this
    | some t => rw [tLeaf_inj h k]

/-- The seal of the 2^d keys from one on. -/
def tTrie (f : Nat → Option By) : Nat → Nat → By × Int
  | 0, i => tV (f i)
  | d + 1, i =>
    if (tTrie f d i).2 ≠ 0 then ([], (tTrie f d i).2)
    else if (tTrie f d (i + 2 ^ d)).2 ≠ 0 then ([], (tTrie f d (i + 2 ^ d)).2)
    else tNode (tTrie f d i).1 (tTrie f d (i + 2 ^ d)).1

/-- No value is too long. -/
def GoodV (f : Nat → Option By) : Prop := ∀ k v, f k = some v → v.length ≤ 12

def bnd : Nat → Nat
  | 0 => 13
  | d + 1 => 3 * bnd d + 3

theorem tTrie_good {f : Nat → Option By} (hf : GoodV f) : ∀ (d i : Nat), d ≤ 4 → (tTrie f d i).2 = 0 ∧ (tTrie f d i).1.length ≤ bnd d
  | 0, i, _ => by
    unfold tTrie
    cases h : f i with
    | none => exact ⟨rfl, by simp [tV, bnd]⟩
    | some v =>
      have := hf i v h
      simp only [tV, tLeaf, bnd]
      rw [if_neg (by omega)]
      exact ⟨rfl, by simp; omega⟩
  | d + 1, i, hd => by
    obtain ⟨a1, a2⟩ := tTrie_good hf d i (by omega)
    obtain ⟨b1, b2⟩ := tTrie_good hf d (i + 2 ^ d) (by omega)
    have hb : bnd d ≤ 1173 := by
      have : d = 0 ∨ d = 1 ∨ d = 2 ∨ d = 3 := by omega
      rcases this with rfl | rfl | rfl | rfl <;> decide
    have := itoa_len (tTrie f d i).1.length
    rw [tTrie, if_neg (by simpa using a1), if_neg (by simpa using b1)]
    unfold tNode
    rw [if_neg (by omega)]
    refine ⟨rfl, ?_⟩
    simp only [List.length_cons, List.length_append, bnd]
    omega

theorem tTrie_node {f : Nat → Option By} (hf : GoodV f) {d i : Nat} (hd : d + 1 ≤ 4) : tNode (tTrie f d i).1 (tTrie f d (i + 2 ^ d)).1 = ((tTrie f (d + 1) i).1, 0) := by
  have h := tTrie_good hf (d + 1) i hd
  have a := tTrie_good hf d i (by omega)
  have b := tTrie_good hf d (i + 2 ^ d) (by omega)
  have : tTrie f (d + 1) i = tNode (tTrie f d i).1 (tTrie f d (i + 2 ^ d)).1 := by
    rw [tTrie, if_neg (by simpa using a.1), if_neg (by simpa using b.1)]
  rw [← this]
  exact Prod.ext rfl h.1

theorem tTrie_inj {f g : Nat → Option By} (hf : GoodV f) (hg : GoodV g) : ∀ (d i : Nat), d ≤ 4 → (tTrie f d i).1 = (tTrie g d i).1 → ∀ k, i ≤ k → k < i + 2 ^ d → f k = g k
  | 0, i, _, h, k, h1, h2 => by
    obtain rfl : k = i := by simp at h2; omega
    have a := tTrie_good hf 0 k (by omega)
    have b := tTrie_good hg 0 k (by omega)
    exact tV_inj (x := (tTrie f 0 k).1) (Prod.ext rfl a.1) (Prod.ext h.symm b.1)
  | d + 1, i, hd, h, k, h1, h2 => by
    have a := tTrie_node hf (d := d) (i := i) hd
    have b := tTrie_node hg (d := d) (i := i) hd
    rw [← h] at b
    obtain ⟨e1, e2⟩ := tNode_inj a b
    rcases Nat.lt_or_ge k (i + 2 ^ d) with hk | hk
    · exact tTrie_inj hf hg d i (by omega) e1 k h1 hk
    · exact tTrie_inj hf hg d (i + 2 ^ d) (by omega) e2 k hk (by rw [Nat.pow_succ] at h2; omega)

theorem tTrie_same {f g : Nat → Option By} : ∀ (d i : Nat), (∀ k, i ≤ k → k < i + 2 ^ d → f k = g k) → tTrie f d i = tTrie g d i
  | 0, i, h => by rw [tTrie, tTrie, h i (Nat.le_refl _) (by simp)]
  | d + 1, i, h => by
    have e : (2 : Nat) ^ (d + 1) = 2 ^ d + 2 ^ d := by rw [Nat.pow_succ]; omega
    have h1 := tTrie_same d i fun k h1 h2 => h k h1 (by omega)
    have h2 := tTrie_same d (i + 2 ^ d) fun k h1 h2 => h k (by omega) (by omega)
    rw [tTrie, tTrie, h1, h2]

/-- Where the 2^d keys begin among which a key is; where those beside begin. -/
def base (d key : Nat) : Nat := key / 2 ^ d * 2 ^ d
def sib (d key : Nat) : Nat := if key / 2 ^ d % 2 = 1 then base d key - 2 ^ d else base d key + 2 ^ d
def bitOf (key d : Nat) : Bool := key / 2 ^ d % 2 == 1
def bitsOf (key d : Nat) : List Bool := (List.range d).map (bitOf key)
def triePath (f : Nat → Option By) (key d : Nat) : List By := (List.range d).map fun k => (tTrie f k (sib k key)).1

theorem bitsOf_succ (key d : Nat) : bitsOf key (d + 1) = bitsOf key d ++ [bitOf key d] := by simp [bitsOf, List.range_succ]
theorem triePath_succ (f : Nat → Option By) (key d : Nat) : triePath f key (d + 1) = triePath f key d ++ [(tTrie f d (sib d key)).1] := by simp [triePath, List.range_succ]
theorem bitsOf_len (key d : Nat) : (bitsOf key d).length = d := by simp [bitsOf]
theorem triePath_len (f : Nat → Option By) (key d : Nat) : (triePath f key d).length = d := by simp [triePath]

theorem base_succ (d key : Nat) : (bitOf key d = true → base d key = base (d + 1) key + 2 ^ d ∧ sib d key = base (d + 1) key) ∧ (bitOf key d = false → base d key = base (d + 1) key ∧ sib d key = base (d + 1) key + 2 ^ d) := by
  have hp : 0 < 2 ^ d := Nat.pos_of_ne_zero (by simp)
  have e : key / 2 ^ (d + 1) = key / 2 ^ d / 2 := by rw [Nat.pow_succ, Nat.div_div_eq_div_mul]
  have key2 : base (d + 1) key = (key / 2 ^ d / 2 * 2) * 2 ^ d := by
    unfold base; rw [e, Nat.pow_succ, Nat.mul_comm (2 ^ d) 2, Nat.mul_assoc]
  unfold bitOf sib
  rw [key2]
  unfold base
  constructor
  · intro h
    have h : key / 2 ^ d % 2 = 1 := by simpa using h
    rw [if_pos h]
    have h2 : key / 2 ^ d = key / 2 ^ d / 2 * 2 + 1 := by omega
    have h3 : key / 2 ^ d * 2 ^ d = key / 2 ^ d / 2 * 2 * 2 ^ d + 2 ^ d := by
      conv => lhs; rw [h2]
      rw [Nat.add_mul, Nat.one_mul]
    exact ⟨h3, by omega⟩
  · intro h
    have h : ¬ key / 2 ^ d % 2 = 1 := by simpa using h
    rw [if_neg h]
    have h2 : key / 2 ^ d = key / 2 ^ d / 2 * 2 := by omega
    have h3 : key / 2 ^ d * 2 ^ d = key / 2 ^ d / 2 * 2 * 2 ^ d := by
      conv => lhs; rw [h2]
    exact ⟨h3, by omega⟩

theorem trie_climb {f : Nat → Option By} (hf : GoodV f) (key : Nat) : ∀ (d : Nat) (now : By) (l : List By), d ≤ 4 → l.length = d →
    (climb now (bitsOf key d) (List.zip (bitsOf key d) l) = ((tTrie f d (base d key)).1, 0) ↔ tV (f key) = (now, 0) ∧ l = triePath f key d)
  | 0, now, l, _, hl => by
    obtain rfl : l = [] := List.eq_nil_of_length_eq_zero hl
    have h0 : base 0 key = key := by simp [base]
    have hg := (tTrie_good hf 0 key (by omega)).1
    rw [h0]
    simp only [bitsOf, List.range_zero, List.map_nil, List.zip_nil_left, climb, triePath, and_true, Prod.mk.injEq]
    constructor
    · rintro rfl; exact Prod.ext rfl hg
    · intro h; rw [tTrie, h]
  | d + 1, now, l, hd, hl => by
    have hne : l ≠ [] := by rintro rfl; simp at hl
    obtain ⟨st, last, rfl⟩ : ∃ st last, l = st ++ [last] := ⟨l.dropLast, l.getLast hne, (List.dropLast_concat_getLast hne).symm⟩
    have hsl : st.length = d := by simpa using hl
    have IH := trie_climb hf key d now st (by omega) hsl
    have hz : List.zip (bitsOf key d ++ [bitOf key d]) (st ++ [last]) = List.zip (bitsOf key d) st ++ [(bitOf key d, last)] := by
      rw [List.zip_append (by rw [bitsOf_len, hsl])]; rfl
    have hlen : (bitsOf key d).length = (List.zip (bitsOf key d) st).length := by rw [List.length_zip, bitsOf_len, hsl]; omega
    rw [bitsOf_succ, triePath_succ, hz, climb_append _ _ _ _ _ hlen]
    obtain ⟨b1, b2⟩ := base_succ d key
    have node : up1 (tTrie f d (base d key)).1 (bitOf key d, (tTrie f d (sib d key)).1) = ((tTrie f (d + 1) (base (d + 1) key)).1, 0) := by
      unfold up1
      cases hb : bitOf key d with
      | true =>
        obtain ⟨e1, e2⟩ := b1 hb
        rw [e1, e2]
        exact tTrie_node hf hd
      | false =>
        obtain ⟨e1, e2⟩ := b2 hb
        rw [e1, e2]
        exact tTrie_node hf hd
    constructor
    · intro h
      split at h
      · rename_i h1; rw [Prod.mk.injEq] at h; exact absurd h.2 h1
      · rename_i h1
        have h1 : (climb now (bitsOf key d) (List.zip (bitsOf key d) st)).2 = 0 := by simpa using h1
        simp only [climb] at h
        rw [if_neg (by simp)] at h
        split at h
        · rename_i h4; rw [Prod.mk.injEq] at h; exact absurd h.2 h4
        · rename_i h4
          have h4 : (up1 (climb now (bitsOf key d) (List.zip (bitsOf key d) st)).1 (bitOf key d, last)).2 = 0 := by simpa using h4
          have h5 : up1 (climb now (bitsOf key d) (List.zip (bitsOf key d) st)).1 (bitOf key d, last) = ((tTrie f (d + 1) (base (d + 1) key)).1, 0) := by
            rw [← h]; exact Prod.ext rfl h4
          have hh : (climb now (bitsOf key d) (List.zip (bitsOf key d) st)).1 = (tTrie f d (base d key)).1 ∧ last = (tTrie f d (sib d key)).1 := by
            unfold up1 at h5 node
            cases hb : bitOf key d with
            | true =>
              rw [hb] at h5 node
              obtain ⟨g1, g2⟩ := tNode_inj h5 node
              exact ⟨g2, g1⟩
            | false =>
              rw [hb] at h5 node
              obtain ⟨g1, g2⟩ := tNode_inj h5 node
              exact ⟨g1, g2⟩
          obtain ⟨g3, g4⟩ := IH.1 (Prod.ext hh.1 h1)
          exact ⟨g3, by rw [g4, hh.2]⟩
    · rintro ⟨h1, h3⟩
      obtain ⟨h4, h5⟩ := List.append_inj' h3 rfl
      have h6 := IH.2 ⟨h1, h4⟩
      rw [h6]
      have h5 : last = (tTrie f d (sib d key)).1 := by simpa using h5
      rw [h5]
      simp only [climb]
      rw [if_neg (by simp), if_neg (by simp), node]
      simp

/-- Do seals show that a key has a value (or none) where this is the seal of all? -/
def trieShows (all : By) (key : Int) (value : By) (there : Bool) (l : List By) : Int :=
  if key < 0 ∨ 16 ≤ key then 5 else if there = false ∧ value ≠ [] then 4 else if l.length ≠ 4 then 7
  else if (tV (if there then some value else none)).2 ≠ 0 then (tV (if there then some value else none)).2
  else if (climb (tV (if there then some value else none)).1 (bitsOf key.toNat 4) (List.zip (bitsOf key.toNat 4) l)).2 ≠ 0 then (climb (tV (if there then some value else none)).1 (bitsOf key.toNat 4) (List.zip (bitsOf key.toNat 4) l)).2
  else if (climb (tV (if there then some value else none)).1 (bitsOf key.toNat 4) (List.zip (bitsOf key.toNat 4) l)).1 ≠ all then 7 else 0

theorem trieShows_iff {f : Nat → Option By} (hf : GoodV f) {key : Nat} (hk : key < 16) (value : By) (there : Bool) (l : List By) :
    trieShows (tTrie f 4 0).1 key value there l = 0 ↔ (there = (f key).isSome ∧ value = (f key).getD [] ∧ l = triePath f key 4) := by
  have hb : base 4 key = 0 := by simp only [base]; omega
  have hc := fun now l => trie_climb hf key 4 now l (Nat.le_refl _)
  rw [hb] at hc
  have hg : (tV (f key)).2 = 0 := (tTrie_good hf 0 key (by omega)).1
  unfold trieShows
  rw [if_neg (by omega), Int.toNat_natCast]
  constructor
  · intro h
    generalize hs : tV (if there then some value else none) = s at h
    split at h
    · cases h
    · rename_i h0
      split at h
      · cases h
      · rename_i h1
        have h1 : l.length = 4 := by simpa using h1
        split at h
        · rename_i h2; exact absurd h h2
        · rename_i h2
          have h2 : s.2 = 0 := by simpa using h2
          split at h
          · rename_i h3; exact absurd h h3
          · rename_i h3
            have h3 : (climb s.1 (bitsOf key 4) (List.zip (bitsOf key 4) l)).2 = 0 := by simpa using h3
            split at h
            · cases h
            · rename_i h4
              have h4 : (climb s.1 (bitsOf key 4) (List.zip (bitsOf key 4) l)).1 = (tTrie f 4 0).1 := by simpa using h4
              obtain ⟨g1, g2⟩ := (hc _ l h1).1 (Prod.ext h4 h3)
              have := tV_inj (x := s.1) (hs.trans (Prod.ext rfl h2)) g1
              rw [← this]
              cases there with
              | true => exact ⟨rfl, rfl, g2⟩
              | false => exact ⟨rfl, by simpa using h0, g2⟩
  · rintro ⟨rfl, rfl, rfl⟩
    have e : (if (f key).isSome = true then some ((f key).getD []) else none) = f key := by cases f key <;> rfl
    have h5 := (hc (tV (f key)).1 (triePath f key 4) (triePath_len _ _ _)).2 ⟨Prod.ext rfl hg, rfl⟩
    rw [e, h5, if_neg (by cases f key <;> simp), if_neg (by simp [triePath_len]), if_neg (by simpa using hg), if_neg (by simp), if_neg (by simp)]

/-- A key's path doesn't hang on its own value. -/
theorem triePath_same {f g : Nat → Option By} {key : Nat} (h : ∀ k, k ≠ key → f k = g k) (d : Nat) : triePath f key d = triePath g key d := by
  unfold triePath
  refine List.map_congr_left fun k _ => ?_
  rw [tTrie_same k (sib k key) fun j h1 h2 => h j ?_]
  rintro rfl
  have hp : 0 < 2 ^ k := Nat.pos_of_ne_zero (by simp)
  have hb1 : base k j ≤ j := Nat.div_mul_le_self _ _
  have hb2 : j < base k j + 2 ^ k := by
    have h3 := Nat.div_add_mod j (2 ^ k)
    have h4 := Nat.mod_lt j hp
    rw [Nat.mul_comm] at h3
    unfold base
    omega
  obtain ⟨c1, c2⟩ := base_succ k j
  cases hb : bitOf j k with
  | true => obtain ⟨e1, e2⟩ := c1 hb; omega
  | false => obtain ⟨e1, e2⟩ := c2 hb; omega
end Go.Gs

namespace Go.Gs

abbrev Mp := List (Int × By)

def mGet : Mp → Int → Option By
  | [], _ => none
  | p :: r, k => if p.1 = k then some p.2 else mGet r k

def mPut : Mp → Int → By → Mp
  | [], k, v => [(k, v)]
  | p :: r, k, v => if p.1 = k then (k, v) :: r else p :: mPut r k v

theorem mGet_put : ∀ (m : Mp) (k : Int) (v : By) (j : Int), mGet (mPut m k v) j = if j = k then some v else mGet m j
  | [], k, v, j => by
    simp only [mPut, mGet]
    by_cases h : j = k
    · rw [if_pos h.symm, if_pos h]
    · rw [if_neg (fun e => h e.symm), if_neg h]
  | p :: r, k, v, j => by
    unfold mPut
    split
    · rename_i h
      simp only [mGet]
      by_cases hj : j = k
      · rw [if_pos hj.symm, if_pos hj]
      · rw [if_neg (fun e => hj e.symm), if_neg hj, if_neg (fun e => hj (by rw [← e, h]))]
    · rename_i h
      simp only [mGet]
      rw [mGet_put r k v j]
      by_cases hj : j = k
      · rw [if_neg (by rw [hj]; exact h), if_pos hj, if_pos hj]
      · rw [if_neg hj, if_neg hj]

theorem mGet_none {m : Mp} {k : Int} : mGet m k = none ↔ k ∉ m.map (·.1) := by
  induction m with
  | nil => simp [mGet]
  | cons p r ih =>
    simp only [mGet, List.map_cons, List.mem_cons, not_or]
    split
    · rename_i h; simp [h]
    · rename_i h; rw [ih]; exact ⟨fun h2 => ⟨fun e => h e.symm, h2⟩, fun h2 => h2.2⟩

theorem mGet_mem {m : Mp} {k : Int} {v : By} (h : mGet m k = some v) : (k, v) ∈ m := by
  induction m with
  | nil => simp [mGet] at h
  | cons p r ih =>
    simp only [mGet] at h
    split at h
    · rename_i hk; rw [← hk, ← Option.some.inj h]; simp
    · simp [ih h]

theorem mGet_of_mem {m : Mp} (hn : (m.map (·.1)).Nodup) {k : Int} {v : By} (h : (k, v) ∈ m) : mGet m k = some v := by
  induction m with
  | nil => simp at h
  | cons p r ih =>
    simp only [List.map_cons, List.nodup_cons] at hn
    simp only [mGet]
    rcases List.mem_cons.1 h with h | h
    · rw [← h]; simp
    · rw [if_neg, ih hn.2 h]
      intro e
      exact hn.1 (List.mem_map.2 ⟨_, h, e.symm⟩)

theorem mPut_keys (m : Mp) (k : Int) (v : By) : (mPut m k v).map (·.1) = if k ∈ m.map (·.1) then m.map (·.1) else m.map (·.1) ++ [k] := by
  induction m with
  | nil => simp [mPut]
  | cons p r ih =>
    unfold mPut
    split
    · rename_i h; simp [h]
    · rename_i h
      rw [List.map_cons, ih]
      simp only [List.map_cons, List.mem_cons]
      by_cases hk : k ∈ r.map (·.1)
      · rw [if_pos hk, if_pos (.inr hk)]
      · rw [if_neg hk, if_neg (by rintro (e | e); exact h e.symm; exact hk e)]; rfl

theorem mPut_nodup {m : Mp} (hn : (m.map (·.1)).Nodup) (k : Int) (v : By) : ((mPut m k v).map (·.1)).Nodup := by
  rw [mPut_keys]
  split
  · exact hn
  · rename_i h
    rw [List.nodup_append]
    exact ⟨hn, by simp, fun a ha b hb => by rw [List.mem_singleton.1 hb]; rintro rfl; exact h ha⟩

theorem mPut_len (m : Mp) (k : Int) (v : By) : (mPut m k v).length = if (mGet m k).isSome then m.length else m.length + 1 := by
  have := congrArg List.length (mPut_keys m k v)
  rw [List.length_map] at this
  rw [this]
  cases h : mGet m k with
  | none => rw [if_neg (mGet_none.1 h)]; simp
  | some v' =>
    rw [if_pos (by
      have := mGet_mem h
      exact List.mem_map.2 ⟨_, this, rfl⟩)]
    simp

/-- Two maps alike: as many, and each of the one's in the other one. -/
def mEq (m o : Mp) : Bool := m.length == o.length && m.all fun p => mGet o p.1 == some p.2

theorem mEq_iff {m o : Mp} (hm : (m.map (·.1)).Nodup) (ho : (o.map (·.1)).Nodup) : mEq m o = true ↔ ∀ k, mGet m k = mGet o k := by
  unfold mEq
  simp only [Bool.and_eq_true, beq_iff_eq, List.all_eq_true]
  constructor
  · rintro ⟨h1, h2⟩ k
    cases h : mGet m k with
    | some v => exact (h2 _ (mGet_mem h)).symm
    | none =>
      have hk := mGet_none.1 h
      have sub : m.map (·.1) ⊆ o.map (·.1) := by
        intro a ha
        obtain ⟨p, hp, rfl⟩ := List.mem_map.1 ha
        exact List.mem_map.2 ⟨_, mGet_mem (h2 p hp), rfl⟩
      symm
      rw [mGet_none]
      intro hko
      have hsub2 : k :: m.map (·.1) ⊆ o.map (·.1) := by
        intro a ha
        rcases List.mem_cons.1 ha with rfl | ha
        · exact hko
        · exact sub ha
      have := (List.nodup_cons.2 ⟨hk, hm⟩).length_le_of_subset hsub2
      simp only [List.length_cons, List.length_map] at this
      omega
  · intro h
    refine ⟨Nat.le_antisymm ?_ ?_, fun p hp => ?_⟩
    · have sub : m.map (·.1) ⊆ o.map (·.1) := by
        intro a ha
        apply Classical.byContradiction
        intro hc
        have := mGet_none.2 hc
        rw [← h a] at this
        exact mGet_none.1 this ha
      have := hm.length_le_of_subset sub
      simpa using this
    · have sub : o.map (·.1) ⊆ m.map (·.1) := by
        intro a ha
        apply Classical.byContradiction
        intro hc
        have := mGet_none.2 hc
        rw [h a] at this
        exact mGet_none.1 this ha
      have := ho.length_le_of_subset sub
      simpa using this
    · rw [← h]
      exact mGet_of_mem hm hp

/-- Values are some: one for each key at most. -/
def checkM (m : Mp) : Int :=
  if m.any (fun p => decide (0 ≤ p.1 ∧ p.1 < 16) && decide (12 < p.2.length)) then 2 else if m.any (fun p => decide (p.1 < 0 ∨ 16 ≤ p.1)) then 5 else 0

theorem checkM_ok {m : Mp} (h : checkM m = 0) : ∀ p ∈ m, 0 ≤ p.1 ∧ p.1 < 16 ∧ p.2.length ≤ 12 := by
  intro p hp
  unfold checkM at h
  split at h
  · cases h
  · rename_i h1
    split at h
    · cases h
    · rename_i h2
      simp only [List.any_eq_true, Bool.and_eq_true, decide_eq_true_eq, not_exists, not_and] at h1 h2
      have a := h1 p hp
      have b := h2 p hp
      omega

theorem checkM_mk {m : Mp} (h : ∀ p ∈ m, 0 ≤ p.1 ∧ p.1 < 16 ∧ p.2.length ≤ 12) : checkM m = 0 := by
  unfold checkM
  rw [if_neg, if_neg]
  · simp only [List.any_eq_true, decide_eq_true_eq, not_exists, not_and]
    intro p hp; have := h p hp; omega
  · simp only [List.any_eq_true, Bool.and_eq_true, decide_eq_true_eq, not_exists, not_and]
    intro p hp; have := h p hp; omega

/-- What a map gives, by small numbers. -/
def fM (m : Mp) : Nat → Option By := fun k => mGet m k

theorem fM_good {m : Mp} (h : checkM m = 0) : GoodV (fM m) := fun _ _ hv => (checkM_ok h _ (mGet_mem hv)).2.2

/-- The seal of values. -/
def mapRoot (m : Mp) : By × Int := if checkM m ≠ 0 then ([], checkM m) else tTrie (fM m) 4 0

theorem mapRoot_ok {m : Mp} (h : checkM m = 0) : mapRoot m = ((tTrie (fM m) 4 0).1, 0) := by
  rw [mapRoot, if_neg (by simpa using h)]
  exact Prod.ext rfl (tTrie_good (fM_good h) 4 0 (Nat.le_refl _)).1

theorem mapRoot_code (m : Mp) : (mapRoot m).2 = checkM m := by
  by_cases h : checkM m = 0
  · rw [mapRoot_ok h, h]
  · rw [mapRoot, if_pos h]

theorem mapRoot_inj {m o : Mp} (hm : (m.map (·.1)).Nodup) (ho : (o.map (·.1)).Nodup) (h1 : checkM m = 0) (h2 : checkM o = 0) : (mapRoot m).1 = (mapRoot o).1 ↔ mEq m o = true := by
  rw [mEq_iff hm ho, mapRoot_ok h1, mapRoot_ok h2]
  constructor
  · intro h k
    by_cases hk : 0 ≤ k ∧ k < 16
    · have := tTrie_inj (fM_good h1) (fM_good h2) 4 0 (Nat.le_refl _) h k.toNat (by omega) (by omega)
      unfold fM at this
      rwa [Int.toNat_of_nonneg hk.1] at this
    · have a : mGet m k = none := by rw [mGet_none]; intro hc; obtain ⟨p, hp, rfl⟩ := List.mem_map.1 hc; have := checkM_ok h1 p hp; omega
      have b : mGet o k = none := by rw [mGet_none]; intro hc; obtain ⟨p, hp, rfl⟩ := List.mem_map.1 hc; have := checkM_ok h2 p hp; omega
      rw [a, b]
  · intro h
    have : fM m = fM o := by funext k; exact h k
    rw [this]

end Go.Gs

namespace Go.Ab
open Go.Proofs Go.Gs
variable {G0 : Nat → Option Obj}


theorem mlook_KV (m : Mp) (k : Int) : mlook .i64 k (m.map KV) = some ((mGet m k).map AV.str) := by
  induction m with
  | nil => rfl
  | cons p r ih =>
    simp only [List.map_cons, KV, mlook, mGet]
    have : (IntKind.i64 == IntKind.i64) = true := rfl
    rw [this, cond_true]
    by_cases h : p.1 = k
    · rw [if_pos h, show (p.1 == k) = true by simpa using h]; rfl
    · rw [if_neg h, show (p.1 == k) = false by simpa using h, cond_false]
      exact ih

theorem mlookD_KV (m : Mp) (k : Int) : mlookD .i64 k (.str []) (m.map KV) = some (.str ((mGet m k).getD []), (mGet m k).isSome) := by
  unfold mlookD
  rw [mlook_KV]
  cases mGet m k <;> rfl

theorem mupd_KV (m : Mp) (k : Int) (v : By) : mupd .i64 k (.str v) (m.map KV) = some ((mPut m k v).map KV) := by
  induction m with
  | nil => rfl
  | cons p r ih =>
    simp only [List.map_cons, KV, mupd, mPut]
    have : (IntKind.i64 == IntKind.i64) = true := rfl
    rw [this, cond_true]
    by_cases h : p.1 = k
    · rw [if_pos h, show (p.1 == k) = true by simpa using h]; rfl
    · rw [if_neg h, show (p.1 == k) = false by simpa using h, cond_false, ih]
      rfl

theorem KV_get {m : Mp} {i : Nat} {n : Int} {s : By} (h : (m.map KV)[i]? = some (.int .i64 n, .str s)) : m[i]? = some (n, s) := by
  rw [List.getElem?_map, Option.map_eq_some_iff] at h
  obtain ⟨p, h1, h2⟩ := h
  simp only [KV, Prod.mk.injEq, AV.int.injEq, true_and, AV.str.injEq] at h2
  rw [h1, ← h2.1, ← h2.2]

theorem KV_erase (m : Mp) (i : Nat) : (m.map KV).eraseIdx i = (m.eraseIdx i).map KV := by
  induction m generalizing i with
  | nil => rfl
  | cons p r ih =>
    cases i with
    | zero => rfl
    | succ i => simp only [List.map_cons, List.eraseIdx_cons_succ, ih]

theorem KV_is (m : Mp) : ∀ (i : Nat) (p : AV × AV), (m.map KV)[i]? = some p → ∃ n s, p = (AV.int .i64 n, AV.str s) := by
  intro i p h
  rw [List.getElem?_map, Option.map_eq_some_iff] at h
  obtain ⟨q, _, rfl⟩ := h
  exact ⟨q.1, q.2, rfl⟩

theorem any_erase {m : Mp} {f : Int × By → Bool} {i : Nat} {p : Int × By} (h : m[i]? = some p) (hf : f p = false) : (m.eraseIdx i).any f = m.any f := by
  induction m generalizing i with
  | nil => simp at h
  | cons q r ih =>
    cases i with
    | zero =>
      simp at h
      subst h
      simp [hf]
    | succ i =>
      simp only [List.eraseIdx_cons_succ, List.any_cons]
      rw [ih (by simpa using h)]

theorem len_erase {m : Mp} {i : Nat} {p : Int × By} (h : m[i]? = some p) : (m.eraseIdx i).length + 1 = m.length := by
  have := (List.getElem?_eq_some_iff.1 h).1
  rw [List.length_eraseIdx]; rw [if_pos this]; omega

theorem check_loop1 {R : AV → List (Option Blk) → Prop} : ∀ (n : Nat) (m : Mp), m.length ≤ n → R (.int .i64 (if m.any (fun p => decide (p.1 < 0 ∨ 16 ≤ p.1)) then 5 else 0)) [] →
    Does PG nG G0 (fnOf PG f_trie_Check) 0 (lp PG f_trie_Check 1) (mkT 35 [(24, .iter 0)]) [some (.iter (m.map KV) none)] R := by
  intro n
  induction n with
  | zero =>
    intro m hn hR
    obtain rfl : m = [] := List.eq_nil_of_length_eq_zero (by omega)
    refine does_of_run prOk (trie_Check_l1_run G0 _ R ⟨fun i p h => by simp at h, fun _ => by simpa using hR, fun i n s h => by simp at h⟩)
  | succ n ih =>
    intro m hn hR
    refine does_of_run prOk (trie_Check_l1_run G0 _ R ⟨KV_is m, fun h => ?_, fun i k s h => ?_⟩)
    · have : m = [] := by simpa using h
      subst this
      simpa using hR
    · have h := KV_get h
      have hm := List.mem_of_getElem? h
      simp only [ifK_iff, decide_eq_true_eq, decide_eq_false_iff_not]
      have bad : (k < 0 ∨ 16 ≤ k) → R (.int .i64 5) [] := fun hk => by
        rw [if_pos (List.any_eq_true.2 ⟨_, hm, by simpa using hk⟩)] at hR
        exact hR
      refine ⟨fun h1 => bad (.inl h1), fun h1 => ⟨fun h2 => bad (.inr h2), fun h2 => ?_⟩⟩
      rw [KV_erase]
      refine ih _ (by have := len_erase h; omega) ?_
      rw [any_erase h (by simp; omega)]
      exact hR

theorem good_trieCheck (m : Mp) (nl : Bool) (hn : (m.map (·.1)).Nodup) : Good PG nG G0 f_trie_Check [.mp nl (m.map KV)] [] (.int .i64 (checkM m)) [] := by
  suffices main : ∀ R : AV → List (Option Blk) → Prop, R (.int .i64 (checkM m)) [] → ∀ (d k : Nat), 16 - k ≤ d → k ≤ 16 → (∀ j : Int, 0 ≤ j → j < k → ∀ v, mGet m j = some v → v.length ≤ 12) →
      Does PG nG G0 (fnOf PG f_trie_Check) 0 (lp PG f_trie_Check 0) (mkT 35 [(0, .mp nl (m.map KV)), (7, .int .i64 k)]) [] R from
    good_of_run prOk (by kernel_rfl) (trie_Check_run nl _ G0 _ (main _ ⟨rfl, rfl⟩ 16 0 (by omega) (by omega) (fun j h1 h2 => by omega)))
  intro R hR d
  induction d with
  | zero =>
    intro k h1 h2 hk
    obtain rfl : k = 16 := by omega
    refine does_of_run prOk (trie_Check_l0_run G0 _ _ _ R ?_)
    simp only [ifK_iff, decide_eq_true_eq, decide_eq_false_iff_not]
    refine ⟨fun h => absurd h (by omega), fun _ => check_loop1 _ m (Nat.le_refl _) ?_⟩
    unfold checkM at hR
    rw [if_neg] at hR
    · exact hR
    · simp only [List.any_eq_true, Bool.and_eq_true, decide_eq_true_eq, not_exists, not_and]
      intro p hp h3
      have := hk p.1 h3.1 (by omega) p.2 (mGet_of_mem hn hp)
      omega
  | succ d ih =>
    intro k h1 h2 hk
    by_cases hk16 : k = 16
    · exact ih k (by omega) h2 hk
    · refine does_of_run prOk (trie_Check_l0_run G0 _ _ _ R ?_)
      simp only [ifK_iff, decide_eq_true_eq, decide_eq_false_iff_not]
      rw [wrap64 (by omega) (by omega)]
      refine ⟨fun _ => ⟨_, _, mlookD_KV m k, fun hs => ⟨fun h3 => ?_, fun h3 => ?_⟩, fun hs => ?_⟩, fun h => absurd (show (k : Int) < 16 by omega) h⟩
      · obtain ⟨v, hv⟩ := Option.isSome_iff_exists.1 hs
        rw [hv] at h3
        simp only [Option.getD_some] at h3
        unfold checkM at hR
        rw [if_pos] at hR
        · exact hR
        · refine List.any_eq_true.2 ⟨_, mGet_mem hv, ?_⟩
          simp; omega
      · refine ih (k + 1) (by omega) (by omega) fun j g1 g2 v hv => ?_
        by_cases hj : j = k
        · subst hj
          rw [hv] at h3
          simp only [Option.getD_some] at h3
          omega
        · exact hk j g1 (by omega) v hv
      · refine ih (k + 1) (by omega) (by omega) fun j g1 g2 v hv => ?_
        by_cases hj : j = k
        · subst hj
          rw [hv] at hs
          cases hs
        · exact hk j g1 (by omega) v hv

theorem wrapN {n : Int} (h0 : 0 ≤ n) (h1 : n ≤ 1000000000) : IntKind.i64.wrap n = n := wrap64 (by omega) (by omega)

theorem pow_small {d : Nat} (h : d ≤ 4) : 2 ^ d ≤ 16 ∧ 0 < 2 ^ d := by
  have : d = 0 ∨ d = 1 ∨ d = 2 ∨ d = 3 ∨ d = 4 := by omega
  rcases this with rfl | rfl | rfl | rfl | rfl <;> decide

theorem good_trieroot (hG : GlobOk G0) (m : Mp) (nl : Bool) : ∀ (d i : Nat), d ≤ 4 → i + 2 ^ d ≤ 1000 →
    Good PG nG G0 f_trie_root [.mp nl (m.map KV), .int .i64 i, .int .i64 ((2 ^ d : Nat) : Int)] [] (.tup [.str (tTrie (fM m) d i).1, .int .i64 (tTrie (fM m) d i).2]) [] := by
  intro d
  induction d with
  | zero =>
    intro i _ hi
    refine good_of_run prOk (by kernel_rfl) (trie_root_run nl _ _ _ G0 _ ?_)
    simp only [ifK_iff, beq_iff_eq, beq_eq_false_iff_ne]
    refine ⟨fun _ => ⟨_, _, mlookD_KV m i, fun h => ?_, fun h => ?_⟩, fun h => absurd rfl h⟩
    · obtain ⟨v, hv⟩ := Option.isSome_iff_exists.1 h
      refine ⟨_, _, good_Leaf _, ?_, trivial⟩
      rw [tTrie, fM, hv]; rfl
    · have hv : mGet m i = none := by simpa using h
      refine ⟨_, good_None, ?_, trivial⟩
      rw [tTrie, fM, hv]; rfl
  | succ d ih =>
    intro i hd hi
    obtain ⟨hp, hp0⟩ := pow_small (d := d) (by omega)
    have e : (2 : Nat) ^ (d + 1) = 2 ^ d + 2 ^ d := by rw [Nat.pow_succ]; omega
    have h1 := ih i (by omega) (by omega)
    have h2 := ih (i + 2 ^ d) (by omega) (by omega)
    rw [Int.natCast_add] at h2
    have hq : IntKind.i64.wrap (Int.tdiv ((2 ^ (d + 1) : Nat) : Int) 2) = ((2 ^ d : Nat) : Int) := by
      rw [Int.tdiv_eq_ediv_of_nonneg (by omega), wrapN (by omega) (by omega)]; omega
    refine good_of_run prOk (by kernel_rfl) (trie_root_run nl _ _ _ G0 _ ?_)
    simp only [ifK_iff, beq_iff_eq, beq_eq_false_iff_ne, bne_iff_ne, ne_eq, bne_eq_false_iff_eq]
    rw [hq, wrapN (by omega) (by omega)]
    refine ⟨fun h => absurd h (by omega), fun _ => ⟨by omega, _, _, h1, fun h3 => ?_, fun h3 => ⟨by omega, by omega, _, _, h2, fun h4 => ?_, fun h4 => ⟨_, _, good_Node hG _ _, ?_, trivial⟩⟩⟩⟩
    · rw [tTrie, if_pos h3]; exact ⟨rfl, trivial⟩
    · rw [tTrie, if_neg (by simpa using h3), if_pos h4]; exact ⟨rfl, trivial⟩
    · rw [tTrie, if_neg (by simpa using h3), if_neg (by simpa using h4)]

theorem good_trieRoot (hG : GlobOk G0) (m : Mp) (nl : Bool) (hn : (m.map (·.1)).Nodup) : Good PG nG G0 f_trie_Root [.mp nl (m.map KV)] [] (.tup [.str (mapRoot m).1, .int .i64 (mapRoot m).2]) [] := by
  refine good_of_run prOk (by kernel_rfl) (trie_Root_run nl _ G0 _ ⟨_, good_trieCheck m nl hn, ?_⟩)
  simp only [ifK_iff, bne_iff_ne, ne_eq, bne_eq_false_iff_eq]
  refine ⟨fun h => ?_, fun h => ⟨_, _, good_trieroot hG m nl 4 0 (by omega) (by decide), ?_, trivial⟩⟩
  · rw [mapRoot, if_pos h]; exact ⟨rfl, trivial⟩
  · rw [mapRoot, if_neg (by simpa using h)]

theorem xor_sib : ∀ (key : Fin 16) (k : Fin 4), IntKind.i64.wrap (((BitVec.ofInt 64 (IntKind.i64.wrap (IntKind.i64.wrap (Int.tdiv ((key.val : Nat) : Int) ((2 ^ k.val : Nat) : Int)) * ((2 ^ k.val : Nat) : Int))) ^^^ BitVec.ofInt 64 ((2 ^ k.val : Nat) : Int)).toNat : Nat) : Int) = ((sib k.val key.val : Nat) : Int) := by
  decide +kernel

theorem sib_lt : ∀ (key : Fin 16) (k : Fin 4), sib k.val key.val + 2 ^ k.val ≤ 16 := by decide +kernel

/-- The path of a key, or what is wrong. -/
def pathM (m : Mp) (key : Int) : List By × Int := if checkM m ≠ 0 then ([], checkM m) else if key < 0 ∨ 16 ≤ key then ([], 5) else (triePath (fM m) key.toNat 4, 0)

theorem trieP_loop (hG : GlobOk G0) (m : Mp) (nl : Bool) (hc : checkM m = 0) (key : Nat) (hk : key < 16) {R : AV → List (Option Blk) → Prop} (hR : R (.tup [.sl 1 false none ((triePath (fM m) key 4).map S1), .int .i64 0]) []) :
    ∀ (d k : Nat), 4 - k ≤ d → k ≤ 4 → Does PG nG G0 (fnOf PG f_trie_Path) 0 (lp PG f_trie_Path 0)
      (mkT 49 [(0, .mp nl (m.map KV)), (1, .int .i64 key), (7, .sl 1 (k == 0) (some 0) ((triePath (fM m) key k).map S1)), (8, .int .i64 ((2 ^ k : Nat) : Int))]) [some (.grow 1 k)] R := by
  intro d
  induction d with
  | zero =>
    intro k h1 h2
    obtain rfl : k = 4 := by omega
    refine does_of_run prOk (trie_Path_l0_run G0 _ _ _ _ _ _ _ R ?_)
    simp only [ifK_iff, decide_eq_true_eq, decide_eq_false_iff_not]
    exact ⟨fun h => absurd h (by decide), fun _ => hR⟩
  | succ d ih =>
    intro k h1 h2
    by_cases h4 : k = 4
    · exact ih k (by omega) h2
    · obtain ⟨hp, hp0⟩ := pow_small (d := k) (by omega)
      have hp8 : 2 ^ k ≤ 8 := by
        have : k = 0 ∨ k = 1 ∨ k = 2 ∨ k = 3 := by omega
        rcases this with rfl | rfl | rfl | rfl <;> decide
      have e : (2 : Nat) ^ (k + 1) = 2 ^ k + 2 ^ k := by rw [Nat.pow_succ]; omega
      have hs := sib_lt ⟨key, hk⟩ ⟨k, by omega⟩
      simp only at hs
      have hg := good_trieroot (G0 := G0) hG m nl k (sib k key) (by omega) (by omega)
      have h0 := (tTrie_good (fM_good hc) k (sib k key) (by omega)).1
      have hx := xor_sib ⟨key, hk⟩ ⟨k, by omega⟩
      simp only at hx
      refine does_of_run prOk (trie_Path_l0_run G0 _ _ _ _ _ _ _ R ?_)
      rw [hx]
      simp only [ifK_iff, decide_eq_true_eq, decide_eq_false_iff_not, bne_iff_ne, ne_eq, bne_eq_false_iff_eq]
      refine ⟨fun _ => ⟨by omega, _, _, hg, fun h => absurd h0 h, fun _ => ⟨?_, by simp [triePath_len], ?_⟩⟩, fun h => absurd (show ((2 ^ k : Nat) : Int) < 16 by omega) h⟩
      · simp [triePath_len]; omega
      · have := ih (k + 1) (by omega) (by omega)
        rw [triePath_succ, List.map_append] at this
        rw [wrapN (by omega) (by omega)]
        have e2 : ((2 ^ k : Nat) : Int) * 2 = ((2 ^ (k + 1) : Nat) : Int) := by omega
        rw [e2]
        simp only [List.isEmpty_cons, Bool.and_false]
        exact this

theorem good_triePath (hG : GlobOk G0) (m : Mp) (nl : Bool) (hn : (m.map (·.1)).Nodup) (key : Int) :
    Good PG nG G0 f_trie_Path [.mp nl (m.map KV), .int .i64 key] [] (.tup [.sl 1 (pathM m key).1.isEmpty none ((pathM m key).1.map S1), .int .i64 (pathM m key).2]) [] := by
  refine good_of_run prOk (by kernel_rfl) (trie_Path_run nl _ _ G0 _ ⟨_, good_trieCheck m nl hn, ?_⟩)
  simp only [ifK_iff, decide_eq_true_eq, decide_eq_false_iff_not, bne_iff_ne, ne_eq, bne_eq_false_iff_eq]
  refine ⟨fun h => ?_, fun h => ⟨fun h2 => ?_, fun h2 => ⟨fun h3 => ?_, fun h3 => ?_⟩⟩⟩
  · rw [pathM, if_pos h]; exact ⟨rfl, trivial⟩
  · rw [pathM, if_neg (by simpa using h), if_pos (.inl h2)]; exact ⟨rfl, trivial⟩
  · rw [pathM, if_neg (by simpa using h), if_pos (.inr h3)]; exact ⟨rfl, trivial⟩
  · rw [pathM, if_neg (by simpa using h), if_neg (by omega)]
    obtain ⟨k, rfl⟩ := Int.eq_ofNat_of_zero_le (show 0 ≤ key by omega)
    rw [Int.toNat_natCast]
    have hne : (triePath (fM m) k 4).isEmpty = false := by
      have := triePath_len (fM m) k 4
      cases h : triePath (fM m) k 4 with
      | nil => rw [h] at this; simp at this
      | cons => rfl
    exact trieP_loop hG m nl h k (by omega) (by rw [hne]; exact ⟨rfl, rfl⟩) 4 0 (by omega) (by omega)

theorem bit_and : ∀ (key : Fin 16) (k : Fin 4), (IntKind.i64.wrap (((BitVec.ofInt 64 (Int.fdiv ((key.val : Nat) : Int) ((2 : Int) ^ min k.val 64)) &&& BitVec.ofInt 64 1).toNat : Nat) : Int) == 1) = bitOf key.val k.val := by
  decide +kernel

theorem trieS_loop (hG : GlobOk G0) (all : By) (key : Nat) (hk : key < 16) (nl : Bool) (l : List By) (hl : l.length = 4) {R : AV → List (Option Blk) → Prop} :
    ∀ (d k : Nat) (now : By), 4 - k ≤ d → k ≤ 4 → R (.int .i64 (fin7 all (climb now ((bitsOf key 4).drop k) ((List.zip (bitsOf key 4) l).drop k)))) [] →
      Does PG nG G0 (fnOf PG f_trie_Shows) 0 (lp PG f_trie_Shows 0) (mkT 71 [(0, .str all), (1, .int .i64 key), (11, .str now), (40, .sl 1 nl none (l.map S1)), (41, .int .i64 (l.map S1).length), (42, .int .i64 k)]) [] R := by
  intro d
  induction d with
  | zero =>
    intro k now h1 h2 hR
    obtain rfl : k = 4 := by omega
    refine does_of_run prOk (trie_Shows_l0_run G0 _ _ _ _ _ _ _ R ?_)
    simp only [ifK_iff, decide_eq_true_eq, decide_eq_false_iff_not, List.length_map, hl]
    have hcl : climb now ((bitsOf key 4).drop 4) ((List.zip (bitsOf key 4) l).drop 4) = (now, 0) := by
      rw [List.drop_eq_nil_of_le (show (bitsOf key 4).length ≤ 4 by rw [bitsOf_len]; omega)]; rfl
    rw [hcl, fin7, if_neg (by simp)] at hR
    refine ⟨fun h => absurd h (by decide), fun _ => ⟨fun h => ?_, fun h => ?_⟩⟩
    · have h : now ≠ all := by simpa using h
      simpa [h] using hR
    · have h : now = all := by simpa using h
      simpa [h] using hR
  | succ d ih =>
    intro k now h1 h2 hR
    by_cases h4 : k = 4
    · exact ih k now (by omega) h2 hR
    · have hkl : k < l.length := by omega
      have hb := bit_and ⟨key, hk⟩ ⟨k, by omega⟩
      simp only at hb
      refine does_of_run prOk (trie_Shows_l0_run G0 _ _ _ _ _ _ _ R ?_)
      rw [Int.toNat_natCast, hb]
      simp only [ifK_iff, decide_eq_true_eq, decide_eq_false_iff_not, List.length_map, hl, bne_iff_ne, ne_eq, bne_eq_false_iff_eq]
      rw [wrapN (by omega) (by omega)]
      have hz : (List.zip (bitsOf key 4) l).drop k = (bitOf key k, l[k]) :: (List.zip (bitsOf key 4) l).drop (k + 1) := by
        have hlt : k < (List.zip (bitsOf key 4) l).length := by rw [List.length_zip, bitsOf_len]; omega
        rw [List.drop_eq_getElem_cons hlt]
        congr 1
        rw [List.getElem_zip]
        congr 1
        simp [bitsOf]
      have hbs : (bitsOf key 4).drop k = bitOf key k :: (bitsOf key 4).drop (k + 1) := by
        have hlt : k < (bitsOf key 4).length := by rw [bitsOf_len]; omega
        rw [List.drop_eq_getElem_cons hlt]
        congr 1
        simp [bitsOf]
      rw [hz, hbs, climb, if_neg (by simp)] at hR
      have ih := fun now => ih (k + 1) now (by omega) (by omega)
      rw [List.length_map, hl] at ih
      refine ⟨fun _ => ⟨by omega, l[k], getD_map hkl, by omega, fun h => ⟨_, _, good_Node hG _ _, fun h3 => ?_, fun h3 => ih _ ?_⟩, fun h => ⟨_, _, good_Node hG _ _, fun h3 => ?_, fun h3 => ih _ ?_⟩⟩, fun h => absurd (show (k : Int) < 4 by omega) h⟩
      · simp only [up1, h, if_true] at hR
        rw [if_pos h3, fin7, if_pos h3] at hR
        exact hR
      · simp only [up1, h, if_true] at hR
        rw [if_neg (by simpa using h3)] at hR
        exact hR
      · simp only [up1, h, Bool.false_eq_true, if_false] at hR
        rw [if_pos h3, fin7, if_pos h3] at hR
        exact hR
      · simp only [up1, h, Bool.false_eq_true, if_false] at hR
        rw [if_neg (by simpa using h3)] at hR
        exact hR

theorem trieShows_fin {all : By} {key : Nat} {value : By} {there : Bool} {l : List By} (hk : key < 16) (h : ¬ (there = false ∧ value ≠ [])) (hl : l.length = 4) :
    trieShows all key value there l = if (tV (if there then some value else none)).2 ≠ 0 then (tV (if there then some value else none)).2 else fin7 all (climb (tV (if there then some value else none)).1 (bitsOf key 4) (List.zip (bitsOf key 4) l)) := by
  unfold trieShows fin7
  rw [if_neg (by omega), if_neg h, if_neg (by omega), Int.toNat_natCast]

theorem good_trieShows (hG : GlobOk G0) (all : By) (key : Int) (value : By) (there : Bool) (nl : Bool) (l : List By) :
    Good PG nG G0 f_trie_Shows [.str all, .int .i64 key, .str value, .bool there, .sl 1 nl none (l.map S1)] [] (.int .i64 (trieShows all key value there l)) [] := by
  refine good_of_run prOk (by kernel_rfl) (trie_Shows_run all key value there nl _ G0 _ ?_)
  simp only [ifK_iff, decide_eq_true_eq, decide_eq_false_iff_not, bne_iff_ne, ne_eq, bne_eq_false_iff_eq, Bool.not_eq_true', Bool.not_eq_false', List.length_map]
  have start : ∀ (key : Int), ¬ key < 0 → ¬ 16 ≤ key → ¬ (there = false ∧ value ≠ []) → l.length = 4 → ∀ now, (tV (if there then some value else none)) = (now, 0) →
      Does PG nG G0 (fnOf PG f_trie_Shows) 0 (lp PG f_trie_Shows 0) (mkT 71 [(0, .str all), (1, .int .i64 key), (11, .str now), (40, .sl 1 nl none (l.map S1)), (41, .int .i64 l.length), (42, .int .i64 0)]) []
        fun r' H'' => r' = .int .i64 (trieShows all key value there l) ∧ H'' = [] := by
    intro key h1 h2 h3 h4 now hnow
    obtain ⟨k, rfl⟩ := Int.eq_ofNat_of_zero_le (show 0 ≤ key by omega)
    have := trieS_loop (G0 := G0) hG all k (by omega) nl l h4 (R := fun r' H'' => r' = .int .i64 (trieShows all k value there l) ∧ H'' = []) 4 0 now (by omega) (by omega) ⟨by
      rw [trieShows_fin (by omega) h3 h4, hnow, if_neg (by simp)]; rfl, rfl⟩
    rw [List.length_map] at this
    exact this
  refine ⟨fun h => ?_, fun h1 => ⟨fun h => ?_, fun h2 => ⟨fun h3 => ⟨fun h4 => ?_, fun h4 => ⟨fun h5 => ?_, fun h5 => ⟨_, good_None, fun h6 => ?_, fun h6 => ?_⟩⟩⟩, fun h3 => ⟨fun h5 => ?_, fun h5 => ⟨_, good_None, fun h6 => ⟨_, _, good_Leaf value, fun h7 => ?_, fun h7 => ?_⟩, fun h6 => ?_⟩⟩⟩⟩⟩
  · rw [trieShows, if_pos (.inl h)]; exact ⟨rfl, trivial⟩
  · rw [trieShows, if_pos (.inr h)]; exact ⟨rfl, trivial⟩
  · rw [trieShows, if_neg (by omega), if_pos ⟨h3, by simpa using h4⟩]; exact ⟨rfl, trivial⟩
  · have h4 : value = [] := by simpa using h4
    rw [trieShows, if_neg (by omega), if_neg (by simp [h4]), if_pos (by omega)]; exact ⟨rfl, trivial⟩
  · rw [h3] at h6; cases h6
  · have h4 : value = [] := by simpa using h4
    exact start key h1 h2 (by simp [h4]) (by omega) [69] (by rw [h3]; rfl)
  · rw [trieShows, if_neg (by omega), if_neg (by simp [h3]), if_pos (by omega)]; exact ⟨rfl, trivial⟩
  · rw [trieShows, if_neg (by omega), if_neg (by simp [h3]), if_neg (by omega)]
    simp only [h3, if_true, tV]
    rw [if_pos h7]; exact ⟨rfl, trivial⟩
  · exact start key h1 h2 (by simp [h3]) (by omega) _ (by rw [h3]; exact Prod.ext rfl h7)
  · rw [h3] at h6; cases h6
end Go.Ab

namespace Go.Ab
open Go.Proofs Go.Gs
variable {G0 : Nat → Option Obj}

theorem tmod2 (q : Nat) : Int.tmod (q : Int) 2 = ((q % 2 : Nat) : Int) := by rw [Int.tmod_eq_emod_of_nonneg (by omega)]; omega
theorem tdiv2 (q : Nat) (h : q ≤ 1000000000) : IntKind.i64.wrap (Int.tdiv (q : Int) 2) = ((q / 2 : Nat) : Int) := by
  rw [Int.tdiv_eq_ediv_of_nonneg (by omega), wrapN (by omega) (by omega)]; omega

theorem pow_div2 (key k : Nat) : key / 2 ^ k / 2 = key / 2 ^ (k + 1) := by rw [Nat.pow_succ, Nat.div_div_eq_div_mul]

theorem mapS_loop (hG : GlobOk G0) (all : By) (key : Nat) (hk : key < 16) (nl : Bool) (l : List By) (hl : l.length = 4) (hs : ∀ s ∈ l, s.length ≤ 4611686018427387903) {R : AV → List (Option Blk) → Prop} :
    ∀ (d k : Nat) (now : By) (e : Int), 4 - k ≤ d → k ≤ 4 → now.length ≤ 4611686018427387903 → R (.int .i64 (if e ≠ 0 then e else fin7 all (climb now ((bitsOf key 4).drop k) ((List.zip (bitsOf key 4) l).drop k)))) [] →
      Does PG nG G0 (fnOf PG f_greatsealref_MapShows) 0 (lp PG f_greatsealref_MapShows 0) (mkT 69 [(0, .str all), (1, .int .i64 ((key / 2 ^ k : Nat) : Int)), (11, .str now), (12, .int .i64 e), (34, .sl 1 nl none (l.map S1)), (35, .int .i64 (l.map S1).length), (36, .int .i64 k)]) [] R := by
  intro d
  have last : ∀ (k : Nat) (now : By) (e : Int), k = 4 → R (.int .i64 (if e ≠ 0 then e else fin7 all (climb now ((bitsOf key 4).drop k) ((List.zip (bitsOf key 4) l).drop k)))) [] →
      Does PG nG G0 (fnOf PG f_greatsealref_MapShows) 0 (lp PG f_greatsealref_MapShows 0) (mkT 69 [(0, .str all), (1, .int .i64 ((key / 2 ^ k : Nat) : Int)), (11, .str now), (12, .int .i64 e), (34, .sl 1 nl none (l.map S1)), (35, .int .i64 (l.map S1).length), (36, .int .i64 k)]) [] R := by
    intro k now e hk4 hR
    subst hk4
    refine does_of_run prOk (greatsealref_MapShows_l0_run G0 _ _ _ _ _ _ _ _ R ?_)
    simp only [ifK_iff, decide_eq_true_eq, decide_eq_false_iff_not, List.length_map, hl, beq_iff_eq, beq_eq_false_iff_ne, ne_eq]
    have hcl : climb now ((bitsOf key 4).drop 4) ((List.zip (bitsOf key 4) l).drop 4) = (now, 0) := by
      rw [List.drop_eq_nil_of_le (show (bitsOf key 4).length ≤ 4 by rw [bitsOf_len]; omega)]; rfl
    rw [hcl, fin7, if_neg (show ¬ (now, (0 : Int)).2 ≠ 0 by simp)] at hR
    refine ⟨fun h => absurd h (by decide), fun _ => ⟨fun he => ⟨fun h => ?_, fun h => ?_⟩, fun he => ?_⟩⟩
    · have h : now ≠ all := by simpa using h
      rw [if_neg (by simpa using he)] at hR
      simpa [h] using hR
    · have h : now = all := by simpa using h
      rw [if_neg (by simpa using he)] at hR
      simpa [h, he] using hR
    · rw [if_pos he] at hR; exact hR
  induction d with
  | zero => intro k now e h1 h2 _ hR; exact last k now e (by omega) hR
  | succ d ih =>
    intro k now e h1 h2 hnow hR
    by_cases h4 : k = 4
    · exact last k now e h4 hR
    · have hkl : k < l.length := by omega
      have hsl := hs l[k] (List.getElem_mem hkl)
      refine does_of_run prOk (greatsealref_MapShows_l0_run G0 _ _ _ _ _ _ _ _ R ?_)
      have hkd : key / 2 ^ k ≤ key := Nat.div_le_self _ _
      rw [Int.toNat_natCast, tmod2, tdiv2 _ (by omega), pow_div2]
      simp only [ifK_iff, decide_eq_true_eq, decide_eq_false_iff_not, List.length_map, hl, bne_iff_ne, ne_eq, bne_eq_false_iff_eq, beq_iff_eq, beq_eq_false_iff_ne]
      rw [wrapN (by omega) (by omega)]
      have hz : (List.zip (bitsOf key 4) l).drop k = (bitOf key k, l[k]) :: (List.zip (bitsOf key 4) l).drop (k + 1) := by
        have hlt : k < (List.zip (bitsOf key 4) l).length := by rw [List.length_zip, bitsOf_len]; omega
        rw [List.drop_eq_getElem_cons hlt]
        congr 1
        rw [List.getElem_zip]
        congr 1
        simp [bitsOf]
      have hbs : (bitsOf key 4).drop k = bitOf key k :: (bitsOf key 4).drop (k + 1) := by
        have hlt : k < (bitsOf key 4).length := by rw [bitsOf_len]; omega
        rw [List.drop_eq_getElem_cons hlt]
        congr 1
        simp [bitsOf]
      rw [hz, hbs, climb, if_neg (show ¬ (bitOf key k, l[k]).1 ≠ bitOf key k by simp)] at hR
      have ih := fun now e h => ih (k + 1) now e (by omega) (by omega) h
      rw [List.length_map, hl] at ih
      refine ⟨fun _ => ⟨by omega, l[k], getD_map hkl, fun h => ?_, fun h => ⟨by omega, fun hb => ⟨_, _, good_NodeOf hG _ _ hnow hsl, by omega, ih _ _ (by have := tNode_len now l[k]; omega) ?_⟩,
        fun hb => ⟨_, _, good_NodeOf hG _ _ hsl hnow, by omega, ih _ _ (by have := tNode_len l[k] now; omega) ?_⟩⟩⟩, fun h => absurd (show (k : Int) < 4 by omega) h⟩
      · rw [if_pos h] at hR; exact hR
      · have hb : bitOf key k = false := by unfold bitOf; simp; omega
        rw [if_neg (by simpa using h)] at hR
        simp only [up1, hb, Bool.false_eq_true, if_false] at hR
        by_cases hc : (tNode now l[k]).2 = 0
        · rw [if_neg (by simpa using hc)]
          rw [if_neg (by simpa using hc)] at hR
          exact hR
        · rw [if_pos hc]
          rw [if_pos hc, fin7, if_pos hc] at hR
          exact hR
      · have hb : bitOf key k = true := by unfold bitOf; simp; omega
        rw [if_neg (by simpa using h)] at hR
        simp only [up1, hb, if_true] at hR
        by_cases hc : (tNode l[k] now).2 = 0
        · rw [if_neg (by simpa using hc)]
          rw [if_neg (by simpa using hc)] at hR
          exact hR
        · rw [if_pos hc]
          rw [if_pos hc, fin7, if_pos hc] at hR
          exact hR
end Go.Ab

namespace Go.Ab
open Go.Proofs Go.Gs
variable {G0 : Nat → Option Obj}

/-- The first seals of 2^d keys each. -/
def rowP (f : Nat → Option By) (d k : Nat) : List By := (List.range k).map fun j => (tTrie f d (j * 2 ^ d)).1

theorem rowP_succ (f : Nat → Option By) (d k : Nat) : rowP f d (k + 1) = rowP f d k ++ [(tTrie f d (k * 2 ^ d)).1] := by simp [rowP, List.range_succ]
theorem rowP_len (f : Nat → Option By) (d k : Nat) : (rowP f d k).length = k := by simp [rowP]
theorem rowP_get {f : Nat → Option By} {d k j : Nat} (h : j < k) : ((rowP f d k).map S1)[j]? = some [.str (tTrie f d (j * 2 ^ d)).1] := by
  rw [List.getElem?_map, rowP, List.getElem?_map, List.getElem?_range h]; rfl

/-- A row, as a value; the rows. -/
def rowA (f : Nat → Option By) (d : Nat) : List AV := [.sl 1 false none ((rowP f d (2 ^ (4 - d))).map S1)]
def rowsA (f : Nat → Option By) (d : Nat) : List (List AV) := (List.range d).map (rowA f)

theorem rowsA_succ (f : Nat → Option By) (d : Nat) : rowsA f (d + 1) = rowsA f d ++ [rowA f d] := by simp [rowsA, List.range_succ]
theorem rowsA_len (f : Nat → Option By) (d : Nat) : (rowsA f d).length = d := by simp [rowsA]

/-- Every row, from one on. -/
theorem roots_loop (hG : GlobOk G0) (f : Nat → Option By) (hf : GoodV f) {R : AV → List (Option Blk) → Prop} (hR : R (.sl 1 false none (rowsA f 5)) []) :
    ∀ (n d : Nat), 4 - d ≤ n → d ≤ 4 → Does PG nG G0 (fnOf PG f_greatsealref_MapRoots) 0 (lp PG f_greatsealref_MapRoots 1)
      (mkT 67 [(3, .sl 1 false (some 0) ((rowP f d (2 ^ (4 - d))).map S1)), (8, .sl 1 false (some 1) (rowsA f (d + 1)))]) [some (.grow 1 (2 ^ (4 - d))), some (.grow 1 (d + 1))] R := by
  intro n
  induction n with
  | zero =>
    intro d h1 h2
    obtain rfl : d = 4 := by omega
    refine does_of_run prOk (greatsealref_MapRoots_l1_run G0 _ _ _ _ _ _ R ?_)
    simp only [ifK_iff, decide_eq_true_eq, decide_eq_false_iff_not, List.length_map, rowP_len]
    exact ⟨fun h => absurd h (by decide), fun _ => hR⟩
  | succ n ih =>
    intro d h1 h2
    by_cases h4 : d = 4
    · exact ih d (by omega) h2
    · have hp2 : (2 : Nat) ^ (4 - d) = 2 ^ (4 - (d + 1)) + 2 ^ (4 - (d + 1)) := by
        have : 4 - d = 4 - (d + 1) + 1 := by omega
        rw [this, Nat.pow_succ]; omega
      have hp1 := pow_small (d := 4 - (d + 1)) (by omega)
      generalize hH : (2 : Nat) ^ (4 - (d + 1)) = H at hp2 hp1
      refine does_of_run prOk (greatsealref_MapRoots_l1_run G0 _ _ _ _ _ _ R ?_)
      simp only [ifK_iff, decide_eq_true_eq, decide_eq_false_iff_not, List.length_map, rowP_len]
      refine ⟨fun _ => ?_, fun h => absurd (show ((2 ^ (4 - d) : Nat) : Int) > 1 by rw [hp2]; omega) h⟩
      -- the next row
      have inner : ∀ (m k : Nat), H - k ≤ m → k ≤ H → Does PG nG G0 (fnOf PG f_greatsealref_MapRoots) 0 (lp PG f_greatsealref_MapRoots 2)
          (mkT 67 [(3, .sl 1 false (some 0) ((rowP f d (2 ^ (4 - d))).map S1)), (8, .sl 1 false (some 1) (rowsA f (d + 1))), (9, .sl 1 (k == 0) (some 2) ((rowP f (d + 1) k).map S1)), (10, .int .i64 ((2 * k : Nat) : Int))])
          [some (.grow 1 (2 ^ (4 - d))), some (.grow 1 (d + 1)), some (.grow 1 k)] R := by
        have fin : ∀ k : Nat, k = H → Does PG nG G0 (fnOf PG f_greatsealref_MapRoots) 0 (lp PG f_greatsealref_MapRoots 2)
            (mkT 67 [(3, .sl 1 false (some 0) ((rowP f d (2 ^ (4 - d))).map S1)), (8, .sl 1 false (some 1) (rowsA f (d + 1))), (9, .sl 1 (k == 0) (some 2) ((rowP f (d + 1) k).map S1)), (10, .int .i64 ((2 * k : Nat) : Int))])
            [some (.grow 1 (2 ^ (4 - d))), some (.grow 1 (d + 1)), some (.grow 1 k)] R := by
          intro k hk
          subst hk
          refine does_of_run prOk (greatsealref_MapRoots_l2_run G0 _ _ _ _ _ _ _ _ _ _ R ?_)
          simp only [ifK_iff, decide_eq_true_eq, decide_eq_false_iff_not, List.length_map, rowP_len, rowsA_len]
          refine ⟨fun h => absurd h (by rw [hp2]; omega), fun _ => ⟨by simp; omega, trivial, ?_⟩⟩
          have := ih (d + 1) (by omega) (by omega)
          rw [hH, rowsA_succ, rowA, hH] at this
          have e0 : (k == 0) = false := by simp; omega
          rw [e0]
          exact this
        intro m
        induction m with
        | zero => intro k g1 g2; exact fin k (by omega)
        | succ m ihm =>
          intro k g1 g2
          by_cases hk : k = H
          · exact fin k hk
          · have hget1 : ((rowP f d (2 ^ (4 - d))).map S1)[2 * k]? = some [.str (tTrie f d (2 * k * 2 ^ d)).1] := rowP_get (by omega)
            have hget2 : ((rowP f d (2 ^ (4 - d))).map S1)[2 * k + 1]? = some [.str (tTrie f d ((2 * k + 1) * 2 ^ d)).1] := rowP_get (by omega)
            have hn := tTrie_node hf (d := d) (i := 2 * k * 2 ^ d) (by omega)
            have e1 : (2 * k + 1) * 2 ^ d = 2 * k * 2 ^ d + 2 ^ d := by rw [Nat.add_mul, Nat.one_mul]
            have e2 : 2 * k * 2 ^ d = k * 2 ^ (d + 1) := by rw [Nat.pow_succ, Nat.mul_comm 2 k, Nat.mul_assoc, Nat.mul_comm 2]
            have b1 := (tTrie_good hf d (2 * k * 2 ^ d) (by omega)).2
            have b2 := (tTrie_good hf d (2 * k * 2 ^ d + 2 ^ d) (by omega)).2
            have hb : bnd d ≤ 1173 := by
              have : d = 0 ∨ d = 1 ∨ d = 2 ∨ d = 3 := by omega
              rcases this with rfl | rfl | rfl | rfl <;> decide
            rw [e1] at hget2
            have hg := good_NodeOf hG (tTrie f d (2 * k * 2 ^ d)).1 (tTrie f d (2 * k * 2 ^ d + 2 ^ d)).1 (by omega) (by omega)
            rw [hn] at hg
            refine does_of_run prOk (greatsealref_MapRoots_l2_run G0 _ _ _ _ _ _ _ _ _ _ R ?_)
            simp only [ifK_iff, decide_eq_true_eq, decide_eq_false_iff_not, List.length_map, rowP_len]
            have w1 : IntKind.i64.wrap (((2 * k : Nat) : Int) + 1) = ((2 * k + 1 : Nat) : Int) := by rw [wrapN (by omega) (by omega)]; omega
            have w2 : IntKind.i64.wrap (((2 * k : Nat) : Int) + 2) = ((2 * (k + 1) : Nat) : Int) := by rw [wrapN (by omega) (by omega)]; omega
            rw [w1, w2, Int.toNat_natCast, Int.toNat_natCast]
            refine ⟨fun _ => ⟨by omega, _, hget1, by omega, _, hget2, _, _, hg, by simp; omega, trivial, ?_⟩, fun h => absurd (show ((2 * k : Nat) : Int) < ((2 ^ (4 - d) : Nat) : Int) by rw [hp2]; omega) h⟩
            have := ihm (k + 1) (by omega) (by omega)
            rw [rowP_succ, List.map_append, ← e2] at this
            simp only [List.isEmpty_cons, Bool.and_false]
            exact this
      exact inner H 0 (by omega) (by omega)

theorem good_MapRoots (hG : GlobOk G0) (m : Mp) (nl : Bool) (hc : checkM m = 0) : Good PG nG G0 f_greatsealref_MapRoots [.mp nl (m.map KV)] [] (.sl 1 false none (rowsA (fM m) 5)) [] := by
  have hf := fM_good hc
  refine good_of_run prOk (by kernel_rfl) (greatsealref_MapRoots_run nl _ G0 _ ?_)
  suffices main : ∀ R : AV → List (Option Blk) → Prop, R (.sl 1 false none (rowsA (fM m) 5)) [] → ∀ (d k : Nat), 16 - k ≤ d → k ≤ 16 →
      Does PG nG G0 (fnOf PG f_greatsealref_MapRoots) 0 (lp PG f_greatsealref_MapRoots 0) (mkT 67 [(0, .mp nl (m.map KV)), (3, .sl 1 (k == 0) (some 0) ((rowP (fM m) 0 k).map S1)), (13, .int .i64 k)]) [some (.grow 1 k)] R from
    main _ ⟨rfl, rfl⟩ 16 0 (by omega) (by omega)
  intro R hR d
  have last : ∀ k : Nat, k = 16 → Does PG nG G0 (fnOf PG f_greatsealref_MapRoots) 0 (lp PG f_greatsealref_MapRoots 0) (mkT 67 [(0, .mp nl (m.map KV)), (3, .sl 1 (k == 0) (some 0) ((rowP (fM m) 0 k).map S1)), (13, .int .i64 k)]) [some (.grow 1 k)] R := by
    intro k hk
    subst hk
    refine does_of_run prOk (greatsealref_MapRoots_l0_run G0 _ _ _ _ _ _ R ?_)
    simp only [ifK_iff, decide_eq_true_eq, decide_eq_false_iff_not]
    exact ⟨fun h => absurd h (by decide), fun _ => roots_loop hG (fM m) hf hR 4 0 (by omega) (by omega)⟩
  induction d with
  | zero => intro k h1 h2; exact last k (by omega)
  | succ d ih =>
    intro k h1 h2
    by_cases h16 : k = 16
    · exact last k h16
    · refine does_of_run prOk (greatsealref_MapRoots_l0_run G0 _ _ _ _ _ _ R ?_)
      simp only [ifK_iff, decide_eq_true_eq, decide_eq_false_iff_not, List.length_map, rowP_len]
      rw [wrapN (by omega) (by omega)]
      have ih' := ih (k + 1) (by omega) (by omega)
      rw [rowP_succ, List.map_append] at ih'
      have e0 : k * 2 ^ 0 = k := by simp
      rw [e0] at ih'
      refine ⟨fun _ => ⟨_, _, mlookD_KV m k, fun hs => ⟨_, _, good_LeafOf _, by simp; omega, trivial, ?_⟩, fun hs => ⟨by omega, trivial, ?_⟩⟩, fun h => absurd (show (k : Int) < 16 by omega) h⟩
      · obtain ⟨v, hv⟩ := Option.isSome_iff_exists.1 hs
        have ht : (tTrie (fM m) 0 k).1 = (tLeaf ((mGet m k).getD [])).1 := by rw [tTrie, fM, hv]; rfl
        rw [ht] at ih'
        simp only [List.isEmpty_cons, Bool.and_false]
        exact ih'
      · have hv : mGet m k = none := by simpa using hs
        have ht : (tTrie (fM m) 0 k).1 = [69] := by rw [tTrie, fM, hv]; rfl
        rw [ht] at ih'
        simp only [Bool.and_false]
        exact ih'

theorem xor_one : ∀ (key : Fin 16) (k : Fin 4), IntKind.i64.wrap (((BitVec.ofInt 64 (Int.fdiv ((key.val : Nat) : Int) ((2 : Int) ^ min k.val 64)) ^^^ BitVec.ofInt 64 1).toNat : Nat) : Int) = ((sib k.val key.val / 2 ^ k.val : Nat) : Int) ∧
    sib k.val key.val / 2 ^ k.val * 2 ^ k.val = sib k.val key.val ∧ sib k.val key.val / 2 ^ k.val < 2 ^ (4 - k.val) := by decide +kernel

theorem good_MapPath (hG : GlobOk G0) (m : Mp) (nl : Bool) (hc : checkM m = 0) (key : Nat) (hk : key < 16) :
    Good PG nG G0 f_greatsealref_MapPath [.mp nl (m.map KV), .int .i64 key] [] (.sl 1 false none ((triePath (fM m) key 4).map S1)) [] := by
  refine good_of_run prOk (by kernel_rfl) (greatsealref_MapPath_run nl _ _ G0 _ ⟨_, _, good_MapRoots hG m nl hc, ?_⟩)
  suffices main : ∀ R : AV → List (Option Blk) → Prop, R (.sl 1 false none ((triePath (fM m) key 4).map S1)) [] → ∀ (d k : Nat), 4 - k ≤ d → k ≤ 4 →
      Does PG nG G0 (fnOf PG f_greatsealref_MapPath) 0 (lp PG f_greatsealref_MapPath 0) (mkT 28 [(1, .int .i64 key), (5, .sl 1 false none (rowsA (fM m) 5)), (6, .sl 1 (k == 0) (some 0) ((triePath (fM m) key k).map S1)), (10, .int .i64 k)]) [some (.grow 1 k)] R from
    main _ ⟨rfl, rfl⟩ 4 0 (by omega) (by omega)
  intro R hR d
  have last : ∀ k : Nat, k = 4 → Does PG nG G0 (fnOf PG f_greatsealref_MapPath) 0 (lp PG f_greatsealref_MapPath 0) (mkT 28 [(1, .int .i64 key), (5, .sl 1 false none (rowsA (fM m) 5)), (6, .sl 1 (k == 0) (some 0) ((triePath (fM m) key k).map S1)), (10, .int .i64 k)]) [some (.grow 1 k)] R := by
    intro k h4
    subst h4
    refine does_of_run prOk (greatsealref_MapPath_l0_run G0 _ _ _ _ _ _ _ R ?_)
    simp only [ifK_iff, decide_eq_true_eq, decide_eq_false_iff_not]
    exact ⟨fun h => absurd h (by decide), fun _ => hR⟩
  induction d with
  | zero => intro k h1 h2; exact last k (by omega)
  | succ d ih =>
    intro k h1 h2
    by_cases h4 : k = 4
    · exact last k h4
    · refine does_of_run prOk (greatsealref_MapPath_l0_run G0 _ _ _ _ _ _ _ R ?_)
      obtain ⟨x1, x2, x3⟩ := xor_one ⟨key, hk⟩ ⟨k, by omega⟩
      simp only at x1 x2 x3
      rw [Int.toNat_natCast, x1, Int.toNat_natCast]
      simp only [ifK_iff, decide_eq_true_eq, decide_eq_false_iff_not, List.length_map, triePath_len]
      rw [wrapN (by omega) (by omega)]
      have hrow : (rowsA (fM m) 5)[k]? = some [.sl 1 false none ((rowP (fM m) k (2 ^ (4 - k))).map S1)] := by
        rw [rowsA, List.getElem?_map, List.getElem?_range (by omega)]; rfl
      have hget := rowP_get (f := fM m) (d := k) x3
      rw [x2] at hget
      refine ⟨fun _ => ⟨by omega, _, _, hrow, by omega, Int.natCast_nonneg _, _, hget, by simp; omega, trivial, ?_⟩, fun h => absurd (show (k : Int) < 4 by omega) h⟩
      have := ih (k + 1) (by omega) (by omega)
      rw [triePath_succ, List.map_append] at this
      simp only [List.isEmpty_cons, Bool.and_false]
      exact this

end Go.Ab

namespace Go.Gs

abbrev En := Int × By
abbrev Bk := List En

/-- The text of an entry. -/
def textE (e : En) : By := Lib.itoa e.1 ++ 32 :: e.2

def badE (e : En) : Int := if e.1 < 0 ∨ 16 ≤ e.1 then 5 else if 12 < e.2.length then 2 else 0

def firstBad : Bk → Int
  | [] => 0
  | e :: r => if badE e ≠ 0 then badE e else firstBad r

def checkB (b : Bk) : Int := if 24 < b.length then 2 else firstBad b

theorem firstBad_ok {b : Bk} (h : firstBad b = 0) : ∀ e ∈ b, 0 ≤ e.1 ∧ e.1 < 16 ∧ e.2.length ≤ 12 := by
  induction b with
  | nil => intro e he; cases he
  | cons x r ih =>
    unfold firstBad at h
    split at h
    · rename_i hb; exact absurd h hb
    · rename_i hb
      intro e he
      rcases List.mem_cons.1 he with rfl | he
      · unfold badE at hb
        split at hb
        · simp at hb
        · split at hb
          · simp at hb
          · omega
      · exact ih h e he

theorem firstBad_mk {b : Bk} (h : ∀ e ∈ b, 0 ≤ e.1 ∧ e.1 < 16 ∧ e.2.length ≤ 12) : firstBad b = 0 := by
  induction b with
  | nil => rfl
  | cons x r ih =>
    have hx := h x (by simp)
    have : badE x = 0 := by unfold badE; rw [if_neg (by omega), if_neg (by omega)]
    unfold firstBad
    rw [if_neg (by rw [this]; simp)]
    exact ih fun e he => h e (by simp [he])

theorem checkB_ok {b : Bk} (h : checkB b = 0) : b.length ≤ 24 ∧ ∀ e ∈ b, 0 ≤ e.1 ∧ e.1 < 16 ∧ e.2.length ≤ 12 := by
  unfold checkB at h
  split at h
  · cases h
  · exact ⟨by omega, firstBad_ok h⟩

theorem checkB_mk {b : Bk} (h0 : b.length ≤ 24) (h : ∀ e ∈ b, 0 ≤ e.1 ∧ e.1 < 16 ∧ e.2.length ≤ 12) : checkB b = 0 := by
  unfold checkB
  rw [if_neg (by omega)]
  exact firstBad_mk h

theorem checkB_take {b : Bk} (h : checkB b = 0) (n : Nat) : checkB (b.take n) = 0 := by
  obtain ⟨h1, h2⟩ := checkB_ok h
  exact checkB_mk (by simp only [List.length_take]; omega) fun e he => h2 e (List.mem_of_mem_take he)

/-- Texts of all entries. -/
def textsOf (b : Bk) : List By := b.map textE

/-- Values behind all entries. -/
def valsOf (b : Bk) : Mp := b.foldl (fun m e => mPut m e.1 e.2) []

theorem valsOf_snoc (b : Bk) (e : En) : valsOf (b ++ [e]) = mPut (valsOf b) e.1 e.2 := by simp [valsOf]

theorem valsOf_nodup (b : Bk) : ((valsOf b).map (·.1)).Nodup := by
  have key : ∀ (b : Bk) (m : Mp), (m.map (·.1)).Nodup → ((b.foldl (fun m e => mPut m e.1 e.2) m).map (·.1)).Nodup := by
    intro b
    induction b with
    | nil => intro m h; exact h
    | cons e r ih => intro m h; exact ih _ (mPut_nodup h _ _)
  exact key b [] (by simp)

theorem mPut_mem {m : Mp} {k : Int} {v : By} {p : Int × By} (h : p ∈ mPut m k v) : p = (k, v) ∨ p ∈ m := by
  induction m with
  | nil => simp [mPut] at h; exact .inl h
  | cons q r ih =>
    unfold mPut at h
    split at h
    · rcases List.mem_cons.1 h with h | h
      · exact .inl h
      · exact .inr (by simp [h])
    · rcases List.mem_cons.1 h with h | h
      · exact .inr (by simp [h])
      · rcases ih h with h | h
        · exact .inl h
        · exact .inr (by simp [h])

theorem valsOf_mem {b : Bk} {p : Int × By} (h : p ∈ valsOf b) : p ∈ b := by
  have key : ∀ (b : Bk) (m : Mp), p ∈ b.foldl (fun m e => mPut m e.1 e.2) m → p ∈ b ∨ p ∈ m := by
    intro b
    induction b with
    | nil => intro m h; exact .inr h
    | cons e r ih =>
      intro m h
      rcases ih _ h with h | h
      · exact .inl (by simp [h])
      · rcases mPut_mem h with h | h
        · exact .inl (by simp [h])
        · exact .inr h
  rcases key b [] h with h | h
  · exact h
  · cases h

theorem valsOf_check {b : Bk} (h : checkB b = 0) : checkM (valsOf b) = 0 := checkM_mk fun p hp => (checkB_ok h).2 p (valsOf_mem hp)

theorem valsOf_len (b : Bk) : (valsOf b).length ≤ b.length := by
  have key : ∀ (b : Bk) (m : Mp), (b.foldl (fun m e => mPut m e.1 e.2) m).length ≤ m.length + b.length := by
    intro b
    induction b with
    | nil => intro m; exact Nat.le_refl _
    | cons e r ih =>
      intro m
      have := ih (mPut m e.1 e.2)
      rw [mPut_len] at this
      simp only [List.foldl_cons, List.length_cons]
      split at this <;> omega
  have := key b []
  simpa [valsOf] using this

/-- Texts of a book's entries are short, so that its seal is good. -/
theorem decDigits_small {u : Nat} (h : u < 100) : (Lib.decDigits u).length ≤ 2 := by
  rw [Lib.decDigits]
  split
  · simp
  · rw [Lib.decDigits, dif_pos (by omega)]; simp

theorem decDigits_len4 {u : Nat} (h : u < 100000) : (Lib.decDigits u).length ≤ 5 := by
  have step : ∀ (u k : Nat), (Lib.decDigits (u / 10)).length ≤ k → (Lib.decDigits u).length ≤ k + 1 := by
    intro u k h
    rw [Lib.decDigits]
    split
    · simp
    · simp only [List.length_append, List.length_cons, List.length_nil]; omega
  exact step u 4 (step _ 3 (step _ 2 (decDigits_small (by omega))))

theorem textE_len {e : En} (h : 0 ≤ e.1 ∧ e.1 < 16 ∧ e.2.length ≤ 12) : (textE e).length ≤ 15 := by
  unfold textE
  have he : e.1 = ((e.1.toNat : Nat) : Int) := by omega
  rw [he, itoa_nat]
  have := decDigits_small (u := e.1.toNat) (by omega)
  simp only [List.length_append, List.length_cons]; omega

theorem tRoot_short : ∀ (n : Nat) (l : List By), l.length ≤ n → n ≤ 24 → (∀ s ∈ l, s.length ≤ 15) → (tRoot l).2 = 0 ∧ (tRoot l).1.length + 7 ≤ 23 * (max 1 l.length) := by
  intro n
  induction n with
  | zero =>
    intro l h _ _
    have : l = [] := List.eq_nil_of_length_eq_zero (by omega)
    subst this
    rw [tRoot_zero rfl]; exact ⟨rfl, by simp⟩
  | succ n ih =>
    intro l hn hb hs
    rcases Nat.lt_or_ge l.length 2 with h2 | h2
    · rcases Nat.lt_or_ge l.length 1 with h1 | h1
      · have : l = [] := List.eq_nil_of_length_eq_zero (by omega)
        subst this
        rw [tRoot_zero rfl]; exact ⟨rfl, by simp⟩
      · obtain ⟨s, rfl⟩ := List.length_eq_one_iff.1 (show l.length = 1 by omega)
        have := hs s (by simp)
        have hlf : tLeaf s = (76 :: s, 0) := by unfold tLeaf; rw [if_neg (by omega)]
        rw [tRoot_one rfl, List.headD_cons, hlf]
        refine ⟨rfl, ?_⟩
        simp only [List.length_cons, List.length_nil]; omega
    · have hk1 := halfN_pos l.length
      have hk2 := halfN_lt h2
      obtain ⟨a1, a2⟩ := ih (l.take (halfN l.length)) (by simp only [List.length_take]; omega) (by omega) fun s h => hs s (List.mem_of_mem_take h)
      obtain ⟨b1, b2⟩ := ih (l.drop (halfN l.length)) (by simp only [List.length_drop]; omega) (by omega) fun s h => hs s (List.mem_of_mem_drop h)
      simp only [List.length_take, List.length_drop] at a2 b2
      have c := decDigits_len4 (u := (tRoot (l.take (halfN l.length))).1.length) (by omega)
      rw [tRoot_two h2, if_neg (by simpa using a1), if_neg (by simpa using b1)]
      unfold tNode
      rw [if_neg (by omega), itoa_nat]
      refine ⟨rfl, ?_⟩
      simp only [List.length_cons, List.length_append]
      omega

theorem texts_good {b : Bk} (h : checkB b = 0) : (tRoot (textsOf b)).2 = 0 ∧ (tRoot (textsOf b)).1.length ≤ 545 := by
  obtain ⟨h1, h2⟩ := checkB_ok h
  have hl : (textsOf b).length = b.length := by simp [textsOf]
  have := tRoot_short _ (textsOf b) (Nat.le_refl _) (by omega) fun s hs => by
    obtain ⟨e, he, rfl⟩ := List.mem_map.1 hs
    exact textE_len (h2 e he)
  exact ⟨this.1, by omega⟩

theorem textE_inj {e f : En} (he : 0 ≤ e.1) (hf : 0 ≤ f.1) (h : textE e = textE f) : e = f := by
  unfold textE at h
  have e1 : e.1 = ((e.1.toNat : Nat) : Int) := by omega
  have f1 : f.1 = ((f.1.toNat : Nat) : Int) := by omega
  rw [e1, f1, itoa_nat, itoa_nat] at h
  have no : ∀ n : Nat, (32 : UInt8) ∉ Lib.decDigits n := fun n hc => by
    have := dec_digit n _ hc
    simp at this
  obtain ⟨h1, h2⟩ := split_first (no _) (no _) h
  have := dec_inj h1
  exact Prod.ext (by omega) h2

theorem textsOf_inj : ∀ {b c : Bk}, (∀ e ∈ b, 0 ≤ e.1) → (∀ e ∈ c, 0 ≤ e.1) → textsOf b = textsOf c → b = c
  | [], [], _, _, _ => rfl
  | [], _ :: _, _, _, h => by simp [textsOf] at h
  | _ :: _, [], _, _, h => by simp [textsOf] at h
  | e :: b, f :: c, hb, hc, h => by
    simp only [textsOf, List.map_cons, List.cons.injEq] at h
    rw [textE_inj (hb e (by simp)) (hc f (by simp)) h.1, textsOf_inj (fun e he => hb e (by simp [he])) (fun e he => hc e (by simp [he])) h.2]

/-- A head. -/
structure Hd where
  n : Int
  log : By
  mp : By
  deriving DecidableEq, Inhabited

def hd0 : Hd := ⟨0, [], []⟩

/-- The head of a book. -/
def headOf (b : Bk) : Hd × Int := if checkB b ≠ 0 then (hd0, checkB b) else (⟨b.length, (tRoot (textsOf b)).1, (mapRoot (valsOf b)).1⟩, 0)

theorem headOf_ok {b : Bk} (h : checkB b = 0) : headOf b = (⟨b.length, (tRoot (textsOf b)).1, (mapRoot (valsOf b)).1⟩, 0) := by rw [headOf, if_neg (by simpa using h)]
theorem headOf_code (b : Bk) : (headOf b).2 = checkB b := by
  unfold headOf
  split
  · rfl
  · rename_i h; simpa using (show ¬ checkB b ≠ 0 from h) |> fun h => (Decidable.not_not.1 h).symm

theorem mapRoot_len {m : Mp} (h : checkM m = 0) : (mapRoot m).1.length ≤ 1173 := by
  rw [mapRoot_ok h]
  have := (tTrie_good (fM_good h) 4 0 (Nat.le_refl _)).2
  have hb : bnd 4 = 1173 := by decide
  rw [hb] at this
  exact this

/-- NO TWO BOOKS HAVE ONE HEAD. -/
theorem headOf_inj {b c : Bk} (hb : checkB b = 0) (hc : checkB c = 0) : headOf b = headOf c ↔ b = c := by
  constructor
  · intro h
    rw [headOf_ok hb, headOf_ok hc] at h
    have h2 : (tRoot (textsOf b)).1 = (tRoot (textsOf c)).1 := by injection h with h _; injection h
    have := tRoot_inj _ _ _ (Nat.le_refl _) (texts_good hb).1 (texts_good hc).1 h2
    exact textsOf_inj (fun e he => ((checkB_ok hb).2 e he).1) (fun e he => ((checkB_ok hc).2 e he).1) this
  · rintro rfl; rfl

/-- A head may be one. -/
def checkH (h : Hd) : Int := if h.n < 0 ∨ 24 < h.n then 3 else if 20000 < h.log.length ∨ 20000 < h.mp.length then 2 else 0

theorem headOf_check {b : Bk} (h : checkB b = 0) : checkH (headOf b).1 = 0 := by
  rw [headOf_ok h]
  have h1 := (checkB_ok h).1
  have h2 := (texts_good h).2
  have h3 := mapRoot_len (valsOf_check h)
  unfold checkH
  simp only
  rw [if_neg (by omega), if_neg (by omega)]

/-- Put an entry behind all. -/
def putBk (b : Bk) (e : En) : Bk × Int := if checkB b ≠ 0 then ([], checkB b) else if checkB (b ++ [e]) ≠ 0 then ([], checkB (b ++ [e])) else (b ++ [e], 0)
end Go.Gs

namespace Go.Ab
open Go.Proofs Go.Gs
variable {G0 : Nat → Option Obj}

end Go.Ab

namespace Go.Ab
open Go.Proofs
set_option maxRecDepth 100000

def an_slices_Reverse_pair : FAnn := ⟨[], [(0, [0, 2, 3], [])], none, []⟩
def an_slices_Reverse_pair_nil : FAnn := ⟨[], [(0, [0, 2, 3], [])], none, []⟩

theorem slices_Reverse_pair_run (n : Nat) (xs : List (List AV)) (G0 : Nat → Option Go.Obj) (R : AV → List (Option Blk) → Prop) (h :
  Does PG nG G0 (fnOf PG f_slices_Reverse_pair) (1 : Nat) (lp PG f_slices_Reverse_pair (0 : Nat))
  (mkT (28 : Nat) [((0 : Nat), AV.rsl (2 : Nat) (0 : Nat) (0 : Nat) n), ((2 : Nat), AV.int Go.IntKind.i64 (0 : Int)), ((3 : Nat), AV.int Go.IntKind.i64 (Go.IntKind.wrap Go.IntKind.i64 ((↑n : Int) - (1 : Int))))])
  [some (Blk.arr (2 : Nat) xs)] R) :
  Hold (runF PG ty nG G0 an_slices_Reverse_pair f_slices_Reverse_pair [AV.rsl (2 : Nat) (0 : Nat) (0 : Nat) n] [some (Blk.arr (2 : Nat) xs)] R) := kshow h (by kernel_rfl)

theorem slices_Reverse_pair_l0_run (G0 : Nat → Option Obj) (m0 : Nat) (m1 : Nat) (n2 : Int) (n3 : Int) (xs4 : List (List AV)) (R : AV → List (Option Blk) → Prop) (h :
  ifK (decide (n2 < n3))
  ((0 : Int) ≤ n3 ∧
    n3 < (↑m1 : Int) ∧
      ∃ n5 n6,
        (∃ xs7, xs4[m0 + Int.toNat n3]? = some xs7 ∧ List.take (2 : Nat) (List.drop (0 : Nat) xs7) = [AV.int Go.IntKind.i64 n5, AV.int Go.IntKind.i64 n6]) ∧
          (0 : Int) ≤ n2 ∧
            n2 < (↑m1 : Int) ∧
              ∃ n8 n9,
                (∃ xs10, xs4[m0 + Int.toNat n2]? = some xs10 ∧ List.take (2 : Nat) (List.drop (0 : Nat) xs10) = [AV.int Go.IntKind.i64 n8, AV.int Go.IntKind.i64 n9]) ∧
                  (0 : Int) ≤ n2 ∧
                    n2 < (↑m1 : Int) ∧
                      (0 : Int) ≤ n3 ∧
                        n3 < (↑m1 : Int) ∧
                          Does PG nG G0 (fnOf PG f_slices_Reverse_pair) (1 : Nat) (lp PG f_slices_Reverse_pair (0 : Nat))
                            (mkT (28 : Nat)
                              [((0 : Nat), AV.rsl (2 : Nat) (0 : Nat) m0 m1), ((2 : Nat), AV.int Go.IntKind.i64 (Go.IntKind.wrap Go.IntKind.i64 (n2 + (1 : Int)))),
                                ((3 : Nat), AV.int Go.IntKind.i64 (Go.IntKind.wrap Go.IntKind.i64 (n3 - (1 : Int))))])
                            [some
                                (Blk.arr (2 : Nat)
                                  (List.set (List.set xs4 (m0 + Int.toNat n2) (setR (List.getD xs4 (m0 + Int.toNat n2) []) (0 : Nat) [AV.int Go.IntKind.i64 n5, AV.int Go.IntKind.i64 n6])) (m0 + Int.toNat n3)
                                    (setR (List.getD (List.set xs4 (m0 + Int.toNat n2) (setR (List.getD xs4 (m0 + Int.toNat n2) []) (0 : Nat) [AV.int Go.IntKind.i64 n5, AV.int Go.IntKind.i64 n6])) (m0 + Int.toNat n3) []) (0 : Nat)
                                      [AV.int Go.IntKind.i64 n8, AV.int Go.IntKind.i64 n9])))]
                            R)
  (R (AV.tup []) [some (Blk.arr (2 : Nat) xs4)])) :
  Hold (runL PG ty nG G0 an_slices_Reverse_pair f_slices_Reverse_pair (0 : Nat) (1 : Nat)
  (mkT (28 : Nat) [((0 : Nat), AV.rsl (2 : Nat) (0 : Nat) m0 m1), ((2 : Nat), AV.int Go.IntKind.i64 n2), ((3 : Nat), AV.int Go.IntKind.i64 n3)]) [some (Blk.arr (2 : Nat) xs4)] R) := kshow h (by kernel_rfl)

theorem slices_Reverse_pair_nil_run (G0 : Nat → Option Go.Obj) (R : AV → List (Option Blk) → Prop) (h :
  Does PG nG G0 (fnOf PG f_slices_Reverse_pair) (0 : Nat) (lp PG f_slices_Reverse_pair (0 : Nat)) (mkT (28 : Nat) [((0 : Nat), AV.sl (2 : Nat) true none []), ((2 : Nat), AV.int Go.IntKind.i64 (0 : Int)), ((3 : Nat), AV.int Go.IntKind.i64 (-1 : Int))]) [] R) :
  Hold (runF PG ty nG G0 an_slices_Reverse_pair_nil f_slices_Reverse_pair [AV.sl (2 : Nat) true none []] [] R) := kshow h (by kernel_rfl)

theorem slices_Reverse_pair_nil_l0_run (G0 : Nat → Option Obj) (b0 : Bool) (xs1 : List (List AV)) (n2 : Int) (n3 : Int) (R : AV → List (Option Blk) → Prop) (h :
  ifK (decide (n2 < n3))
  ((0 : Int) ≤ n3 ∧
    ∃ n4 n5,
      xs1[Int.toNat n3]? = some [AV.int Go.IntKind.i64 n4, AV.int Go.IntKind.i64 n5] ∧
        (0 : Int) ≤ n2 ∧ ∃ n6 n7, xs1[Int.toNat n2]? = some [AV.int Go.IntKind.i64 n6, AV.int Go.IntKind.i64 n7] ∧ (0 : Int) ≤ n2 ∧ ∃ n8 n9, xs1[Int.toNat n2]? = some [AV.int Go.IntKind.i64 n8, AV.int Go.IntKind.i64 n9] ∧ False)
  (R (AV.tup []) [])) :
  Hold (runL PG ty nG G0 an_slices_Reverse_pair_nil f_slices_Reverse_pair (0 : Nat) (0 : Nat) (mkT (28 : Nat) [((0 : Nat), AV.sl (2 : Nat) b0 none xs1), ((2 : Nat), AV.int Go.IntKind.i64 n2), ((3 : Nat), AV.int Go.IntKind.i64 n3)]) [] R) := kshow h (by kernel_rfl)

end Go.Ab

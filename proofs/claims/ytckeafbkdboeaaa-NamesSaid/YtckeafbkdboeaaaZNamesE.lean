/- What a proof of Names leans on (5): The types' table of this program, its functions' numbers; What the runs come to; Contracts: the names' law; no condition. -/
import Derived.Test.YtckeafbkdboeaaaZNamesD
import Derived.Test.YtckeafbkdboeaaaProg
namespace Go.Ab
open Go.Proofs
set_option maxRecDepth 100000
def tyL : List (Option TI) := [
  none,
  some ⟨.scalar (.func), 1, 8, [.func]⟩,
  some ⟨.scalar (.int .i64), 1, 8, [.int .i64]⟩,
  some ⟨.scalar (.int .i64), 1, 8, [.int .i64]⟩,
  some ⟨.scalar (.bool), 1, 1, [.bool]⟩,
  some ⟨.scalar (.int .u8), 1, 1, [.int .u8]⟩,
  some ⟨.scalar (.int .u8), 1, 1, [.int .u8]⟩,
  some ⟨.struct [(0, 2), (1, 3), (2, 4), (3, 6)], 4, 24, [.int .i64, .int .i64, .bool, .int .u8]⟩,
  some ⟨.struct [(0, 2), (1, 3), (2, 4), (3, 6)], 4, 24, [.int .i64, .int .i64, .bool, .int .u8]⟩,
  some ⟨.scalar (.str), 1, 16, [.str]⟩,
  some ⟨.scalar (.str), 1, 16, [.str]⟩,
  some ⟨.scalar (.str), 1, 16, [.str]⟩,
  some ⟨.scalar (.int .u64), 1, 8, [.int .u64]⟩,
  none,
  none,
  some ⟨.scalar (.ptr), 1, 8, [.ptr]⟩,
  some ⟨.scalar (.ptr), 1, 8, [.ptr]⟩,
  some ⟨.scalar (.ptr), 1, 8, [.ptr]⟩,
  none,
  none,
  some ⟨.scalar (.iface), 1, 16, [.iface]⟩,
  some ⟨.scalar (.int .i32), 1, 4, [.int .i32]⟩,
  some ⟨.scalar (.int .i64), 1, 8, [.int .i64]⟩,
  some ⟨.slice 22, 1, 24, [.sl 1]⟩,
  some ⟨.slice 3, 1, 24, [.sl 1]⟩,
  some ⟨.scalar (.func), 1, 8, [.func]⟩,
  some ⟨.scalar (.func), 1, 8, [.func]⟩,
  some ⟨.scalar (.func), 1, 8, [.func]⟩,
  none,
  none,
  some ⟨.arr 0 16, 0, 0, []⟩,
  none,
  none,
  some ⟨.scalar (.func), 1, 8, [.func]⟩,
  some ⟨.scalar (.int .u32), 1, 4, [.int .u32]⟩,
  some ⟨.scalar (.int .u8), 1, 1, [.int .u8]⟩,
  some ⟨.scalar (.int .u8), 1, 1, [.int .u8]⟩,
  some ⟨.scalar (.func), 1, 8, [.func]⟩,
  some ⟨.scalar (.ptr), 1, 8, [.ptr]⟩,
  some ⟨.scalar (.int .i32), 1, 4, [.int .i32]⟩,
  some ⟨.scalar (.int .i32), 1, 4, [.int .i32]⟩,
  none,
  none,
  none]
abbrev ty : Tab := tabOfL tyL
noncomputable abbrev PG : Program := Try.prog
theorem prOk : ProgOk PG ty := progOk_of (by kernel_rfl) (by kernel_rfl) (by kernel_rfl)
abbrev nG : Nat := 0
abbrev f_main_main : Nat := 0
abbrev f_gosem_cut : Nat := 1
abbrev f_gosem_cut_init : Nat := 2
abbrev f_greatseallaw_Names : Nat := 3
abbrev f_slices_Equal_int : Nat := 4
abbrev f_runtime_boundsError_Error : Nat := 5
abbrev f_runtime_boundsError_RuntimeError : Nat := 6
abbrev f_runtime_errorString_Error : Nat := 7
abbrev f_runtime_errorString_RuntimeError : Nat := 8
abbrev f_runtime_plainError_Error : Nat := 9
abbrev f_runtime_plainError_RuntimeError : Nat := 10
abbrev f_runtime_errorAddressString_Error : Nat := 11
abbrev f_runtime_errorAddressString_RuntimeError : Nat := 12
abbrev f_runtime_TypeAssertionError_Error : Nat := 13
abbrev f_runtime_TypeAssertionError_RuntimeError : Nat := 14
abbrev f_runtime_PanicNilError_Error : Nat := 15
abbrev f_runtime_PanicNilError_RuntimeError : Nat := 16
abbrev f_internal_abi_Type_Align : Nat := 17
abbrev f_internal_runtime_maps_unhashableTypeError_Error : Nat := 18
abbrev f_internal_runtime_maps_unhashableTypeError_RuntimeError : Nat := 19
abbrev f_internal_abi_Kind_String : Nat := 20
end Go.Ab

namespace Go.Ab
open Go.Proofs
set_option maxRecDepth 100000

def an_greatseallaw_Names : FAnn := ⟨[], [(0, [7, 8, 9], [])], none, []⟩
def an_slices_Equal_int : FAnn := ⟨[], [(0, [0, 1, 12, 13], [])], none, []⟩

theorem greatseallaw_Names_run (G0 : Nat → Option Go.Obj) (R : AV → List (Option Blk) → Prop) (h :
  Does PG nG G0 (fnOf PG f_greatseallaw_Names) (0 : Nat) (lp PG f_greatseallaw_Names (0 : Nat))
  (mkT (28 : Nat)
    [((7 : Nat),
        AV.sl (1 : Nat) false (some (0 : Nat))
          [[AV.int Go.IntKind.i64 (0 : Int)], [AV.int Go.IntKind.i64 (1 : Int)], [AV.int Go.IntKind.i64 (2 : Int)], [AV.int Go.IntKind.i64 (3 : Int)], [AV.int Go.IntKind.i64 (4 : Int)], [AV.int Go.IntKind.i64 (5 : Int)],
            [AV.int Go.IntKind.i64 (6 : Int)], [AV.int Go.IntKind.i64 (7 : Int)]]),
      ((8 : Nat), AV.int Go.IntKind.i64 (8 : Int)), ((9 : Nat), AV.int Go.IntKind.i64 (0 : Int))])
  [some (Blk.grow (1 : Nat) (8 : Nat))] R) :
  Hold (runF PG ty nG G0 an_greatseallaw_Names f_greatseallaw_Names [] [] R) := kshow h (by kernel_rfl)

theorem greatseallaw_Names_l0_run (G0 : Nat → Option Obj) (b0 : Bool) (xs1 : List (List AV)) (n2 : Int) (n3 : Int) (m4 : Nat) (R : AV → List (Option Blk) → Prop) (h :
  ifK (decide (n3 < n2))
  ((0 : Int) ≤ n3 ∧
    ∃ n5,
      xs1[Int.toNat n3]? = some [AV.int Go.IntKind.i64 n5] ∧
        ifK (n5 != n3) (R (AV.bool false) [])
          (Does PG nG G0 (fnOf PG f_greatseallaw_Names) (0 : Nat) (lp PG f_greatseallaw_Names (0 : Nat))
            (mkT (28 : Nat) [((7 : Nat), AV.sl (1 : Nat) b0 (some (0 : Nat)) xs1), ((8 : Nat), AV.int Go.IntKind.i64 n2), ((9 : Nat), AV.int Go.IntKind.i64 (Go.IntKind.wrap Go.IntKind.i64 (n3 + (1 : Int))))]) [some (Blk.grow (1 : Nat) m4)]
            R))
  (∃ b6,
    Good PG nG G0 f_slices_Equal_int
        [AV.sl (1 : Nat) false none
            [[AV.int Go.IntKind.i64 (20000 : Int)], [AV.int Go.IntKind.i64 (12 : Int)], [AV.int Go.IntKind.i64 (24 : Int)], [AV.int Go.IntKind.i64 (16 : Int)], [AV.int Go.IntKind.i64 (4 : Int)], [AV.int Go.IntKind.i64 (3 : Int)],
              [AV.int Go.IntKind.i64 (80 : Int)]],
          AV.sl (1 : Nat) false none
            [[AV.int Go.IntKind.i64 (20000 : Int)], [AV.int Go.IntKind.i64 (12 : Int)], [AV.int Go.IntKind.i64 (24 : Int)], [AV.int Go.IntKind.i64 (16 : Int)], [AV.int Go.IntKind.i64 (4 : Int)], [AV.int Go.IntKind.i64 (3 : Int)],
              [AV.int Go.IntKind.i64 (80 : Int)]]]
        [] (AV.bool b6) [] ∧
      ifK b6
        (∃ b7,
          Good PG nG G0 f_slices_Equal_int
              [AV.sl (1 : Nat) false none [[AV.int Go.IntKind.i64 (1 : Int)], [AV.int Go.IntKind.i64 (2 : Int)], [AV.int Go.IntKind.i64 (3 : Int)], [AV.int Go.IntKind.i64 (4 : Int)], [AV.int Go.IntKind.i64 (5 : Int)]],
                AV.sl (1 : Nat) false none [[AV.int Go.IntKind.i64 (1 : Int)], [AV.int Go.IntKind.i64 (2 : Int)], [AV.int Go.IntKind.i64 (3 : Int)], [AV.int Go.IntKind.i64 (4 : Int)], [AV.int Go.IntKind.i64 (5 : Int)]]]
              [] (AV.bool b7) [] ∧
            R (AV.bool b7) [])
        (R (AV.bool false) []))) :
  Hold (runL PG ty nG G0 an_greatseallaw_Names f_greatseallaw_Names (0 : Nat) (0 : Nat) (mkT (28 : Nat) [((7 : Nat), AV.sl (1 : Nat) b0 (some (0 : Nat)) xs1), ((8 : Nat), AV.int Go.IntKind.i64 n2), ((9 : Nat), AV.int Go.IntKind.i64 n3)])
  [some (Blk.grow (1 : Nat) m4)] R) := kshow h (by kernel_rfl)

theorem slices_Equal_int_run (nls10 : Bool) (s10 : List (List AV)) (nls21 : Bool) (s21 : List (List AV)) (G0 : Nat → Option Go.Obj) (R : AV → List (Option Blk) → Prop) (h :
  ifK ((↑(List.length s10) : Int) != (↑(List.length s21) : Int)) (R (AV.bool false) [])
  (Does PG nG G0 (fnOf PG f_slices_Equal_int) (0 : Nat) (lp PG f_slices_Equal_int (0 : Nat))
    (mkT (26 : Nat) [((0 : Nat), AV.sl (1 : Nat) nls10 none s10), ((1 : Nat), AV.sl (1 : Nat) nls21 none s21), ((12 : Nat), AV.int Go.IntKind.i64 (↑(List.length s10) : Int)), ((13 : Nat), AV.int Go.IntKind.i64 (0 : Int))]) [] R)) :
  Hold (runF PG ty nG G0 an_slices_Equal_int f_slices_Equal_int [AV.sl (1 : Nat) nls10 none s10, AV.sl (1 : Nat) nls21 none s21] [] R) := kshow h (by kernel_rfl)

theorem slices_Equal_int_l0_run (G0 : Nat → Option Obj) (b0 : Bool) (xs1 : List (List AV)) (b2 : Bool) (xs3 : List (List AV)) (n4 : Int) (n5 : Int) (R : AV → List (Option Blk) → Prop) (h :
  ifK (decide (n5 < n4))
  ((0 : Int) ≤ n5 ∧
    ∃ n6,
      xs1[Int.toNat n5]? = some [AV.int Go.IntKind.i64 n6] ∧
        (0 : Int) ≤ n5 ∧
          ∃ n7,
            xs3[Int.toNat n5]? = some [AV.int Go.IntKind.i64 n7] ∧
              ifK (n6 != n7) (R (AV.bool false) [])
                (Does PG nG G0 (fnOf PG f_slices_Equal_int) (0 : Nat) (lp PG f_slices_Equal_int (0 : Nat))
                  (mkT (26 : Nat)
                    [((0 : Nat), AV.sl (1 : Nat) b0 none xs1), ((1 : Nat), AV.sl (1 : Nat) b2 none xs3), ((12 : Nat), AV.int Go.IntKind.i64 n4), ((13 : Nat), AV.int Go.IntKind.i64 (Go.IntKind.wrap Go.IntKind.i64 (n5 + (1 : Int))))])
                  [] R))
  (R (AV.bool true) [])) :
  Hold (runL PG ty nG G0 an_slices_Equal_int f_slices_Equal_int (0 : Nat) (0 : Nat)
  (mkT (26 : Nat) [((0 : Nat), AV.sl (1 : Nat) b0 none xs1), ((1 : Nat), AV.sl (1 : Nat) b2 none xs3), ((12 : Nat), AV.int Go.IntKind.i64 n4), ((13 : Nat), AV.int Go.IntKind.i64 n5)]) [] R) := kshow h (by kernel_rfl)

end Go.Ab

namespace Go.Ab
open Go.Proofs
variable {G0 : Nat → Option Obj}

theorem wrap64 {n : Int} (h0 : -9223372036854775808 ≤ n) (h1 : n ≤ 9223372036854775807) : IntKind.i64.wrap n = n := by
  rw [IntKind.wrap_i64]; omega

theorem wrapN {n : Int} (h0 : 0 ≤ n) (h1 : n ≤ 1000000000) : IntKind.i64.wrap n = n := wrap64 (by omega) (by omega)

theorem loop_down {D : Nat → Prop} (n : Nat) (hend : D n) (hstep : ∀ i, i < n → D (i + 1) → D i) : D 0 := by
  have key : ∀ m i, n - i ≤ m → i ≤ n → D i := by
    intro m
    induction m with
    | zero => intro i h1 h2; obtain rfl : i = n := by omega
              exact hend
    | succ m ih =>
      intro i h1 h2
      rcases Nat.lt_or_ge i n with h | h
      · exact hstep i h (ih (i + 1) (by omega) (by omega))
      · obtain rfl : i = n := by omega
        exact hend
  exact key n 0 (by omega) (by omega)

theorem getI {l : List Int} {i : Nat} (h : i < l.length) : (l.map I1)[i]? = some [AV.int .i64 l[i]] := by rw [List.getElem?_map, List.getElem?_eq_getElem h]; rfl

theorem good_EqualInt (a : List Int) (ha : a.length ≤ 1000) (na nb : Bool) : Good PG nG G0 f_slices_Equal_int [.sl 1 na none (a.map I1), .sl 1 nb none (a.map I1)] [] (.bool true) [] := by
  refine good_of_run prOk (by kernel_rfl) (slices_Equal_int_run na _ nb _ G0 _ ?_)
  rw [bne_self_eq_false, List.length_map]
  refine loop_down (D := fun i : Nat => Does PG nG G0 (fnOf PG f_slices_Equal_int) 0 (lp PG f_slices_Equal_int 0) (mkT 26 [(0, .sl 1 na none (a.map I1)), (1, .sl 1 nb none (a.map I1)), (12, .int .i64 a.length), (13, .int .i64 i)]) [] fun r' H'' => r' = .bool true ∧ H'' = []) a.length ?_ (fun i hi ih => ?_)
  · refine does_of_run prOk (slices_Equal_int_l0_run G0 na _ nb _ _ _ _ ?_)
    simp only [ifK_iff, decide_eq_true_eq, decide_eq_false_iff_not]
    exact ⟨fun h => by omega, fun _ => ⟨trivial, trivial⟩⟩
  · refine does_of_run prOk (slices_Equal_int_l0_run G0 na _ nb _ _ _ _ ?_)
    simp only [ifK_iff, decide_eq_true_eq, decide_eq_false_iff_not, Int.toNat_natCast]
    rw [wrapN (by omega) (by omega)]
    refine ⟨fun _ => ⟨by omega, _, getI hi, by omega, _, getI hi, fun h => ?_, fun _ => ih⟩, fun h => by omega⟩
    simp at h

def errs8 : List Int := [0, 1, 2, 3, 4, 5, 6, 7]

theorem errs8_get : ∀ i : Fin 8, errs8[i.val]? = some (i.val : Int) := by decide

theorem good_Names : Good PG nG G0 f_greatseallaw_Names [] [] (.bool true) [] := by
  refine good_of_run prOk (by kernel_rfl) (greatseallaw_Names_run G0 _ ?_)
  refine loop_down (D := fun i : Nat => Does PG nG G0 (fnOf PG f_greatseallaw_Names) 0 (lp PG f_greatseallaw_Names 0) (mkT 28 [(7, .sl 1 false (some 0) (errs8.map I1)), (8, .int .i64 8), (9, .int .i64 i)]) [some (.grow 1 8)] fun r' H'' => r' = .bool true ∧ H'' = []) 8 ?_ (fun i hi ih => ?_)
  · refine does_of_run prOk (greatseallaw_Names_l0_run G0 _ _ _ _ _ _ ?_)
    have e : decide (((8 : Nat) : Int) < 8) = false := by decide
    rw [e]
    exact ⟨_, good_EqualInt [20000, 12, 24, 16, 4, 3, 80] (by decide) false false, _, good_EqualInt [1, 2, 3, 4, 5] (by decide) false false, rfl, rfl⟩
  · refine does_of_run prOk (greatseallaw_Names_l0_run G0 _ _ _ _ _ _ ?_)
    rw [decide_eq_true (show (i : Int) < 8 by omega), Int.toNat_natCast, wrapN (by omega) (by omega)]
    have hg : (errs8.map I1)[i]? = some [AV.int .i64 (i : Int)] := by rw [List.getElem?_map, errs8_get ⟨i, hi⟩]; rfl
    refine ⟨by omega, _, hg, ?_⟩
    rw [bne_self_eq_false]
    exact ih
end Go.Ab

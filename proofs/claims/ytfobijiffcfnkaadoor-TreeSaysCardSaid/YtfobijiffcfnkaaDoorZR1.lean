/- What the runs come to; no condition. -/
import Derived.Test.YtfobijiffcfnkaaDoorZT1
namespace Go.Ab
open Go.Proofs
set_option maxRecDepth 100000

def an_tree_Root : FAnn := ⟨[], [], none⟩
def an_tree_Half : FAnn := ⟨[], [(0, [0, 4], [])], none⟩
def an_seal_None : FAnn := ⟨[], [], none⟩
def an_seal_Leaf : FAnn := ⟨[], [], none⟩
def an_seal_Node : FAnn := ⟨[], [], none⟩
def an_greatsealref_HalfOf : FAnn := ⟨[], [(0, [0, 3], [])], none⟩
def an_greatsealref_LeafOf : FAnn := ⟨[], [], none⟩
def an_greatsealref_NodeOf : FAnn := ⟨[], [], none⟩
def an_slices_Equal_string : FAnn := ⟨[], [(0, [0, 1, 12, 13], [])], none⟩
def an_greatseallaw_at : FAnn := ⟨[], [], none⟩
def an_greatseallaw_planted : FAnn := ⟨[], [], none⟩
def an_greatseallaw_TreeSays : FAnn := ⟨[], [], none⟩
def an_greatsealref_RootOf : FAnn := ⟨[(7, 3, ⟨[0, 1], []⟩)], [], none⟩
def an_greatsealref_RootOf_c1 : FAnn := ⟨[(4, 3, ⟨[0, 1], []⟩), (7, 3, ⟨[0, 1], []⟩)], [], none⟩

theorem tree_Root_run (nll0 : Bool) (l0 : List (List AV)) (G0 : Nat → Option Go.Obj) (R : AV → List (Option Blk) → Prop) (h :
  ifK (decide ((↑(List.length l0) : Int) > (24 : Int))) (R (AV.tup [AV.str [], AV.int Go.IntKind.i64 (2 : Int)]) [])
  (ifK ((↑(List.length l0) : Int) == (0 : Int)) (∃ s0, Good PG (3 : Nat) G0 (44 : Nat) [] [] (AV.str s0) [] ∧ R (AV.tup [AV.str s0, AV.int Go.IntKind.i64 (0 : Int)]) [])
    (ifK ((↑(List.length l0) : Int) == (1 : Int))
      ((0 : Int) ≤ (0 : Int) ∧ ∃ s1, l0[(0 : Nat)]? = some [AV.str s1] ∧ ∃ s2 n3, Good PG (3 : Nat) G0 (45 : Nat) [AV.str s1] [] (AV.tup [AV.str s2, AV.int Go.IntKind.i64 n3]) [] ∧ R (AV.tup [AV.str s2, AV.int Go.IntKind.i64 n3]) [])
      (∃ n4 n5,
        Good PG (3 : Nat) G0 (16 : Nat) [AV.int Go.IntKind.i64 (↑(List.length l0) : Int)] [] (AV.tup [AV.int Go.IntKind.i64 n4, AV.int Go.IntKind.i64 n5]) [] ∧
          ifK (n5 != (0 : Int)) (R (AV.tup [AV.str [], AV.int Go.IntKind.i64 n5]) [])
            ((0 : Int) ≤ (0 : Int) ∧
              (0 : Int) ≤ n4 ∧
                n4 ≤ (↑(List.length l0) : Int) ∧
                  ∃ s6 n7,
                    Good PG (3 : Nat) G0 (15 : Nat) [AV.sl (1 : Nat) nll0 none (List.drop (0 : Nat) (List.take (Int.toNat n4) l0))] [] (AV.tup [AV.str s6, AV.int Go.IntKind.i64 n7]) [] ∧
                      ifK (n7 != (0 : Int)) (R (AV.tup [AV.str [], AV.int Go.IntKind.i64 n7]) [])
                        ((0 : Int) ≤ n4 ∧
                          n4 ≤ (↑(List.length l0) : Int) ∧
                            (↑(List.length l0) : Int) ≤ (↑(List.length l0) : Int) ∧
                              ∃ s8 n9,
                                Good PG (3 : Nat) G0 (15 : Nat) [AV.sl (1 : Nat) nll0 none (List.drop (Int.toNat n4) (List.take (Int.toNat (↑(List.length l0) : Int)) l0))] [] (AV.tup [AV.str s8, AV.int Go.IntKind.i64 n9]) [] ∧
                                  ifK (n9 != (0 : Int)) (R (AV.tup [AV.str [], AV.int Go.IntKind.i64 n9]) [])
                                    (∃ s10 n11, Good PG (3 : Nat) G0 (46 : Nat) [AV.str s6, AV.str s8] [] (AV.tup [AV.str s10, AV.int Go.IntKind.i64 n11]) [] ∧ R (AV.tup [AV.str s10, AV.int Go.IntKind.i64 n11]) []))))))) :
  Hold (runF PG ty (3 : Nat) G0 an_tree_Root (15 : Nat) [AV.sl (1 : Nat) nll0 none l0] [] R) := kshow h (by kernel_rfl)

theorem tree_Half_run (n0 : Int) (G0 : Nat → Option Go.Obj) (R : AV → List (Option Blk) → Prop) (h :
  ifK (decide (n0 < (2 : Int))) (R (AV.tup [AV.int Go.IntKind.i64 (0 : Int), AV.int Go.IntKind.i64 (3 : Int)]) [])
  (ifK (decide (n0 > (24 : Int))) (R (AV.tup [AV.int Go.IntKind.i64 (0 : Int), AV.int Go.IntKind.i64 (3 : Int)]) [])
    (Does PG (3 : Nat) G0 (fnOf PG (16 : Nat)) (0 : Nat) (lp PG (16 : Nat) (0 : Nat)) (mkT (18 : Nat) [((0 : Nat), AV.int Go.IntKind.i64 n0), ((4 : Nat), AV.int Go.IntKind.i64 (1 : Int))]) [] R))) :
  Hold (runF PG ty (3 : Nat) G0 an_tree_Half (16 : Nat) [AV.int Go.IntKind.i64 n0] [] R) := kshow h (by kernel_rfl)

theorem tree_Half_l0_run (G0 : Nat → Option Obj) (n0 : Int) (n1 : Int) (R : AV → List (Option Blk) → Prop) (h :
  ifK (decide (Go.IntKind.wrap Go.IntKind.i64 ((2 : Int) * n1) < n0))
  (Does PG (3 : Nat) G0 (fnOf PG (16 : Nat)) (0 : Nat) (lp PG (16 : Nat) (0 : Nat)) (mkT (18 : Nat) [((0 : Nat), AV.int Go.IntKind.i64 n0), ((4 : Nat), AV.int Go.IntKind.i64 (Go.IntKind.wrap Go.IntKind.i64 (n1 * (2 : Int))))]) [] R)
  (R (AV.tup [AV.int Go.IntKind.i64 n1, AV.int Go.IntKind.i64 (0 : Int)]) [])) :
  Hold (runL PG ty (3 : Nat) G0 an_tree_Half (16 : Nat) (0 : Nat) (0 : Nat) (mkT (18 : Nat) [((0 : Nat), AV.int Go.IntKind.i64 n0), ((4 : Nat), AV.int Go.IntKind.i64 n1)]) [] R) := kshow h (by kernel_rfl)

theorem seal_None_run (G0 : Nat → Option Go.Obj) (R : AV → List (Option Blk) → Prop) (h :
  R (AV.str [(69 : UInt8)]) []) :
  Hold (runF PG ty (3 : Nat) G0 an_seal_None (44 : Nat) [] [] R) := kshow h (by kernel_rfl)

theorem seal_Leaf_run (s0 : List UInt8) (G0 : Nat → Option Go.Obj) (R : AV → List (Option Blk) → Prop) (h :
  ifK (decide ((↑(List.length s0) : Int) > (20000 : Int))) (R (AV.tup [AV.str [], AV.int Go.IntKind.i64 (2 : Int)]) [])
  ((1 : Nat) + List.length s0 ≤ (9223372036854775807 : Nat) ∧ R (AV.tup [AV.str ([(76 : UInt8)] ++ s0), AV.int Go.IntKind.i64 (0 : Int)]) [])) :
  Hold (runF PG ty (3 : Nat) G0 an_seal_Leaf (45 : Nat) [AV.str s0] [] R) := kshow h (by kernel_rfl)

theorem seal_Node_run (a0 : List UInt8) (b1 : List UInt8) (G0 : Nat → Option Go.Obj) (R : AV → List (Option Blk) → Prop) (h :
  ifK (decide ((↑(List.length a0) : Int) > (20000 : Int))) (R (AV.tup [AV.str [], AV.int Go.IntKind.i64 (2 : Int)]) [])
  (ifK (decide ((↑(List.length b1) : Int) > Go.IntKind.wrap Go.IntKind.i64 ((20000 : Int) - (↑(List.length a0) : Int)))) (R (AV.tup [AV.str [], AV.int Go.IntKind.i64 (2 : Int)]) [])
    (∃ s0,
      Good PG (3 : Nat) G0 (59 : Nat) [AV.int Go.IntKind.i64 (↑(List.length a0) : Int)] [] (AV.str s0) [] ∧
        (1 : Nat) + List.length s0 ≤ (9223372036854775807 : Nat) ∧
          List.length ([(78 : UInt8)] ++ s0) + (1 : Nat) ≤ (9223372036854775807 : Nat) ∧
            List.length ([(78 : UInt8)] ++ s0 ++ [(58 : UInt8)]) + List.length a0 ≤ (9223372036854775807 : Nat) ∧
              List.length ([(78 : UInt8)] ++ s0 ++ [(58 : UInt8)] ++ a0) + List.length b1 ≤ (9223372036854775807 : Nat) ∧ R (AV.tup [AV.str ([(78 : UInt8)] ++ s0 ++ [(58 : UInt8)] ++ a0 ++ b1), AV.int Go.IntKind.i64 (0 : Int)]) []))) :
  Hold (runF PG ty (3 : Nat) G0 an_seal_Node (46 : Nat) [AV.str a0, AV.str b1] [] R) := kshow h (by kernel_rfl)

theorem greatsealref_HalfOf_run (n0 : Int) (G0 : Nat → Option Go.Obj) (R : AV → List (Option Blk) → Prop) (h :
  Does PG (3 : Nat) G0 (fnOf PG (19 : Nat)) (0 : Nat) (lp PG (19 : Nat) (0 : Nat)) (mkT (10 : Nat) [((0 : Nat), AV.int Go.IntKind.i64 n0), ((3 : Nat), AV.int Go.IntKind.i64 (16 : Int))]) [] R) :
  Hold (runF PG ty (3 : Nat) G0 an_greatsealref_HalfOf (19 : Nat) [AV.int Go.IntKind.i64 n0] [] R) := kshow h (by kernel_rfl)

theorem greatsealref_HalfOf_l0_run (G0 : Nat → Option Obj) (n0 : Int) (n1 : Int) (R : AV → List (Option Blk) → Prop) (h :
  ifK (decide (n1 < n0)) (R (AV.int Go.IntKind.i64 n1) [])
  ((2 : Int) ≠ (0 : Int) ∧
    Does PG (3 : Nat) G0 (fnOf PG (19 : Nat)) (0 : Nat) (lp PG (19 : Nat) (0 : Nat)) (mkT (10 : Nat) [((0 : Nat), AV.int Go.IntKind.i64 n0), ((3 : Nat), AV.int Go.IntKind.i64 (Go.IntKind.wrap Go.IntKind.i64 (Int.tdiv n1 (2 : Int))))]) [] R)) :
  Hold (runL PG ty (3 : Nat) G0 an_greatsealref_HalfOf (19 : Nat) (0 : Nat) (0 : Nat) (mkT (10 : Nat) [((0 : Nat), AV.int Go.IntKind.i64 n0), ((3 : Nat), AV.int Go.IntKind.i64 n1)]) [] R) := kshow h (by kernel_rfl)

theorem greatsealref_LeafOf_run (s0 : List UInt8) (G0 : Nat → Option Go.Obj) (R : AV → List (Option Blk) → Prop) (h :
  ifK (decide ((↑(List.length s0) : Int) > (20000 : Int))) (R (AV.tup [AV.str [], AV.int Go.IntKind.i64 (2 : Int)]) [])
  ((1 : Nat) + List.length s0 ≤ (9223372036854775807 : Nat) ∧ R (AV.tup [AV.str ([(76 : UInt8)] ++ s0), AV.int Go.IntKind.i64 (0 : Int)]) [])) :
  Hold (runF PG ty (3 : Nat) G0 an_greatsealref_LeafOf (48 : Nat) [AV.str s0] [] R) := kshow h (by kernel_rfl)

theorem greatsealref_NodeOf_run (a0 : List UInt8) (b1 : List UInt8) (G0 : Nat → Option Go.Obj) (R : AV → List (Option Blk) → Prop) (h :
  ifK (decide (Go.IntKind.wrap Go.IntKind.i64 ((↑(List.length a0) : Int) + (↑(List.length b1) : Int)) > (20000 : Int))) (R (AV.tup [AV.str [], AV.int Go.IntKind.i64 (2 : Int)]) [])
  (∃ s0,
    Good PG (3 : Nat) G0 (59 : Nat) [AV.int Go.IntKind.i64 (↑(List.length a0) : Int)] [] (AV.str s0) [] ∧
      (1 : Nat) + List.length s0 ≤ (9223372036854775807 : Nat) ∧
        List.length ([(78 : UInt8)] ++ s0) + (1 : Nat) ≤ (9223372036854775807 : Nat) ∧
          List.length ([(78 : UInt8)] ++ s0 ++ [(58 : UInt8)]) + List.length a0 ≤ (9223372036854775807 : Nat) ∧
            List.length ([(78 : UInt8)] ++ s0 ++ [(58 : UInt8)] ++ a0) + List.length b1 ≤ (9223372036854775807 : Nat) ∧ R (AV.tup [AV.str ([(78 : UInt8)] ++ s0 ++ [(58 : UInt8)] ++ a0 ++ b1), AV.int Go.IntKind.i64 (0 : Int)]) [])) :
  Hold (runF PG ty (3 : Nat) G0 an_greatsealref_NodeOf (49 : Nat) [AV.str a0, AV.str b1] [] R) := kshow h (by kernel_rfl)

theorem slices_Equal_string_run (nls10 : Bool) (s10 : List (List AV)) (nls21 : Bool) (s21 : List (List AV)) (G0 : Nat → Option Go.Obj) (R : AV → List (Option Blk) → Prop) (h :
  ifK ((↑(List.length s10) : Int) != (↑(List.length s21) : Int)) (R (AV.bool false) [])
  (Does PG (3 : Nat) G0 (fnOf PG (20 : Nat)) (0 : Nat) (lp PG (20 : Nat) (0 : Nat))
    (mkT (26 : Nat) [((0 : Nat), AV.sl (1 : Nat) nls10 none s10), ((1 : Nat), AV.sl (1 : Nat) nls21 none s21), ((12 : Nat), AV.int Go.IntKind.i64 (↑(List.length s10) : Int)), ((13 : Nat), AV.int Go.IntKind.i64 (0 : Int))]) [] R)) :
  Hold (runF PG ty (3 : Nat) G0 an_slices_Equal_string (20 : Nat) [AV.sl (1 : Nat) nls10 none s10, AV.sl (1 : Nat) nls21 none s21] [] R) := kshow h (by kernel_rfl)

theorem slices_Equal_string_l0_run (G0 : Nat → Option Obj) (b0 : Bool) (xs1 : List (List AV)) (b2 : Bool) (xs3 : List (List AV)) (n4 : Int) (n5 : Int) (R : AV → List (Option Blk) → Prop) (h :
  ifK (decide (n5 < n4))
  ((0 : Int) ≤ n5 ∧
    ∃ s6,
      xs1[Int.toNat n5]? = some [AV.str s6] ∧
        (0 : Int) ≤ n5 ∧
          ∃ s7,
            xs3[Int.toNat n5]? = some [AV.str s7] ∧
              ifK (!s6 == s7) (R (AV.bool false) [])
                (Does PG (3 : Nat) G0 (fnOf PG (20 : Nat)) (0 : Nat) (lp PG (20 : Nat) (0 : Nat))
                  (mkT (26 : Nat)
                    [((0 : Nat), AV.sl (1 : Nat) b0 none xs1), ((1 : Nat), AV.sl (1 : Nat) b2 none xs3), ((12 : Nat), AV.int Go.IntKind.i64 n4), ((13 : Nat), AV.int Go.IntKind.i64 (Go.IntKind.wrap Go.IntKind.i64 (n5 + (1 : Int))))])
                  [] R))
  (R (AV.bool true) [])) :
  Hold (runL PG ty (3 : Nat) G0 an_slices_Equal_string (20 : Nat) (0 : Nat) (0 : Nat)
  (mkT (26 : Nat) [((0 : Nat), AV.sl (1 : Nat) b0 none xs1), ((1 : Nat), AV.sl (1 : Nat) b2 none xs3), ((12 : Nat), AV.int Go.IntKind.i64 n4), ((13 : Nat), AV.int Go.IntKind.i64 n5)]) [] R) := kshow h (by kernel_rfl)

theorem greatseallaw_at_run (k0 : Int) (n1 : Int) (G0 : Nat → Option Go.Obj) (R : AV → List (Option Blk) → Prop) (h :
  n1 ≠ (0 : Int) ∧ ifK (decide (Int.tmod k0 n1 < (0 : Int))) (R (AV.int Go.IntKind.i64 (Go.IntKind.wrap Go.IntKind.i64 (Int.tmod k0 n1 + n1))) []) (R (AV.int Go.IntKind.i64 (Int.tmod k0 n1)) [])) :
  Hold (runF PG ty (3 : Nat) G0 an_greatseallaw_at (21 : Nat) [AV.int Go.IntKind.i64 k0, AV.int Go.IntKind.i64 n1] [] R) := kshow h (by kernel_rfl)

theorem greatseallaw_planted_run (G0 : Nat → Option Go.Obj) (R : AV → List (Option Blk) → Prop) (h :
  ∃ s0 n1,
  Good PG (3 : Nat) G0 (15 : Nat) [AV.sl (1 : Nat) false none [[AV.str [(97 : UInt8)]], [AV.str [(98 : UInt8)]], [AV.str [(99 : UInt8)]]]] [] (AV.tup [AV.str s0, AV.int Go.IntKind.i64 n1]) [] ∧
    ∃ n2 n3,
      Good PG (3 : Nat) G0 (16 : Nat) [AV.int Go.IntKind.i64 (5 : Int)] [] (AV.tup [AV.int Go.IntKind.i64 n2, AV.int Go.IntKind.i64 n3]) [] ∧
        ∃ n4 n5,
          Good PG (3 : Nat) G0 (16 : Nat) [AV.int Go.IntKind.i64 (1 : Int)] [] (AV.tup [AV.int Go.IntKind.i64 n4, AV.int Go.IntKind.i64 n5]) [] ∧
            ∃ s6 n7,
              Good PG (3 : Nat) G0 (15 : Nat) [AV.sl (1 : Nat) true none []] [] (AV.tup [AV.str s6, AV.int Go.IntKind.i64 n7]) [] ∧
                ifK (n1 == (0 : Int))
                  (ifK (n3 == (0 : Int))
                    (ifK (n5 == (3 : Int))
                      (ifK (n7 == (0 : Int))
                        (ifK (n2 == (4 : Int))
                          (ifK (s0 == [(78 : UInt8), (55 : UInt8), (58 : UInt8), (78 : UInt8), (50 : UInt8), (58 : UInt8), (76 : UInt8), (97 : UInt8), (76 : UInt8), (98 : UInt8), (76 : UInt8), (99 : UInt8)])
                            (R (AV.bool (s6 == [(69 : UInt8)])) []) (R (AV.bool false) []))
                          (R (AV.bool false) []))
                        (R (AV.bool false) []))
                      (R (AV.bool false) []))
                    (R (AV.bool false) []))
                  (R (AV.bool false) [])) :
  Hold (runF PG ty (3 : Nat) G0 an_greatseallaw_planted (18 : Nat) [] [] R) := kshow h (by kernel_rfl)

theorem greatseallaw_TreeSays_run (nll0 : Bool) (l0 : List (List AV)) (n1 : Int) (G0 : Nat → Option Go.Obj) (R : AV → List (Option Blk) → Prop) (h :
  ∃ s0 n1_1,
  Good PG (3 : Nat) G0 (15 : Nat) [AV.sl (1 : Nat) nll0 none l0] [] (AV.tup [AV.str s0, AV.int Go.IntKind.i64 n1_1]) [] ∧
    ∃ n2 n3,
      Good PG (3 : Nat) G0 (16 : Nat) [AV.int Go.IntKind.i64 n1] [] (AV.tup [AV.int Go.IntKind.i64 n2, AV.int Go.IntKind.i64 n3]) [] ∧
        ∃ s4 n5,
          Good PG (3 : Nat) G0 (17 : Nat) [AV.sl (1 : Nat) nll0 none l0] [] (AV.tup [AV.str s4, AV.int Go.IntKind.i64 n5]) [] ∧
            ∃ b6,
              Good PG (3 : Nat) G0 (18 : Nat) [] [] (AV.bool b6) [] ∧
                ifK (!b6) (R (AV.bool false) [])
                  (ifK (!s0 == s4) (R (AV.bool false) [])
                    (ifK (n1_1 != n5) (R (AV.bool false) [])
                      (ifK (decide (n1 < (2 : Int))) (ifK (n3 == (3 : Int)) (R (AV.bool (n2 == (0 : Int))) []) (R (AV.bool false) []))
                        (ifK (decide (n1 > (24 : Int))) (ifK (n3 == (3 : Int)) (R (AV.bool (n2 == (0 : Int))) []) (R (AV.bool false) []))
                          (ifK (n3 == (0 : Int)) (∃ n7, Good PG (3 : Nat) G0 (19 : Nat) [AV.int Go.IntKind.i64 n1] [] (AV.int Go.IntKind.i64 n7) [] ∧ R (AV.bool (n2 == n7)) []) (R (AV.bool false) []))))))) :
  Hold (runF PG ty (3 : Nat) G0 an_greatseallaw_TreeSays (3 : Nat) [AV.sl (1 : Nat) nll0 none l0, AV.int Go.IntKind.i64 n1] [] R) := kshow h (by kernel_rfl)

theorem greatsealref_RootOf_run (nll0 : Bool) (l0 : List (List AV)) (G0 : Nat → Option Go.Obj) (R : AV → List (Option Blk) → Prop) (h :
  ifK (decide ((↑(List.length l0) : Int) > (24 : Int))) (R (AV.tup [AV.str [], AV.int Go.IntKind.i64 (2 : Int)]) [])
  (ifK ((↑(List.length l0) : Int) == (0 : Int)) (R (AV.tup [AV.str [(69 : UInt8)], AV.int Go.IntKind.i64 (0 : Int)]) [])
    (∃ s0 n1 b2 xs3,
      Good PG (3 : Nat) G0 (47 : Nat) [AV.int Go.IntKind.i64 (0 : Int), AV.int Go.IntKind.i64 (↑(List.length l0) : Int), AV.ref (0 : Nat) (0 : Nat), AV.ref (1 : Nat) (0 : Nat)]
          [some (Blk.var [AV.sl (1 : Nat) nll0 none l0]), some (Blk.var [AV.func (47 : Nat) [AV.ref (0 : Nat) (0 : Nat), AV.ref (1 : Nat) (0 : Nat)]])] (AV.tup [AV.str s0, AV.int Go.IntKind.i64 n1])
          [some (Blk.var [AV.sl (1 : Nat) b2 none xs3]), some (Blk.var [AV.func (47 : Nat) [AV.ref (0 : Nat) (0 : Nat), AV.ref (1 : Nat) (0 : Nat)]])] ∧
        R (AV.tup [AV.str s0, AV.int Go.IntKind.i64 n1]) []))) :
  Hold (runF PG ty (3 : Nat) G0 an_greatsealref_RootOf (17 : Nat) [AV.sl (1 : Nat) nll0 none l0] [] R) := kshow h (by kernel_rfl)

theorem greatsealref_RootOf_c1_run (f : Int) (t : Int) (nl : Bool) (xs : List (List AV)) (G0 : Nat → Option Go.Obj) (R : AV → List (Option Blk) → Prop) (h :
  ifK (Go.IntKind.wrap Go.IntKind.i64 (t - f) == (1 : Int))
  ((0 : Int) ≤ f ∧
    ∃ s0,
      xs[Int.toNat f]? = some [AV.str s0] ∧
        ∃ s1 n2,
          Good PG (3 : Nat) G0 (48 : Nat) [AV.str s0] [] (AV.tup [AV.str s1, AV.int Go.IntKind.i64 n2]) [] ∧
            R (AV.tup [AV.str s1, AV.int Go.IntKind.i64 n2]) [some (Blk.var [AV.sl (1 : Nat) nl none xs]), some (Blk.var [AV.func (47 : Nat) [AV.ref (0 : Nat) (0 : Nat), AV.ref (1 : Nat) (0 : Nat)]])])
  (∃ n3,
    Good PG (3 : Nat) G0 (19 : Nat) [AV.int Go.IntKind.i64 (Go.IntKind.wrap Go.IntKind.i64 (t - f))] [] (AV.int Go.IntKind.i64 n3) [] ∧
      ∃ s4 n5 b6 xs7,
        Good PG (3 : Nat) G0 (47 : Nat) [AV.int Go.IntKind.i64 f, AV.int Go.IntKind.i64 (Go.IntKind.wrap Go.IntKind.i64 (f + n3)), AV.ref (0 : Nat) (0 : Nat), AV.ref (1 : Nat) (0 : Nat)]
            [some (Blk.var [AV.sl (1 : Nat) nl none xs]), some (Blk.var [AV.func (47 : Nat) [AV.ref (0 : Nat) (0 : Nat), AV.ref (1 : Nat) (0 : Nat)]])] (AV.tup [AV.str s4, AV.int Go.IntKind.i64 n5])
            [some (Blk.var [AV.sl (1 : Nat) b6 none xs7]), some (Blk.var [AV.func (47 : Nat) [AV.ref (0 : Nat) (0 : Nat), AV.ref (1 : Nat) (0 : Nat)]])] ∧
          ifK (n5 != (0 : Int)) (R (AV.tup [AV.str [], AV.int Go.IntKind.i64 n5]) [some (Blk.var [AV.sl (1 : Nat) b6 none xs7]), some (Blk.var [AV.func (47 : Nat) [AV.ref (0 : Nat) (0 : Nat), AV.ref (1 : Nat) (0 : Nat)]])])
            (∃ s8 n9 b10 xs11,
              Good PG (3 : Nat) G0 (47 : Nat) [AV.int Go.IntKind.i64 (Go.IntKind.wrap Go.IntKind.i64 (f + n3)), AV.int Go.IntKind.i64 t, AV.ref (0 : Nat) (0 : Nat), AV.ref (1 : Nat) (0 : Nat)]
                  [some (Blk.var [AV.sl (1 : Nat) b6 none xs7]), some (Blk.var [AV.func (47 : Nat) [AV.ref (0 : Nat) (0 : Nat), AV.ref (1 : Nat) (0 : Nat)]])] (AV.tup [AV.str s8, AV.int Go.IntKind.i64 n9])
                  [some (Blk.var [AV.sl (1 : Nat) b10 none xs11]), some (Blk.var [AV.func (47 : Nat) [AV.ref (0 : Nat) (0 : Nat), AV.ref (1 : Nat) (0 : Nat)]])] ∧
                ifK (n9 != (0 : Int)) (R (AV.tup [AV.str [], AV.int Go.IntKind.i64 n9]) [some (Blk.var [AV.sl (1 : Nat) b10 none xs11]), some (Blk.var [AV.func (47 : Nat) [AV.ref (0 : Nat) (0 : Nat), AV.ref (1 : Nat) (0 : Nat)]])])
                  (∃ s12 n13,
                    Good PG (3 : Nat) G0 (49 : Nat) [AV.str s4, AV.str s8] [] (AV.tup [AV.str s12, AV.int Go.IntKind.i64 n13]) [] ∧
                      R (AV.tup [AV.str s12, AV.int Go.IntKind.i64 n13]) [some (Blk.var [AV.sl (1 : Nat) b10 none xs11]), some (Blk.var [AV.func (47 : Nat) [AV.ref (0 : Nat) (0 : Nat), AV.ref (1 : Nat) (0 : Nat)]])])))) :
  Hold (runF PG ty (3 : Nat) G0 an_greatsealref_RootOf_c1 (47 : Nat) [AV.int Go.IntKind.i64 f, AV.int Go.IntKind.i64 t, AV.ref (0 : Nat) (0 : Nat), AV.ref (1 : Nat) (0 : Nat)]
  [some (Blk.var [AV.sl (1 : Nat) nl none xs]), some (Blk.var [AV.func (47 : Nat) [AV.ref (0 : Nat) (0 : Nat), AV.ref (1 : Nat) (0 : Nat)]])] R) := kshow h (by kernel_rfl)

end Go.Ab

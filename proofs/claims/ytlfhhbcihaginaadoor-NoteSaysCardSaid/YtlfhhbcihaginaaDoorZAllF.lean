/- What the proofs of these laws lean on (6): What the runs come to; Paths up a list, in plain words: what they show is so, and nothing else; How a list goes on, in plain words: what seals show is so, and nothing else; Spans around a place of a list, in plain words; Contracts: paths up a list; What the runs come to; What the runs come to; Contracts: beginnings and ends of texts, a leaf's seal opened; The seal of what keys come to, in plain words: what it shows is so, and nothing else; Maps from numbers to texts, as lists, in plain words; Books and their heads, in plain words; Numerals read back, texts cut at a byte, heads as texts; Contracts: bytes found, texts cut, numerals read; What the runs come to; What the runs come to; Contracts:; no condition. -/
import Derived.Test.YtlfhhbcihaginaaDoorZAllE
import Derived.Lib.AtoiAll
import Derived.Lib.AtoiAllCases
import Derived.Lib.Bytealg
import Derived.Lib.ParseIntBTie
namespace Go.Ab
open Go.Proofs
set_option maxRecDepth 100000

def an_path_turns : FAnn := ⟨[(5, 2, ⟨[], [0], []⟩), (6, 6, ⟨[], [0], []⟩)], [], some [4], []⟩
def an_path_of : FAnn := ⟨[(7, 2, ⟨[], [0], []⟩)], [], some [4], []⟩
def an_path_Of : FAnn := ⟨[(6, 2, ⟨[], [0], []⟩)], [], none, []⟩
def an_path_Shows : FAnn := ⟨[], [(0, [0, 11, 12, 45, 46, 47], [])], none, []⟩
def an_slices_Equal_Step : FAnn := ⟨[], [(0, [0, 1, 12, 13], [])], none, []⟩
def an_greatseallaw_pathed : FAnn := ⟨[], [], none, []⟩

theorem path_turns_run (n0 : Int) (i1 : Int) (G0 : Nat → Option Go.Obj) (R : AV → List (Option Blk) → Prop) (h :
ifK (n0 == (1 : Int)) (R (AV.sl (1 : Nat) true (some (0 : Nat)) []) [some (Blk.grow (1 : Nat) (0 : Nat))])
  (∃ n0_1 n1,
    Good PG nG G0 f_tree_Half [AV.int Go.IntKind.i64 n0] [] (AV.tup [AV.int Go.IntKind.i64 n0_1, AV.int Go.IntKind.i64 n1]) [] ∧
      ifK (decide (i1 < n0_1))
        (∃ b2 xs3,
          Good PG nG G0 f_path_turns [AV.int Go.IntKind.i64 n0_1, AV.int Go.IntKind.i64 i1] [] (AV.sl (1 : Nat) b2 (some (0 : Nat)) xs3) [some (Blk.grow (1 : Nat) (List.length xs3))] ∧
            (List.length xs3 + (1 : Nat)) * (1 : Nat) ≤ (140737488355328 : Nat) ∧
              List.length xs3 = List.length xs3 ∧ R (AV.sl (1 : Nat) (b2 && false) (some (0 : Nat)) (xs3 ++ [[AV.bool false]])) [some (Blk.grow (1 : Nat) (List.length xs3 + (1 : Nat)))])
        (∃ b4 xs5,
          Good PG nG G0 f_path_turns [AV.int Go.IntKind.i64 (Go.IntKind.wrap Go.IntKind.i64 (n0 - n0_1)), AV.int Go.IntKind.i64 (Go.IntKind.wrap Go.IntKind.i64 (i1 - n0_1))] [] (AV.sl (1 : Nat) b4 (some (0 : Nat)) xs5)
              [some (Blk.grow (1 : Nat) (List.length xs5))] ∧
            (List.length xs5 + (1 : Nat)) * (1 : Nat) ≤ (140737488355328 : Nat) ∧
              List.length xs5 = List.length xs5 ∧ R (AV.sl (1 : Nat) (b4 && false) (some (0 : Nat)) (xs5 ++ [[AV.bool true]])) [some (Blk.grow (1 : Nat) (List.length xs5 + (1 : Nat)))]))) :
  Hold (runF PG ty nG G0 an_path_turns f_path_turns [AV.int Go.IntKind.i64 n0, AV.int Go.IntKind.i64 i1] [] R) := kshow h (by kernel_rfl)

theorem path_of_run (nll0 : Bool) (l0 : List (List AV)) (i1 : Int) (G0 : Nat → Option Go.Obj) (R : AV → List (Option Blk) → Prop) (h :
ifK ((↑(List.length l0) : Int) == (1 : Int)) (R (AV.tup [AV.sl (2 : Nat) true (some (0 : Nat)) [], AV.int Go.IntKind.i64 (0 : Int)]) [some (Blk.grow (2 : Nat) (0 : Nat))])
  (∃ n0 n1,
    Good PG nG G0 f_tree_Half [AV.int Go.IntKind.i64 (↑(List.length l0) : Int)] [] (AV.tup [AV.int Go.IntKind.i64 n0, AV.int Go.IntKind.i64 n1]) [] ∧
      (0 : Int) ≤ (0 : Int) ∧
        (0 : Int) ≤ n0 ∧
          n0 ≤ (↑(List.length l0) : Int) ∧
            (0 : Int) ≤ n0 ∧
              n0 ≤ (↑(List.length l0) : Int) ∧
                (↑(List.length l0) : Int) ≤ (↑(List.length l0) : Int) ∧
                  ifK (decide (i1 ≥ n0))
                    (∃ b2 xs3 n4,
                      Good PG nG G0 f_path_of [AV.sl (1 : Nat) nll0 none (List.drop (Int.toNat n0) (List.take (Int.toNat (↑(List.length l0) : Int)) l0)), AV.int Go.IntKind.i64 (Go.IntKind.wrap Go.IntKind.i64 (i1 - n0))] []
                          (AV.tup [AV.sl (2 : Nat) b2 (some (0 : Nat)) xs3, AV.int Go.IntKind.i64 n4]) [some (Blk.grow (2 : Nat) (List.length xs3))] ∧
                        ifK (n4 != (0 : Int)) (R (AV.tup [AV.sl (2 : Nat) true (some (0 : Nat)) [], AV.int Go.IntKind.i64 n4]) [some (Blk.grow (2 : Nat) (0 : Nat))])
                          (∃ s5 n6,
                            Good PG nG G0 f_tree_Root [AV.sl (1 : Nat) nll0 none (List.drop (0 : Nat) (List.take (Int.toNat n0) l0))] [] (AV.tup [AV.str s5, AV.int Go.IntKind.i64 n6]) [] ∧
                              ifK (n6 != (0 : Int)) (R (AV.tup [AV.sl (2 : Nat) true (some (0 : Nat)) [], AV.int Go.IntKind.i64 n6]) [some (Blk.grow (2 : Nat) (0 : Nat))])
                                ((List.length xs3 + List.length [[AV.bool true, AV.str s5]]) * (24 : Nat) ≤ (140737488355328 : Nat) ∧
                                  List.length xs3 = List.length xs3 ∧
                                    R (AV.tup [AV.sl (2 : Nat) (b2 && List.isEmpty [[AV.bool true, AV.str s5]]) (some (0 : Nat)) (xs3 ++ [[AV.bool true, AV.str s5]]), AV.int Go.IntKind.i64 (0 : Int)])
                                      [some (Blk.grow (2 : Nat) (List.length xs3 + List.length [[AV.bool true, AV.str s5]]))])))
                    (∃ b7 xs8 n9,
                      Good PG nG G0 f_path_of [AV.sl (1 : Nat) nll0 none (List.drop (0 : Nat) (List.take (Int.toNat n0) l0)), AV.int Go.IntKind.i64 i1] [] (AV.tup [AV.sl (2 : Nat) b7 (some (0 : Nat)) xs8, AV.int Go.IntKind.i64 n9])
                          [some (Blk.grow (2 : Nat) (List.length xs8))] ∧
                        ifK (n9 != (0 : Int)) (R (AV.tup [AV.sl (2 : Nat) true (some (0 : Nat)) [], AV.int Go.IntKind.i64 n9]) [some (Blk.grow (2 : Nat) (0 : Nat))])
                          (∃ s10 n11,
                            Good PG nG G0 f_tree_Root [AV.sl (1 : Nat) nll0 none (List.drop (Int.toNat n0) (List.take (Int.toNat (↑(List.length l0) : Int)) l0))] [] (AV.tup [AV.str s10, AV.int Go.IntKind.i64 n11]) [] ∧
                              ifK (n11 != (0 : Int)) (R (AV.tup [AV.sl (2 : Nat) true (some (0 : Nat)) [], AV.int Go.IntKind.i64 n11]) [some (Blk.grow (2 : Nat) (0 : Nat))])
                                ((List.length xs8 + List.length [[AV.bool false, AV.str s10]]) * (24 : Nat) ≤ (140737488355328 : Nat) ∧
                                  List.length xs8 = List.length xs8 ∧
                                    R (AV.tup [AV.sl (2 : Nat) (b7 && List.isEmpty [[AV.bool false, AV.str s10]]) (some (0 : Nat)) (xs8 ++ [[AV.bool false, AV.str s10]]), AV.int Go.IntKind.i64 (0 : Int)])
                                      [some (Blk.grow (2 : Nat) (List.length xs8 + List.length [[AV.bool false, AV.str s10]]))]))))) :
  Hold (runF PG ty nG G0 an_path_of f_path_of [AV.sl (1 : Nat) nll0 none l0, AV.int Go.IntKind.i64 i1] [] R) := kshow h (by kernel_rfl)

theorem path_Of_run (nll0 : Bool) (l0 : List (List AV)) (i1 : Int) (G0 : Nat → Option Go.Obj) (R : AV → List (Option Blk) → Prop) (h :
∃ s0 n1,
  Good PG nG G0 f_tree_Root [AV.sl (1 : Nat) nll0 none l0] [] (AV.tup [AV.str s0, AV.int Go.IntKind.i64 n1]) [] ∧
    ifK (n1 != (0 : Int)) (R (AV.tup [AV.sl (2 : Nat) true none [], AV.int Go.IntKind.i64 n1]) [])
      (ifK (decide (i1 < (0 : Int))) (R (AV.tup [AV.sl (2 : Nat) true none [], AV.int Go.IntKind.i64 (5 : Int)]) [])
        (ifK (decide (i1 ≥ (↑(List.length l0) : Int))) (R (AV.tup [AV.sl (2 : Nat) true none [], AV.int Go.IntKind.i64 (5 : Int)]) [])
          (∃ b2 xs3 n4,
            Good PG nG G0 f_path_of [AV.sl (1 : Nat) nll0 none l0, AV.int Go.IntKind.i64 i1] [] (AV.tup [AV.sl (2 : Nat) b2 (some (0 : Nat)) xs3, AV.int Go.IntKind.i64 n4]) [some (Blk.grow (2 : Nat) (List.length xs3))] ∧
              R (AV.tup [AV.sl (2 : Nat) b2 none xs3, AV.int Go.IntKind.i64 n4]) [])))) :
  Hold (runF PG ty nG G0 an_path_Of f_path_Of [AV.sl (1 : Nat) nll0 none l0, AV.int Go.IntKind.i64 i1] [] R) := kshow h (by kernel_rfl)

theorem path_Shows_run (root0 : List UInt8) (n1 : Int) (i2 : Int) (text3 : List UInt8) (nlsteps4 : Bool) (steps4 : List (List AV)) (G0 : Nat → Option Go.Obj) (R : AV → List (Option Blk) → Prop) (h :
ifK (decide (n1 < (1 : Int))) (R (AV.int Go.IntKind.i64 (3 : Int)) [])
  (ifK (decide (n1 > (24 : Int))) (R (AV.int Go.IntKind.i64 (3 : Int)) [])
    (ifK (decide (i2 < (0 : Int))) (R (AV.int Go.IntKind.i64 (5 : Int)) [])
      (ifK (decide (i2 ≥ n1)) (R (AV.int Go.IntKind.i64 (5 : Int)) [])
        (∃ b0 xs1,
          Good PG nG G0 f_path_turns [AV.int Go.IntKind.i64 n1, AV.int Go.IntKind.i64 i2] [] (AV.sl (1 : Nat) b0 none xs1) [] ∧
            ifK ((↑(List.length xs1) : Int) != (↑(List.length steps4) : Int)) (R (AV.int Go.IntKind.i64 (7 : Int)) [])
              (∃ s2 n3,
                Good PG nG G0 f_seal_Leaf [AV.str text3] [] (AV.tup [AV.str s2, AV.int Go.IntKind.i64 n3]) [] ∧
                  ifK (n3 != (0 : Int)) (R (AV.int Go.IntKind.i64 n3) [])
                    (Does PG nG G0 (fnOf PG f_path_Shows) (0 : Nat) (lp PG f_path_Shows (0 : Nat))
                      (mkT (82 : Nat)
                        [((0 : Nat), AV.str root0), ((11 : Nat), AV.sl (1 : Nat) b0 none xs1), ((12 : Nat), AV.str s2), ((45 : Nat), AV.sl (2 : Nat) nlsteps4 none steps4), ((46 : Nat), AV.int Go.IntKind.i64 (↑(List.length steps4) : Int)),
                          ((47 : Nat), AV.int Go.IntKind.i64 (0 : Int))])
                      [] R))))))) :
  Hold (runF PG ty nG G0 an_path_Shows f_path_Shows [AV.str root0, AV.int Go.IntKind.i64 n1, AV.int Go.IntKind.i64 i2, AV.str text3, AV.sl (2 : Nat) nlsteps4 none steps4] [] R) := kshow h (by kernel_rfl)

theorem path_Shows_l0_run (G0 : Nat → Option Obj) (s4 : List UInt8) (b5 : Bool) (xs6 : List (List AV)) (s7 : List UInt8) (b8 : Bool) (xs9 : List (List AV)) (n10 : Int) (n11 : Int) (R : AV → List (Option Blk) → Prop) (h :
ifK (decide (n11 < n10))
  ((0 : Int) ≤ n11 ∧
    ∃ b12 s13,
      xs9[Int.toNat n11]? = some [AV.bool b12, AV.str s13] ∧
        (0 : Int) ≤ n11 ∧
          ∃ b14,
            xs6[Int.toNat n11]? = some [AV.bool b14] ∧
              ifK (!b12 == b14) (R (AV.int Go.IntKind.i64 (7 : Int)) [])
                (ifK b12
                  (∃ s15 n16,
                    Good PG nG G0 f_seal_Node [AV.str s13, AV.str s7] [] (AV.tup [AV.str s15, AV.int Go.IntKind.i64 n16]) [] ∧
                      ifK (n16 != (0 : Int)) (R (AV.int Go.IntKind.i64 n16) [])
                        (Does PG nG G0 (fnOf PG f_path_Shows) (0 : Nat) (lp PG f_path_Shows (0 : Nat))
                          (mkT (82 : Nat)
                            [((0 : Nat), AV.str s4), ((11 : Nat), AV.sl (1 : Nat) b5 none xs6), ((12 : Nat), AV.str s15), ((45 : Nat), AV.sl (2 : Nat) b8 none xs9), ((46 : Nat), AV.int Go.IntKind.i64 n10),
                              ((47 : Nat), AV.int Go.IntKind.i64 (Go.IntKind.wrap Go.IntKind.i64 (n11 + (1 : Int))))])
                          [] R))
                  (∃ s17 n18,
                    Good PG nG G0 f_seal_Node [AV.str s7, AV.str s13] [] (AV.tup [AV.str s17, AV.int Go.IntKind.i64 n18]) [] ∧
                      ifK (n18 != (0 : Int)) (R (AV.int Go.IntKind.i64 n18) [])
                        (Does PG nG G0 (fnOf PG f_path_Shows) (0 : Nat) (lp PG f_path_Shows (0 : Nat))
                          (mkT (82 : Nat)
                            [((0 : Nat), AV.str s4), ((11 : Nat), AV.sl (1 : Nat) b5 none xs6), ((12 : Nat), AV.str s17), ((45 : Nat), AV.sl (2 : Nat) b8 none xs9), ((46 : Nat), AV.int Go.IntKind.i64 n10),
                              ((47 : Nat), AV.int Go.IntKind.i64 (Go.IntKind.wrap Go.IntKind.i64 (n11 + (1 : Int))))])
                          [] R))))
  (ifK (!s7 == s4) (R (AV.int Go.IntKind.i64 (7 : Int)) []) (R (AV.int Go.IntKind.i64 (0 : Int)) []))) :
  Hold (runL PG ty nG G0 an_path_Shows f_path_Shows (0 : Nat) (0 : Nat)
  (mkT (82 : Nat) [((0 : Nat), AV.str s4), ((11 : Nat), AV.sl (1 : Nat) b5 none xs6), ((12 : Nat), AV.str s7), ((45 : Nat), AV.sl (2 : Nat) b8 none xs9), ((46 : Nat), AV.int Go.IntKind.i64 n10), ((47 : Nat), AV.int Go.IntKind.i64 n11)]) []
  R) := kshow h (by kernel_rfl)

theorem slices_Equal_Step_run (nls10 : Bool) (s10 : List (List AV)) (nls21 : Bool) (s21 : List (List AV)) (G0 : Nat → Option Go.Obj) (R : AV → List (Option Blk) → Prop) (h :
ifK ((↑(List.length s10) : Int) != (↑(List.length s21) : Int)) (R (AV.bool false) [])
  (Does PG nG G0 (fnOf PG f_slices_Equal_Step) (0 : Nat) (lp PG f_slices_Equal_Step (0 : Nat))
    (mkT (26 : Nat) [((0 : Nat), AV.sl (2 : Nat) nls10 none s10), ((1 : Nat), AV.sl (2 : Nat) nls21 none s21), ((12 : Nat), AV.int Go.IntKind.i64 (↑(List.length s10) : Int)), ((13 : Nat), AV.int Go.IntKind.i64 (0 : Int))]) [] R)) :
  Hold (runF PG ty nG G0 an_slices_Equal_Step f_slices_Equal_Step [AV.sl (2 : Nat) nls10 none s10, AV.sl (2 : Nat) nls21 none s21] [] R) := kshow h (by kernel_rfl)

theorem slices_Equal_Step_l0_run (G0 : Nat → Option Obj) (b0 : Bool) (xs1 : List (List AV)) (b2 : Bool) (xs3 : List (List AV)) (n4 : Int) (n5 : Int) (R : AV → List (Option Blk) → Prop) (h :
ifK (decide (n5 < n4))
  ((0 : Int) ≤ n5 ∧
    ∃ b6 s7,
      xs1[Int.toNat n5]? = some [AV.bool b6, AV.str s7] ∧
        (0 : Int) ≤ n5 ∧
          ∃ b8 s9,
            xs3[Int.toNat n5]? = some [AV.bool b8, AV.str s9] ∧
              ifK (!eqAll [AV.bool b6, AV.str s7] [AV.bool b8, AV.str s9]) (R (AV.bool false) [])
                (Does PG nG G0 (fnOf PG f_slices_Equal_Step) (0 : Nat) (lp PG f_slices_Equal_Step (0 : Nat))
                  (mkT (26 : Nat)
                    [((0 : Nat), AV.sl (2 : Nat) b0 none xs1), ((1 : Nat), AV.sl (2 : Nat) b2 none xs3), ((12 : Nat), AV.int Go.IntKind.i64 n4), ((13 : Nat), AV.int Go.IntKind.i64 (Go.IntKind.wrap Go.IntKind.i64 (n5 + (1 : Int))))])
                  [] R))
  (R (AV.bool true) [])) :
  Hold (runL PG ty nG G0 an_slices_Equal_Step f_slices_Equal_Step (0 : Nat) (0 : Nat)
  (mkT (26 : Nat) [((0 : Nat), AV.sl (2 : Nat) b0 none xs1), ((1 : Nat), AV.sl (2 : Nat) b2 none xs3), ((12 : Nat), AV.int Go.IntKind.i64 n4), ((13 : Nat), AV.int Go.IntKind.i64 n5)]) [] R) := kshow h (by kernel_rfl)

theorem greatseallaw_pathed_run (G0 : Nat → Option Go.Obj) (R : AV → List (Option Blk) → Prop) (h :
∃ b0 xs1 n2,
  Good PG nG G0 f_path_Of [AV.sl (1 : Nat) false none [[AV.str [(97 : UInt8)]], [AV.str [(98 : UInt8)]], [AV.str [(99 : UInt8)]]], AV.int Go.IntKind.i64 (1 : Int)] [] (AV.tup [AV.sl (2 : Nat) b0 none xs1, AV.int Go.IntKind.i64 n2])
      [] ∧
    ∃ s3 n4,
      Good PG nG G0 f_tree_Root [AV.sl (1 : Nat) false none [[AV.str [(97 : UInt8)]], [AV.str [(98 : UInt8)]], [AV.str [(99 : UInt8)]]]] [] (AV.tup [AV.str s3, AV.int Go.IntKind.i64 n4]) [] ∧
        ∃ b5 xs6 n7,
          Good PG nG G0 f_path_Of [AV.sl (1 : Nat) false none [[AV.str [(97 : UInt8)]], [AV.str [(98 : UInt8)]], [AV.str [(99 : UInt8)]]], AV.int Go.IntKind.i64 (3 : Int)] []
              (AV.tup [AV.sl (2 : Nat) b5 none xs6, AV.int Go.IntKind.i64 n7]) [] ∧
            ifK (n2 == (0 : Int))
              (ifK (n4 == (0 : Int))
                (ifK (n7 == (5 : Int))
                  (∃ b8,
                    Good PG nG G0 f_slices_Equal_Step [AV.sl (2 : Nat) b0 none xs1, AV.sl (2 : Nat) false none [[AV.bool true, AV.str [(76 : UInt8), (97 : UInt8)]], [AV.bool false, AV.str [(76 : UInt8), (99 : UInt8)]]]] [] (AV.bool b8) [] ∧
                      ifK b8
                        (∃ n9,
                          Good PG nG G0 f_path_Shows [AV.str s3, AV.int Go.IntKind.i64 (3 : Int), AV.int Go.IntKind.i64 (1 : Int), AV.str [(98 : UInt8)], AV.sl (2 : Nat) b0 none xs1] [] (AV.int Go.IntKind.i64 n9) [] ∧
                            ifK (n9 == (0 : Int))
                              (∃ n10,
                                Good PG nG G0 f_path_Shows [AV.str s3, AV.int Go.IntKind.i64 (3 : Int), AV.int Go.IntKind.i64 (1 : Int), AV.str [(100 : UInt8)], AV.sl (2 : Nat) b0 none xs1] [] (AV.int Go.IntKind.i64 n10) [] ∧
                                  R (AV.bool (n10 == (7 : Int))) [])
                              (R (AV.bool false) []))
                        (R (AV.bool false) []))
                  (R (AV.bool false) []))
                (R (AV.bool false) []))
              (R (AV.bool false) [])) :
  Hold (runF PG ty nG G0 an_greatseallaw_pathed f_greatseallaw_pathed [] [] R) := kshow h (by kernel_rfl)

end Go.Ab

namespace Go.Gs

/-- A good seal of two or more, opened. -/
theorem tRoot_split {l : List By} (h : (tRoot l).2 = 0) (h2 : 2 ≤ l.length) :
    (tRoot (l.take (halfN l.length))).2 = 0 ∧ (tRoot (l.drop (halfN l.length))).2 = 0 ∧
      tNode (tRoot (l.take (halfN l.length))).1 (tRoot (l.drop (halfN l.length))).1 = ((tRoot l).1, 0) := by
  rcases tRoot_cases h with ⟨rfl, _⟩ | ⟨s, rfl, _⟩ | ⟨_, h3, h4, _⟩
  · simp at h2
  · simp at h2
  · refine ⟨h3, h4, ?_⟩
    have := tRoot_two h2
    rw [if_neg (by simpa using h3), if_neg (by simpa using h4)] at this
    rw [← this, ← h]

theorem tNode_inj {a b c d x : By} (h : tNode a b = (x, 0)) (k : tNode c d = (x, 0)) : a = c ∧ b = d := by
  have h1 := tNode_ok (a := a) (b := b) (by rw [h])
  have h2 := tNode_ok (a := c) (b := d) (by rw [k])
  rw [h] at h1
  rw [k] at h2
  exact node_inj (h1.symm.trans h2)

theorem tLeaf_inj {a b x : By} (h : tLeaf a = (x, 0)) (k : tLeaf b = (x, 0)) : a = b := by
  have h1 := tLeaf_ok (s := a) (by rw [h])
  have h2 := tLeaf_ok (s := b) (by rw [k])
  rw [h] at h1
  rw [k] at h2
  simpa using h1.symm.trans h2

/-- From below: does what is beside stand left? -/
def turnsN (n i : Nat) : List Bool :=
  if _h : n ≤ 1 then [] else if i < halfN n then turnsN (halfN n) i ++ [false] else turnsN (n - halfN n) (i - halfN n) ++ [true]
termination_by n
decreasing_by
  all_goals
    have := halfN_pos n
    have := halfN_lt (n := n) (by omega)
    omega

theorem turnsN_one {n i : Nat} (h : n ≤ 1) : turnsN n i = [] := by rw [turnsN, dif_pos h]
theorem turnsN_two {n i : Nat} (h : 2 ≤ n) : turnsN n i = if i < halfN n then turnsN (halfN n) i ++ [false] else turnsN (n - halfN n) (i - halfN n) ++ [true] := by
  rw [turnsN, dif_neg (by omega)]

/-- What stands beside, from below. -/
def pathOf (l : List By) (i : Nat) : List (Bool × By) :=
  if _h : l.length ≤ 1 then [] else
    if i < halfN l.length then pathOf (l.take (halfN l.length)) i ++ [(false, (tRoot (l.drop (halfN l.length))).1)]
    else pathOf (l.drop (halfN l.length)) (i - halfN l.length) ++ [(true, (tRoot (l.take (halfN l.length))).1)]
termination_by l.length
decreasing_by
  all_goals
    have := halfN_pos l.length
    have := halfN_lt (n := l.length) (by omega)
    simp only [List.length_take, List.length_drop]
    omega

theorem pathOf_one {l : List By} {i : Nat} (h : l.length ≤ 1) : pathOf l i = [] := by rw [pathOf, dif_pos h]
theorem pathOf_two {l : List By} {i : Nat} (h : 2 ≤ l.length) : pathOf l i =
    if i < halfN l.length then pathOf (l.take (halfN l.length)) i ++ [(false, (tRoot (l.drop (halfN l.length))).1)]
    else pathOf (l.drop (halfN l.length)) (i - halfN l.length) ++ [(true, (tRoot (l.take (halfN l.length))).1)] := by
  rw [pathOf, dif_neg (by omega)]

theorem pathOf_sides : ∀ (n : Nat) (l : List By) (i : Nat), l.length ≤ n → (pathOf l i).map (·.1) = turnsN l.length i := by
  intro n
  induction n with
  | zero => intro l i h; rw [pathOf_one (by omega), turnsN_one (by omega)]; rfl
  | succ n ih =>
    intro l i h
    rcases Nat.lt_or_ge l.length 2 with h2 | h2
    · rw [pathOf_one (by omega), turnsN_one (by omega)]; rfl
    · have hk1 := halfN_pos l.length
      have hk2 := halfN_lt h2
      rw [pathOf_two h2, turnsN_two h2]
      split
      · rw [List.map_append, ih _ _ (by simp only [List.length_take]; omega)]
        simp only [List.length_take, List.map_cons, List.map_nil]
        rw [Nat.min_eq_left (by omega)]
      · rw [List.map_append, ih _ _ (by simp only [List.length_drop]; omega)]
        simp only [List.length_drop, List.map_cons, List.map_nil]

/-- One step up. -/
def up1 (now : By) (st : Bool × By) : By × Int := if st.1 then tNode st.2 now else tNode now st.2

/-- The way up: from a seal, by sides that are due and steps. -/
def climb : By → List Bool → List (Bool × By) → By × Int
  | now, b :: bs, st :: r => if st.1 ≠ b then ([], 7) else if (up1 now st).2 ≠ 0 then ([], (up1 now st).2) else climb (up1 now st).1 bs r
  | now, _, _ => (now, 0)

theorem climb_append : ∀ (bs : List Bool) (now : By) (r : List (Bool × By)) (cs : List Bool) (q : List (Bool × By)), bs.length = r.length →
    climb now (bs ++ cs) (r ++ q) = if (climb now bs r).2 ≠ 0 then ([], (climb now bs r).2) else climb (climb now bs r).1 cs q
  | [], now, [], cs, q, _ => by simp [climb]
  | b :: bs, now, st :: r, cs, q, h => by
    simp only [List.cons_append, climb]
    split
    · simp
    · split
      · simp
      · exact climb_append bs _ r cs q (by simpa using h)
  | [], _, _ :: _, _, _, h => by simp at h
  | _ :: _, _, [], _, _, h => by simp at h

/-- THE WAY UP ENDS AT THE LIST's SEAL ONLY FROM THE TEXT THAT STANDS THERE, BY THE STEPS THAT STAND THERE. -/
theorem climb_iff : ∀ (n : Nat) (l : List By) (i : Nat) (now : By) (steps : List (Bool × By)), l.length ≤ n → (tRoot l).2 = 0 → (hi : i < l.length) → steps.length = (turnsN l.length i).length →
    (climb now (turnsN l.length i) steps = ((tRoot l).1, 0) ↔ tLeaf l[i] = (now, 0) ∧ steps = pathOf l i) := by
  intro n
  induction n with
  | zero => intro l i now steps h _ hi; omega
  | succ n ih =>
    intro l i now steps hn hr hi hlen
    rcases Nat.lt_or_ge l.length 2 with h2 | h2
    · obtain ⟨s, rfl⟩ := List.length_eq_one_iff.1 (show l.length = 1 by omega)
      have hi0 : i = 0 := by simpa using hi
      subst hi0
      rw [turnsN_one (by simp)] at hlen ⊢
      obtain rfl : steps = [] := List.eq_nil_of_length_eq_zero hlen
      rw [tRoot_one rfl] at hr ⊢
      rw [pathOf_one (by simp)]
      simp only [List.headD_cons] at hr
      simp only [climb, List.headD_cons, List.getElem_cons_zero, and_true, Prod.mk.injEq]
      constructor
      · rintro rfl; exact Prod.ext rfl hr
      · intro h; rw [h]
    · have hk1 := halfN_pos l.length
      have hk2 := halfN_lt h2
      obtain ⟨r1, r2, r3⟩ := tRoot_split hr h2
      have lt1 : (l.take (halfN l.length)).length = halfN l.length := by simp only [List.length_take]; omega
      have ld1 : (l.drop (halfN l.length)).length = l.length - halfN l.length := by simp only [List.length_drop]
      rw [turnsN_two h2] at hlen ⊢
      rw [pathOf_two h2]
      by_cases hk : i < halfN l.length
      · rw [if_pos hk] at hlen ⊢
        rw [if_pos hk]
        have hne : steps ≠ [] := by rintro rfl; simp at hlen
        obtain ⟨st, last, rfl⟩ : ∃ st last, steps = st ++ [last] := ⟨steps.dropLast, steps.getLast hne, (List.dropLast_concat_getLast hne).symm⟩
        have hl2 : (turnsN (halfN l.length) i).length = st.length := by simpa using hlen.symm
        have IH := ih (l.take (halfN l.length)) i now st (by omega) r1 (by omega) (by rw [lt1]; exact hl2.symm)
        rw [climb_append _ _ _ _ _ hl2]
        have hg : (l.take (halfN l.length))[i]'(by omega) = l[i] := by simp
        rw [hg, lt1] at IH
        obtain ⟨lb, ls⟩ := last
        constructor
        · intro h
          split at h
          · rename_i h1; rw [Prod.mk.injEq] at h; exact absurd h.2 h1
          · rename_i h1
            have h1 : (climb now (turnsN (halfN l.length) i) st).2 = 0 := by simpa using h1
            simp only [climb] at h
            split at h
            · rw [Prod.mk.injEq] at h; exact absurd h.2 (by decide)
            · rename_i h3
              have h3 : lb = false := by simpa using h3
              subst h3
              split at h
              · rename_i h4; rw [Prod.mk.injEq] at h; exact absurd h.2 h4
              · rename_i h4
                have h4 : (up1 (climb now (turnsN (halfN l.length) i) st).1 (false, ls)).2 = 0 := by simpa using h4
                have h5 : tNode (climb now (turnsN (halfN l.length) i) st).1 ls = ((tRoot l).1, 0) := by
                  rw [← h]; exact Prod.ext rfl h4
                obtain ⟨g1, g2⟩ := tNode_inj h5 r3
                obtain ⟨g3, g4⟩ := IH.1 (by rw [← g1]; exact Prod.ext rfl h1)
                exact ⟨g3, by rw [g4, g2]⟩
        · rintro ⟨h1, h3⟩
          obtain ⟨h4, h5⟩ := List.append_inj' h3 rfl
          have h6 := IH.2 ⟨h1, h4⟩
          rw [h6]
          have h5 : (lb, ls) = (false, (tRoot (l.drop (halfN l.length))).1) := by simpa using h5
          rw [h5]
          simp only [climb, up1]
          rw [if_neg (by simp), if_neg (by simp)]
          simp only [Bool.false_eq_true, if_false]
          rw [r3]; simp
      · rw [if_neg hk] at hlen ⊢
        rw [if_neg hk]
        have hne : steps ≠ [] := by rintro rfl; simp at hlen
        obtain ⟨st, last, rfl⟩ : ∃ st last, steps = st ++ [last] := ⟨steps.dropLast, steps.getLast hne, (List.dropLast_concat_getLast hne).symm⟩
        have hl2 : (turnsN (l.length - halfN l.length) (i - halfN l.length)).length = st.length := by simpa using hlen.symm
        have IH := ih (l.drop (halfN l.length)) (i - halfN l.length) now st (by omega) r2 (by omega) (by rw [ld1]; exact hl2.symm)
        rw [climb_append _ _ _ _ _ hl2]
        have hg : (l.drop (halfN l.length))[i - halfN l.length]'(by omega) = l[i] := by
          rw [List.getElem_drop]; congr 1; omega
        rw [hg, ld1] at IH
        obtain ⟨lb, ls⟩ := last
        constructor
        · intro h
          split at h
          · rename_i h1; rw [Prod.mk.injEq] at h; exact absurd h.2 h1
          · rename_i h1
            have h1 : (climb now (turnsN (l.length - halfN l.length) (i - halfN l.length)) st).2 = 0 := by simpa using h1
            simp only [climb] at h
            split at h
            · rw [Prod.mk.injEq] at h; exact absurd h.2 (by decide)
            · rename_i h3
              have h3 : lb = true := by simpa using h3
              subst h3
              split at h
              · rename_i h4; rw [Prod.mk.injEq] at h; exact absurd h.2 h4
              · rename_i h4
                have h4 : (up1 (climb now (turnsN (l.length - halfN l.length) (i - halfN l.length)) st).1 (true, ls)).2 = 0 := by simpa using h4
                have h5 : tNode ls (climb now (turnsN (l.length - halfN l.length) (i - halfN l.length)) st).1 = ((tRoot l).1, 0) := by
                  rw [← h]; exact Prod.ext rfl h4
                obtain ⟨g1, g2⟩ := tNode_inj h5 r3
                obtain ⟨g3, g4⟩ := IH.1 (by rw [← g2]; exact Prod.ext rfl h1)
                exact ⟨g3, by rw [g4, g1]⟩
        · rintro ⟨h1, h3⟩
          obtain ⟨h4, h5⟩ := List.append_inj' h3 rfl
          have h6 := IH.2 ⟨h1, h4⟩
          rw [h6]
          have h5 : (lb, ls) = (true, (tRoot (l.take (halfN l.length))).1) := by simpa using h5
          rw [h5]
          simp only [climb, up1]
          rw [if_neg (by simp), if_neg (by simp)]
          simp only [if_true]
          rw [r3]; simp

/-- Do steps show that a text stands at a place of a list of so many whose seal this is? -/
def pathShows (root : By) (n i : Int) (text : By) (steps : List (Bool × By)) : Int :=
  if n < 1 ∨ 24 < n then 3 else if i < 0 ∨ n ≤ i then 5
  else if (turnsN n.toNat i.toNat).length ≠ steps.length then 7
  else if (tLeaf text).2 ≠ 0 then (tLeaf text).2
  else if (climb (tLeaf text).1 (turnsN n.toNat i.toNat) steps).2 ≠ 0 then (climb (tLeaf text).1 (turnsN n.toNat i.toNat) steps).2
  else if (climb (tLeaf text).1 (turnsN n.toNat i.toNat) steps).1 ≠ root then 7 else 0

theorem tLeaf_get : ∀ (n : Nat) (l : List By) (i : Nat), l.length ≤ n → (tRoot l).2 = 0 → (hi : i < l.length) → (tLeaf l[i]).2 = 0 := by
  intro n
  induction n with
  | zero => intro l i h _ hi; omega
  | succ n ih =>
    intro l i hn hr hi
    rcases Nat.lt_or_ge l.length 2 with h2 | h2
    · obtain ⟨s, rfl⟩ := List.length_eq_one_iff.1 (show l.length = 1 by omega)
      have hi0 : i = 0 := by simpa using hi
      subst hi0
      rw [tRoot_one rfl] at hr
      exact hr
    · have hk1 := halfN_pos l.length
      have hk2 := halfN_lt h2
      obtain ⟨r1, r2, _⟩ := tRoot_split hr h2
      by_cases hk : i < halfN l.length
      · have := ih (l.take (halfN l.length)) i (by simp only [List.length_take]; omega) r1 (by simp only [List.length_take]; omega)
        simpa using this
      · have := ih (l.drop (halfN l.length)) (i - halfN l.length) (by simp only [List.length_drop]; omega) r2 (by simp only [List.length_drop]; omega)
        rw [List.getElem_drop] at this
        have e : halfN l.length + (i - halfN l.length) = i := by omega
        simpa [e] using this

/-- WHAT IS SHOWN IS SO, AND WHAT IS SO IS SHOWN, BY ONE PATH ALONE. -/
theorem pathShows_iff {l : List By} {i : Nat} (hl : l.length ≤ 24) (hr : (tRoot l).2 = 0) (hi : i < l.length) (text : By) (steps : List (Bool × By)) :
    pathShows (tRoot l).1 l.length i text steps = 0 ↔ text = l[i] ∧ steps = pathOf l i := by
  unfold pathShows
  rw [if_neg (by omega), if_neg (by omega), Int.toNat_natCast, Int.toNat_natCast]
  have hp := congrArg List.length (pathOf_sides _ l i (Nat.le_refl _))
  rw [List.length_map] at hp
  have hg := tLeaf_get _ l i (Nat.le_refl _) hr hi
  constructor
  · intro h
    split at h
    · cases h
    · rename_i h1
      have h1 : (turnsN l.length i).length = steps.length := by simpa using h1
      split at h
      · rename_i h2; exact absurd h h2
      · rename_i h2
        have h2 : (tLeaf text).2 = 0 := by simpa using h2
        split at h
        · rename_i h3; exact absurd h h3
        · rename_i h3
          have h3 : (climb (tLeaf text).1 (turnsN l.length i) steps).2 = 0 := by simpa using h3
          split at h
          · cases h
          · rename_i h4
            have h4 : (climb (tLeaf text).1 (turnsN l.length i) steps).1 = (tRoot l).1 := by simpa using h4
            obtain ⟨g1, g2⟩ := (climb_iff _ l i (tLeaf text).1 steps (Nat.le_refl _) hr hi h1.symm).1 (Prod.ext h4 h3)
            exact ⟨tLeaf_inj (x := (tLeaf text).1) (Prod.ext rfl h2) g1, g2⟩
  · rintro ⟨rfl, rfl⟩
    have := (climb_iff _ l i (tLeaf l[i]).1 (pathOf l i) (Nat.le_refl _) hr hi hp).2 ⟨Prod.ext rfl hg, rfl⟩
    rw [this, if_neg (by omega), if_neg (by omega), if_neg (by simp), if_neg (by simp)]

/-- What a way up says, held against what it should come to. -/
def fin7 (all : By) (r : By × Int) : Int := if r.2 ≠ 0 then r.2 else if r.1 ≠ all then 7 else 0

theorem fin7_err {all : By} {c : Int} (h : c ≠ 0) : fin7 all ([], c) = c := by unfold fin7; rw [if_pos h]
theorem fin7_end {all now : By} : fin7 all (now, 0) = if now ≠ all then 7 else 0 := by unfold fin7; rw [if_neg (by simp)]
end Go.Gs

namespace Go.Gs

theorem halfN_between {m n : Nat} (h : halfN n < m) (h2 : m ≤ n) (h3 : n ≤ 32) : halfN m = halfN n := by
  have := halfN_spec n
  have := halfN_spec m
  omega

/-- The seal of a beginning is good where the list's is, and no longer. -/
theorem tRoot_begin : ∀ (n : Nat) (l : List By) (m : Nat), l.length ≤ n → n ≤ 24 → (tRoot l).2 = 0 → 1 ≤ m → m ≤ l.length → (tRoot (l.take m)).2 = 0 ∧ (tRoot (l.take m)).1.length ≤ (tRoot l).1.length := by
  intro n
  induction n with
  | zero => intro l m h _ _ h1 h2; omega
  | succ n ih =>
    intro l m hn hb hr h1 hm
    by_cases hml : m = l.length
    · subst hml; rw [List.take_length]; exact ⟨hr, Nat.le_refl _⟩
    · have h2 : 2 ≤ l.length := by omega
      have hk1 := halfN_pos l.length
      have hk2 := halfN_lt h2
      obtain ⟨r1, r2, r3⟩ := tRoot_split hr h2
      have r4 := tNode_ok (a := (tRoot (l.take (halfN l.length))).1) (b := (tRoot (l.drop (halfN l.length))).1) (by rw [r3])
      rw [r3] at r4
      have r4 : (tRoot l).1 = _ := r4
      have r5 : (tRoot (l.take (halfN l.length))).1.length + (tRoot (l.drop (halfN l.length))).1.length ≤ 20000 := by
        unfold tNode at r3
        split at r3
        · rw [Prod.mk.injEq] at r3; exact absurd r3.2 (by decide)
        · omega
      by_cases hk : m ≤ halfN l.length
      · have := ih (l.take (halfN l.length)) m (by simp only [List.length_take]; omega) (by omega) r1 h1 (by simp only [List.length_take]; omega)
        rw [List.take_take, Nat.min_eq_left hk] at this
        refine ⟨this.1, Nat.le_trans this.2 ?_⟩
        rw [r4]
        simp only [List.length_cons, List.length_append]; omega
      · have h3 := ih (l.drop (halfN l.length)) (m - halfN l.length) (by simp only [List.length_drop]; omega) (by omega) r2 (by omega) (by simp only [List.length_drop]; omega)
        have hhm : halfN m = halfN l.length := halfN_between (by omega) (by omega) (by omega)
        have hlm : (l.take m).length = m := by simp only [List.length_take]; omega
        have e1 : (l.take m).take (halfN l.length) = l.take (halfN l.length) := by rw [List.take_take, Nat.min_eq_left (by omega)]
        have e2 : (l.take m).drop (halfN l.length) = (l.drop (halfN l.length)).take (m - halfN l.length) := by rw [List.drop_take]
        have h4 := tRoot_two (l := l.take m) (by omega)
        rw [hlm, hhm, e1, e2, if_neg (by simpa using r1), if_neg (by simpa using h3.1)] at h4
        have h5 : tNode (tRoot (l.take (halfN l.length))).1 (tRoot ((l.drop (halfN l.length)).take (m - halfN l.length))).1 = (78 :: (Lib.itoa (tRoot (l.take (halfN l.length))).1.length ++ 58 :: ((tRoot (l.take (halfN l.length))).1 ++ (tRoot ((l.drop (halfN l.length)).take (m - halfN l.length))).1)), 0) := by
          unfold tNode; rw [if_neg (by have := h3.2; omega)]
        rw [h4, h5, r4]
        refine ⟨rfl, ?_⟩
        have := h3.2
        simp only [List.length_cons, List.length_append]; omega

/-- The seal of a beginning that goes beyond the first half. -/
theorem tRoot_beyond {l : List By} {m : Nat} (hl : l.length ≤ 24) (hr : (tRoot l).2 = 0) (h2 : 2 ≤ l.length) (hk : halfN l.length < m) (hm : m ≤ l.length) :
    (tRoot ((l.drop (halfN l.length)).take (m - halfN l.length))).2 = 0 ∧
      tNode (tRoot (l.take (halfN l.length))).1 (tRoot ((l.drop (halfN l.length)).take (m - halfN l.length))).1 = ((tRoot (l.take m)).1, 0) := by
  have hk1 := halfN_pos l.length
  have hr2 := (tRoot_begin _ l m (Nat.le_refl _) hl hr (by omega) hm).1
  have hlm : (l.take m).length = m := by simp only [List.length_take]; omega
  have hhm : halfN m = halfN l.length := halfN_between (by omega) (by omega) (by omega)
  obtain ⟨_, g2, g3⟩ := tRoot_split hr2 (by omega)
  rw [hlm, hhm] at g2 g3
  have e1 : (l.take m).take (halfN l.length) = l.take (halfN l.length) := by rw [List.take_take, Nat.min_eq_left (by omega)]
  have e2 : (l.take m).drop (halfN l.length) = (l.drop (halfN l.length)).take (m - halfN l.length) := by rw [List.drop_take]
  rw [e2] at g2 g3
  rw [e1] at g3
  exact ⟨g2, g3⟩

/-- The seals that show that a list goes on behind its first m. -/
def growOf (l : List By) (m : Nat) (known : Bool) : List By :=
  if _h : l.length ≤ m ∨ l.length ≤ 1 then (if known then [] else [(tRoot l).1]) else
    if m ≤ halfN l.length then growOf (l.take (halfN l.length)) m known ++ [(tRoot (l.drop (halfN l.length))).1]
    else growOf (l.drop (halfN l.length)) (m - halfN l.length) false ++ [(tRoot (l.take (halfN l.length))).1]
termination_by l.length
decreasing_by
  all_goals
    have := halfN_pos l.length
    have := halfN_lt (n := l.length) (by omega)
    simp only [List.length_take, List.length_drop]
    omega

theorem growOf_all {l : List By} {known : Bool} : growOf l l.length known = if known then [] else [(tRoot l).1] := by rw [growOf, dif_pos (.inl (Nat.le_refl _))]
theorem growOf_less {l : List By} {m : Nat} {known : Bool} (h1 : 1 ≤ m) (h : m < l.length) : growOf l m known =
    if m ≤ halfN l.length then growOf (l.take (halfN l.length)) m known ++ [(tRoot (l.drop (halfN l.length))).1]
    else growOf (l.drop (halfN l.length)) (m - halfN l.length) false ++ [(tRoot (l.take (halfN l.length))).1] := by
  rw [growOf, dif_neg (by omega)]

/-- One who takes seals, the last one first. -/
abbrev Sh := List By × Bool
def lastS (s : Sh) : By × Sh := if s.1 = [] then ([], s.1, true) else (s.1.getLastD [], s.1.dropLast, s.2)
def nodeS (a b : By) (s : Sh) : By × Sh := ((tNode a b).1, s.1, s.2 || (tNode a b).2 != 0)

/-- Both seals, of the first m, and of all n. -/
def bothS (m n : Nat) (old : By) (known : Bool) (s : Sh) : By × By × Sh :=
  if _h : n ≤ m ∨ n ≤ 1 then (if known then (old, old, s) else ((lastS s).1, (lastS s).1, (lastS s).2)) else
    if m ≤ halfN n then
      let r := bothS m (halfN n) old known (lastS s).2
      (r.1, nodeS r.2.1 (lastS s).1 r.2.2)
    else
      let r := bothS (m - halfN n) (n - halfN n) old false (lastS s).2
      let x := nodeS (lastS s).1 r.1 r.2.2
      (x.1, nodeS (lastS s).1 r.2.1 x.2)
termination_by n
decreasing_by
  all_goals
    have := halfN_pos n
    have := halfN_lt (n := n) (by omega)
    omega

theorem bothS_all {n : Nat} {old : By} {known : Bool} {s : Sh} : bothS n n old known s = if known then (old, old, s) else ((lastS s).1, (lastS s).1, (lastS s).2) := by rw [bothS, dif_pos (.inl (Nat.le_refl _))]
theorem bothS_less {m n : Nat} {old : By} {known : Bool} {s : Sh} (h1 : 1 ≤ m) (h : m < n) : bothS m n old known s =
    if m ≤ halfN n then
      ((bothS m (halfN n) old known (lastS s).2).1, nodeS (bothS m (halfN n) old known (lastS s).2).2.1 (lastS s).1 (bothS m (halfN n) old known (lastS s).2).2.2)
    else
      ((nodeS (lastS s).1 (bothS (m - halfN n) (n - halfN n) old false (lastS s).2).1 (bothS (m - halfN n) (n - halfN n) old false (lastS s).2).2.2).1,
        nodeS (lastS s).1 (bothS (m - halfN n) (n - halfN n) old false (lastS s).2).2.1 (nodeS (lastS s).1 (bothS (m - halfN n) (n - halfN n) old false (lastS s).2).1 (bothS (m - halfN n) (n - halfN n) old false (lastS s).2).2.2).2) := by
  rw [bothS, dif_neg (by omega)]

theorem lastS_good {s : Sh} (h : (lastS s).2.2 = false) : s.2 = false ∧ s.1 = (lastS s).2.1 ++ [(lastS s).1] := by
  unfold lastS at h ⊢
  split
  · rename_i hc; rw [if_pos hc] at h; cases h
  · rename_i hc
    rw [if_neg hc] at h
    refine ⟨h, ?_⟩
    simp only
    have : s.1.getLastD [] = s.1.getLast hc := by rw [List.getLastD_eq_getLast?, List.getLast?_eq_some_getLast hc]; rfl
    rw [this, List.dropLast_concat_getLast]

theorem lastS_mk (r : List By) (x : By) (b : Bool) : lastS (r ++ [x], b) = (x, r, b) := by
  unfold lastS
  rw [if_neg (by simp)]
  simp

theorem bothS_bad : ∀ (N m n : Nat) (old : By) (known : Bool) (s : Sh), n ≤ N → 1 ≤ m → m ≤ n → (bothS m n old known s).2.2.2 = false → s.2 = false := by
  intro N
  induction N with
  | zero => intro m n old known s h h1 h2; omega
  | succ N ih =>
    intro m n old known s hn h1 h2 h
    by_cases hmn : m = n
    · subst hmn
      rw [bothS_all] at h
      split at h
      · exact h
      · exact (lastS_good h).1
    · have hk1 := halfN_pos n
      have hk2 := halfN_lt (n := n) (by omega)
      rw [bothS_less h1 (by omega)] at h
      split at h
      · rename_i hk
        simp only [nodeS, Bool.or_eq_false_iff] at h
        exact (lastS_good (ih _ _ _ _ _ (by omega) h1 (by omega) h.1)).1
      · rename_i hk
        simp only [nodeS, Bool.or_eq_false_iff] at h
        exact (lastS_good (ih _ _ _ _ _ (by omega) (by omega) (by omega) h.1.1)).1

/-- WHAT SEALS SHOW IS SO, AND JUST THESE SEALS SHOW IT. -/
theorem bothS_only : ∀ (N : Nat) (l : List By) (m : Nat) (old : By) (known : Bool) (s : Sh) (rest : List By), l.length ≤ N → l.length ≤ 24 → (tRoot l).2 = 0 → 1 ≤ m → m ≤ l.length →
    (bothS m l.length old known s).2.2 = (rest, false) → (bothS m l.length old known s).2.1 = (tRoot l).1 →
      s.2 = false ∧ s.1 = rest ++ growOf l m known ∧ (bothS m l.length old known s) = ((tRoot (l.take m)).1, (tRoot l).1, rest, false) := by
  intro N
  induction N with
  | zero => intro l m old known s rest h _ _ h1 h2; omega
  | succ N ih =>
    intro l m old known s rest hN hl hr h1 hm
    by_cases hml : m = l.length
    · subst hml
      rw [bothS_all, growOf_all, List.take_length]
      cases known with
      | true =>
        simp only [if_true, List.append_nil, Prod.mk.injEq]
        intro h3 h4
        rw [h3]; exact ⟨rfl, rfl, h4, h4, rfl⟩
      | false =>
        simp only [Bool.false_eq_true, if_false, Prod.mk.injEq]
        intro h3 h4
        obtain ⟨g1, g2⟩ := lastS_good (s := s) (by rw [h3])
        rw [h3, h4] at g2
        exact ⟨g1, g2, h4, h4, h3⟩
    · have h2 : 2 ≤ l.length := by omega
      have hk1 := halfN_pos l.length
      have hk2 := halfN_lt h2
      obtain ⟨r1, r2, r3⟩ := tRoot_split hr h2
      have lt1 : (l.take (halfN l.length)).length = halfN l.length := by simp only [List.length_take]; omega
      have ld1 : (l.drop (halfN l.length)).length = l.length - halfN l.length := by simp only [List.length_drop]
      intro h3 h4
      · have hb := bothS_bad _ m l.length old known s (Nat.le_refl _) h1 hm (by rw [h3])
        rw [bothS_less h1 (by omega)] at h3 h4 ⊢
        rw [growOf_less h1 (by omega)]
        by_cases hk : m ≤ halfN l.length
        · rw [if_pos hk] at h3 h4 ⊢
          rw [if_pos hk]
          simp only [nodeS, Prod.mk.injEq, Bool.or_eq_false_iff, bne_eq_false_iff_eq] at h3 h4
          have h5 : tNode (bothS m (halfN l.length) old known (lastS s).2).2.1 (lastS s).1 = ((tRoot l).1, 0) := Prod.ext h4 h3.2.2
          obtain ⟨g1, g2⟩ := tNode_inj h5 r3
          have IH := ih (l.take (halfN l.length)) m old known (lastS s).2 rest (by omega) (by omega) r1 h1 (by omega)
          rw [lt1, List.take_take, Nat.min_eq_left hk] at IH
          obtain ⟨i1, i2, i3⟩ := IH (Prod.ext h3.1 h3.2.1) g1
          have hls := lastS_good (s := s) i1
          refine ⟨hb, ?_, ?_⟩
          · rw [hls.2, i2, g2, List.append_assoc]
          · rw [i3, g2]
            simp only [nodeS, r3]
            simp
        · rw [if_neg hk] at h3 h4 ⊢
          rw [if_neg hk]
          simp only [nodeS, Prod.mk.injEq, Bool.or_eq_false_iff, bne_eq_false_iff_eq] at h3 h4
          have h5 : tNode (lastS s).1 (bothS (m - halfN l.length) (l.length - halfN l.length) old false (lastS s).2).2.1 = ((tRoot l).1, 0) := Prod.ext h4 h3.2.2
          obtain ⟨g1, g2⟩ := tNode_inj h5 r3
          have IH := ih (l.drop (halfN l.length)) (m - halfN l.length) old false (lastS s).2 rest (by omega) (by omega) r2 (by omega) (by omega)
          rw [ld1] at IH
          obtain ⟨i1, i2, i3⟩ := IH (Prod.ext h3.1 h3.2.1.1) g2
          have hls := lastS_good (s := s) i1
          obtain ⟨b1, b2⟩ := tRoot_beyond hl hr h2 (by omega) hm
          refine ⟨hb, ?_, ?_⟩
          · rw [hls.2, i2, g1, List.append_assoc]
          · rw [i3, g1]
            simp only [nodeS, r3, b2]
            simp

theorem bothS_shows : ∀ (N : Nat) (l : List By) (m : Nat) (old : By) (known : Bool) (rest : List By), l.length ≤ N → l.length ≤ 24 → (tRoot l).2 = 0 → 1 ≤ m → m ≤ l.length → (known = true → old = (tRoot (l.take m)).1) →
    bothS m l.length old known (rest ++ growOf l m known, false) = ((tRoot (l.take m)).1, (tRoot l).1, rest, false) := by
  intro N
  induction N with
  | zero => intro l m old known rest h _ _ h1 h2; omega
  | succ N ih =>
    intro l m old known rest hN hl hr h1 hm hold
    by_cases hml : m = l.length
    · subst hml
      rw [bothS_all, growOf_all]
      cases known with
      | true =>
        have := hold rfl
        rw [this]
        simp [List.take_length]
      | false =>
        simp only [Bool.false_eq_true, if_false, List.take_length]
        rw [lastS_mk]
    · have h2 : 2 ≤ l.length := by omega
      have hk1 := halfN_pos l.length
      have hk2 := halfN_lt h2
      obtain ⟨r1, r2, r3⟩ := tRoot_split hr h2
      have lt1 : (l.take (halfN l.length)).length = halfN l.length := by simp only [List.length_take]; omega
      have ld1 : (l.drop (halfN l.length)).length = l.length - halfN l.length := by simp only [List.length_drop]
      rw [bothS_less h1 (by omega), growOf_less h1 (by omega)]
      by_cases hk : m ≤ halfN l.length
      · rw [if_pos hk, if_pos hk, ← List.append_assoc, lastS_mk]
        have IH := ih (l.take (halfN l.length)) m old known rest (by omega) (by omega) r1 h1 (by omega) (by rw [List.take_take, Nat.min_eq_left hk]; exact hold)
        rw [lt1, List.take_take, Nat.min_eq_left hk] at IH
        simp only
        rw [IH]
        simp only [nodeS, r3]
        simp
      · rw [if_neg hk, if_neg hk, ← List.append_assoc, lastS_mk]
        have IH := ih (l.drop (halfN l.length)) (m - halfN l.length) old false rest (by omega) (by omega) r2 (by omega) (by omega) (fun h => by cases h)
        rw [ld1] at IH
        obtain ⟨b1, b2⟩ := tRoot_beyond hl hr h2 (by omega) hm
        simp only
        rw [IH]
        simp only [nodeS, r3, b2]
        simp

/-- Do seals show that a list of n whose seal is root goes on where one of m ended whose seal is old? -/
def growShows (old : By) (m : Int) (root : By) (n : Int) (l : List By) : Int :=
  if m < 1 ∨ n < m ∨ 24 < n then 3
  else if (bothS m.toNat n.toNat old true (l, false)).2.2.2 = true ∨ (bothS m.toNat n.toNat old true (l, false)).2.2.1 ≠ [] ∨ (bothS m.toNat n.toNat old true (l, false)).1 ≠ old ∨ (bothS m.toNat n.toNat old true (l, false)).2.1 ≠ root then 7 else 0

theorem growShows_iff {l : List By} {m : Nat} (hl : l.length ≤ 24) (hr : (tRoot l).2 = 0) (h1 : 1 ≤ m) (hm : m ≤ l.length) (old : By) (seals : List By) :
    growShows old m (tRoot l).1 l.length seals = 0 ↔ old = (tRoot (l.take m)).1 ∧ seals = growOf l m true := by
  unfold growShows
  rw [if_neg (by omega), Int.toNat_natCast, Int.toNat_natCast]
  constructor
  · intro h
    split at h
    · cases h
    · rename_i h2
      simp only [not_or, Bool.not_eq_true, ne_eq, Decidable.not_not] at h2
      obtain ⟨e1, e2, e3, e4⟩ := h2
      obtain ⟨_, g2, g3⟩ := bothS_only _ l m old true (seals, false) [] (Nat.le_refl _) hl hr h1 hm (Prod.ext e2 e1) e4
      rw [g3] at e3
      exact ⟨e3.symm, by simpa using g2⟩
  · rintro ⟨e1, rfl⟩
    have := bothS_shows _ l m old true [] (Nat.le_refl _) hl hr h1 hm (fun _ => e1)
    rw [List.nil_append] at this
    rw [this, if_neg]
    simp [e1]
end Go.Gs

namespace Go.Gs

/-- A part of a list. -/
def sub {α : Type} (l : List α) (f t : Nat) : List α := (l.take t).drop f

theorem sub_all {α : Type} (l : List α) : sub l 0 l.length = l := by simp [sub]
theorem sub_len {α : Type} {l : List α} {f t : Nat} (ht : t ≤ l.length) : (sub l f t).length = t - f := by
  simp only [sub, List.length_drop, List.length_take]; omega
theorem sub_take {α : Type} (l : List α) {f t k : Nat} (h : f + k ≤ t) : (sub l f t).take k = sub l f (f + k) := by
  unfold sub
  rw [List.take_drop, List.take_take, Nat.min_eq_left h]
theorem sub_drop {α : Type} (l : List α) (f t k : Nat) : (sub l f t).drop k = sub l (f + k) t := by
  unfold sub
  rw [List.drop_drop]

/-- Parts around a place, from above, ahead of the last one. -/
def spansF (f t i : Nat) : List (Nat × Nat) :=
  if _h : t - f ≤ 1 then [] else (f, t) :: (if i < f + halfN (t - f) then spansF f (f + halfN (t - f)) i else spansF (f + halfN (t - f)) t i)
termination_by t - f
decreasing_by
  all_goals
    have := halfN_pos (t - f)
    have := halfN_lt (n := t - f) (by omega)
    omega

theorem spansF_one {f t i : Nat} (h : t - f ≤ 1) : spansF f t i = [] := by rw [spansF, dif_pos h]
theorem spansF_two {f t i : Nat} (h : ¬ t - f ≤ 1) : spansF f t i = (f, t) :: (if i < f + halfN (t - f) then spansF f (f + halfN (t - f)) i else spansF (f + halfN (t - f)) t i) := by rw [spansF, dif_neg h]

theorem spansF_in : ∀ (n f t i : Nat), t - f ≤ n → ∀ p ∈ spansF f t i, f ≤ p.1 ∧ p.2 ≤ t ∧ 2 ≤ p.2 - p.1 := by
  intro n
  induction n with
  | zero => intro f t i h p hp; rw [spansF_one (by omega)] at hp; cases hp
  | succ n ih =>
    intro f t i h p hp
    by_cases h1 : t - f ≤ 1
    · rw [spansF_one h1] at hp; cases hp
    · have hk1 := halfN_pos (t - f)
      have hk2 := halfN_lt (n := t - f) (by omega)
      rw [spansF_two h1] at hp
      rcases List.mem_cons.1 hp with rfl | hp
      · exact ⟨Nat.le_refl _, Nat.le_refl _, by omega⟩
      · split at hp
        · have := ih f (f + halfN (t - f)) i (by omega) p hp; omega
        · have := ih (f + halfN (t - f)) t i (by omega) p hp; omega

/-- Where a part is parted; whether what stands beside stands left of a place; what stands beside. -/
def midOf (p : Nat × Nat) : Nat := p.1 + halfN (p.2 - p.1)
def sideOf (i : Nat) (p : Nat × Nat) : Bool := decide (midOf p ≤ i)
def besideOf (l : List By) (i : Nat) (p : Nat × Nat) : List By := if midOf p ≤ i then sub l p.1 (midOf p) else sub l (midOf p) p.2
def stepOf (l : List By) (i : Nat) (p : Nat × Nat) : Bool × By := (sideOf i p, (tRoot (besideOf l i p)).1)

theorem spans_turns : ∀ (n f t i : Nat), t - f ≤ n → f ≤ i → (spansF f t i).reverse.map (sideOf i) = turnsN (t - f) (i - f) := by
  intro n
  induction n with
  | zero => intro f t i h hi; rw [spansF_one (by omega), turnsN_one (by omega)]; rfl
  | succ n ih =>
    intro f t i h hi
    by_cases h1 : t - f ≤ 1
    · rw [spansF_one h1, turnsN_one h1]; rfl
    · have hk1 := halfN_pos (t - f)
      have hk2 := halfN_lt (n := t - f) (by omega)
      rw [spansF_two h1, turnsN_two (by omega), List.reverse_cons, List.map_append]
      by_cases hc : i < f + halfN (t - f)
      · rw [if_pos hc, if_pos (by omega), ih f _ i (by omega) hi]
        have e1 : f + halfN (t - f) - f = halfN (t - f) := by omega
        rw [e1]
        have e0 : sideOf i (f, t) = false := decide_eq_false (show ¬ midOf (f, t) ≤ i from Nat.not_le.2 hc)
        simp only [List.map_cons, List.map_nil, e0]
      · rw [if_neg hc, if_neg (by omega), ih _ t i (by omega) (by omega)]
        have e1 : t - (f + halfN (t - f)) = t - f - halfN (t - f) := by omega
        have e2 : i - (f + halfN (t - f)) = i - f - halfN (t - f) := by omega
        rw [e1, e2]
        have e0 : sideOf i (f, t) = true := decide_eq_true (show midOf (f, t) ≤ i from Nat.not_lt.1 hc)
        simp only [List.map_cons, List.map_nil, e0]

theorem spans_path (l : List By) : ∀ (n f t i : Nat), t - f ≤ n → f ≤ i → t ≤ l.length → (spansF f t i).reverse.map (stepOf l i) = pathOf (sub l f t) (i - f) := by
  intro n
  induction n with
  | zero => intro f t i h hi ht; rw [spansF_one (by omega), pathOf_one (by rw [sub_len ht]; omega)]; rfl
  | succ n ih =>
    intro f t i h hi ht
    by_cases h1 : t - f ≤ 1
    · rw [spansF_one h1, pathOf_one (by rw [sub_len ht]; exact h1)]; rfl
    · have hk1 := halfN_pos (t - f)
      have hk2 := halfN_lt (n := t - f) (by omega)
      have hl := sub_len (f := f) ht
      rw [spansF_two h1, pathOf_two (by omega), List.reverse_cons, List.map_append, hl, sub_take l (by omega), sub_drop]
      by_cases hc : i < f + halfN (t - f)
      · rw [if_pos hc, if_pos (by omega), ih f _ i (by omega) hi (by omega)]
        have e0 : sideOf i (f, t) = false := decide_eq_false (show ¬ midOf (f, t) ≤ i from Nat.not_le.2 hc)
        simp only [List.map_cons, List.map_nil, stepOf, e0, besideOf]
        rw [if_neg (show ¬ midOf (f, t) ≤ i from Nat.not_le.2 hc)]
        rfl
      · rw [if_neg hc, if_neg (by omega), ih _ t i (by omega) (by omega) ht]
        have e2 : i - (f + halfN (t - f)) = i - f - halfN (t - f) := by omega
        rw [e2]
        have e0 : sideOf i (f, t) = true := decide_eq_true (show midOf (f, t) ≤ i from Nat.not_lt.1 hc)
        simp only [List.map_cons, List.map_nil, stepOf, e0, besideOf]
        rw [if_pos (show midOf (f, t) ≤ i from Nat.not_lt.1 hc)]
        rfl

theorem tRoot_sub : ∀ (n : Nat) (l : List By) (f t i : Nat), t - f ≤ n → t ≤ l.length → (tRoot (sub l f t)).2 = 0 → ∀ p ∈ spansF f t i, (tRoot (besideOf l i p)).2 = 0 ∧ (tRoot (sub l p.1 (midOf p))).2 = 0 ∧ (tRoot (sub l (midOf p) p.2)).2 = 0 := by
  intro n
  induction n with
  | zero => intro l f t i h _ _ p hp; rw [spansF_one (by omega)] at hp; cases hp
  | succ n ih =>
    intro l f t i h ht hr p hp
    by_cases h1 : t - f ≤ 1
    · rw [spansF_one h1] at hp; cases hp
    · have hk1 := halfN_pos (t - f)
      have hk2 := halfN_lt (n := t - f) (by omega)
      have hl := sub_len (f := f) ht
      obtain ⟨r1, r2, _⟩ := tRoot_split hr (by omega)
      rw [hl, sub_take l (by omega)] at r1
      rw [hl, sub_drop] at r2
      rw [spansF_two h1] at hp
      rcases List.mem_cons.1 hp with rfl | hp
      · refine ⟨?_, r1, r2⟩
        unfold besideOf
        split
        · exact r1
        · exact r2
      · split at hp
        · exact ih l f _ i (by omega) (by omega) r1 p hp
        · exact ih l _ t i (by omega) ht r2 p hp

theorem spansF_len : ∀ (n f t i : Nat), t - f ≤ n → (spansF f t i).length ≤ t - f := by
  intro n
  induction n with
  | zero => intro f t i h; rw [spansF_one (by omega)]; simp
  | succ n ih =>
    intro f t i h
    by_cases h1 : t - f ≤ 1
    · rw [spansF_one h1]; simp
    · have hk1 := halfN_pos (t - f)
      have hk2 := halfN_lt (n := t - f) (by omega)
      rw [spansF_two h1, List.length_cons]
      split
      · have := ih f (f + halfN (t - f)) i (by omega); omega
      · have := ih (f + halfN (t - f)) t i (by omega); omega

/-- The path of a place, or what is wrong. -/
def rootOf2 (l : List By) : By × Int := rootOf l
def pathR (l : List By) (i : Int) : List (Bool × By) × Int := if (rootOf l).2 ≠ 0 then ([], (rootOf l).2) else if i < 0 ∨ l.length ≤ i then ([], 5) else (pathOf l i.toNat, 0)
end Go.Gs

namespace Go.Ab
open Go.Proofs Go.Gs
variable {G0 : Nat → Option Obj}

theorem getX {α : Type} {X : α → List AV} {l : List α} {i : Nat} (h : i < l.length) : (l.map X)[i]? = some (X l[i]) := by rw [List.getElem?_map, List.getElem?_eq_getElem h]; rfl

theorem wrapI {n : Int} (h0 : 0 ≤ n) (h1 : n ≤ 9223372036854775807) : IntKind.i64.wrap n = n := wrap64 (by omega) h1

/-- Lists held together, place by place. -/
theorem eq_gen {α : Type} [DecidableEq α] {D : Nat → Prop} {Q : Bool → Prop} (a b : List α) (hl : a.length = b.length)
    (hstep : ∀ i, (h : i < a.length) → (a[i] ≠ b[i] → Q false) → (a[i] = b[i] → D (i + 1)) → D i) (hend : Q true → D a.length) (hQ : Q (decide (a = b))) : D 0 := by
  have key : ∀ (m i : Nat), a.length - i ≤ m → i ≤ a.length → (∀ j, j < i → a[j]? = b[j]?) → D i := by
    intro m
    induction m with
    | zero =>
      intro i h1 h2 h3
      obtain rfl : i = a.length := by omega
      have : a = b := List.ext_getElem? fun j => by
        rcases Nat.lt_or_ge j a.length with hj | hj
        · exact h3 j hj
        · rw [List.getElem?_eq_none (by omega), List.getElem?_eq_none (by omega)]
      rw [decide_eq_true this] at hQ
      exact hend hQ
    | succ m ih =>
      intro i h1 h2 h3
      by_cases hi : i = a.length
      · exact ih i (by omega) h2 h3
      · refine hstep i (by omega) (fun h => ?_) fun h => ih (i + 1) (by omega) (by omega) fun j hj => ?_
        · have : a ≠ b := by
            intro e
            apply h
            have h5 := congrArg (fun l => l[i]?) e
            rw [List.getElem?_eq_getElem (by omega), List.getElem?_eq_getElem (by omega)] at h5
            exact Option.some.inj h5
          rw [decide_eq_false this] at hQ
          exact hQ
        · rcases Nat.lt_or_ge j i with hj2 | hj2
          · exact h3 j hj2
          · obtain rfl : j = i := by omega
            rw [List.getElem?_eq_getElem (by omega), List.getElem?_eq_getElem (by omega), h]
  exact key a.length 0 (by omega) (by omega) fun j hj => by omega

theorem eqAll_S2 (p q : Bool × By) : eqAll [.bool p.1, .str p.2] [.bool q.1, .str q.2] = decide (p = q) := by
  obtain ⟨a, b⟩ := p
  obtain ⟨c, d⟩ := q
  by_cases h1 : a = c <;> by_cases h2 : b = d <;> simp [eqAll, eqC, h1, h2]

theorem good_EqualStep (a b : List (Bool × By)) (na nb : Bool) (hb : (a.length : Int) ≤ 9223372036854775806) : Good PG nG G0 f_slices_Equal_Step [.sl 2 na none (a.map S2), .sl 2 nb none (b.map S2)] [] (.bool (decide (a = b))) [] := by
  refine good_of_run prOk (by kernel_rfl) (slices_Equal_Step_run na _ nb _ G0 _ ?_)
  simp only [ifK_iff, bne_iff_ne, ne_eq, List.length_map, bne_eq_false_iff_eq]
  refine ⟨fun h => ⟨?_, trivial⟩, fun h => ?_⟩
  · have : a ≠ b := by rintro rfl; exact h rfl
    simp [this]
  · refine eq_gen (D := fun i : Nat => Does PG nG G0 (fnOf PG f_slices_Equal_Step) 0 (lp PG f_slices_Equal_Step 0) (mkT 26 [(0, .sl 2 na none (a.map S2)), (1, .sl 2 nb none (b.map S2)), (12, .int .i64 a.length), (13, .int .i64 i)]) [] fun r' H'' => r' = .bool (decide (a = b)) ∧ H'' = [])
      (Q := fun c => c = decide (a = b)) a b (by omega) (fun i hi h1 h2 => ?_) (fun h1 => ?_) rfl
    · refine does_of_run prOk (slices_Equal_Step_l0_run G0 na _ nb _ _ _ _ ?_)
      simp only [ifK_iff, decide_eq_true_eq, decide_eq_false_iff_not, Int.toNat_natCast]
      rw [wrapI (by omega) (by omega)]
      refine ⟨fun _ => ⟨by omega, _, _, getX hi, by omega, _, _, getX (by omega), fun h4 => ?_, fun h4 => ?_⟩, fun h => by omega⟩
      · rw [eqAll_S2] at h4
        exact ⟨by rw [← h1 (by simpa using h4)], trivial⟩
      · rw [eqAll_S2] at h4
        exact h2 (by simpa using h4)
    · refine does_of_run prOk (slices_Equal_Step_l0_run G0 na _ nb _ _ _ _ ?_)
      simp only [ifK_iff, decide_eq_true_eq, decide_eq_false_iff_not]
      exact ⟨fun h => by omega, fun _ => ⟨by rw [← h1], trivial⟩⟩

theorem good_turns : ∀ (m n i : Nat), n ≤ m → 1 ≤ n → n ≤ 24 → i < n →
    Good PG nG G0 f_path_turns [.int .i64 n, .int .i64 i] [] (.sl 1 (turnsN n i).isEmpty (some 0) ((turnsN n i).map BX)) [some (.grow 1 (turnsN n i).length)] := by
  intro m
  induction m with
  | zero => intro n i h1 h2; omega
  | succ m ih =>
    intro n i hm h1 h2 hi
    refine good_of_run prOk (by kernel_rfl) (path_turns_run n i G0 _ ?_)
    simp only [ifK_iff, beq_iff_eq, beq_eq_false_iff_ne, decide_eq_true_eq, decide_eq_false_iff_not]
    refine ⟨fun h => ?_, fun h => ?_⟩
    · rw [turnsN_one (by omega)]; exact ⟨rfl, rfl⟩
    · have hk1 := halfN_pos n
      have hk2 := halfN_lt (n := n) (by omega)
      have hlen : ∀ a b : Nat, a ≤ 24 → (turnsN a b).length ≤ a := by
        intro a b _
        have := spansF_len a 0 a b (by omega)
        have h2 := congrArg List.length (spans_turns a 0 a b (by omega) (Nat.zero_le _))
        simp only [List.length_map, List.length_reverse, Nat.sub_zero] at h2
        omega
      refine ⟨_, _, good_Half' n (by omega) h2, fun hc => ?_, fun hc => ?_⟩
      · have := ih (halfN n) i (by omega) (by omega) (by omega) (by omega)
        rw [← List.length_map (f := BX)] at this
        refine ⟨_, _, this, ?_, trivial, ?_⟩
        · have := hlen (halfN n) i (by omega)
          simp only [List.length_map]; omega
        · rw [turnsN_two (n := n) (i := i) (by omega), if_pos (by omega)]
          simp [BX]
      · rw [wrapI (by omega) (by omega), wrapI (by omega) (by omega)]
        have e1 : (n : Int) - (halfN n : Nat) = ((n - halfN n : Nat) : Int) := by omega
        have e2 : (i : Int) - (halfN n : Nat) = ((i - halfN n : Nat) : Int) := by omega
        rw [e1, e2]
        have := ih (n - halfN n) (i - halfN n) (by omega) (by omega) (by omega) (by omega)
        rw [← List.length_map (f := BX)] at this
        refine ⟨_, _, this, ?_, trivial, ?_⟩
        · have := hlen (n - halfN n) (i - halfN n) (by omega)
          simp only [List.length_map]; omega
        · rw [turnsN_two (n := n) (i := i) (by omega), if_neg (by omega)]
          simp [BX]

theorem pathOf_len (l : List By) (i : Nat) : (pathOf l i).length ≤ l.length := by
  have h1 := congrArg List.length (pathOf_sides _ l i (Nat.le_refl _))
  have h2 := congrArg List.length (spans_turns l.length 0 l.length i (by omega) (Nat.zero_le _))
  have h3 := spansF_len l.length 0 l.length i (by omega)
  simp only [List.length_map, List.length_reverse, Nat.sub_zero] at h1 h2 h3
  omega

theorem good_pathof (hG : GlobOk G0) : ∀ (m : Nat) (l : List By) (nl : Bool) (i : Nat), l.length ≤ m → l.length ≤ 24 → (tRoot l).2 = 0 → i < l.length →
    Good PG nG G0 f_path_of [.sl 1 nl none (l.map S1), .int .i64 i] [] (.tup [.sl 2 (pathOf l i).isEmpty (some 0) ((pathOf l i).map S2), .int .i64 0]) [some (.grow 2 (pathOf l i).length)] := by
  intro m
  induction m with
  | zero => intro l nl i h1 h2 h3 h4; omega
  | succ m ih =>
    intro l nl i hm h24 hr hi
    refine good_of_run prOk (by kernel_rfl) (path_of_run nl _ i G0 _ ?_)
    simp only [ifK_iff, beq_iff_eq, beq_eq_false_iff_ne, decide_eq_true_eq, decide_eq_false_iff_not, List.length_map, bne_iff_ne, ne_eq, bne_eq_false_iff_eq]
    refine ⟨fun h => ?_, fun h => ?_⟩
    · rw [pathOf_one (by omega)]; exact ⟨rfl, rfl⟩
    · have h2 : 2 ≤ l.length := by omega
      have hk1 := halfN_pos l.length
      have hk2 := halfN_lt h2
      obtain ⟨r1, r2, _⟩ := tRoot_split hr h2
      have lt1 : (l.take (halfN l.length)).length = halfN l.length := by simp only [List.length_take]; omega
      have ld1 : (l.drop (halfN l.length)).length = l.length - halfN l.length := by simp only [List.length_drop]
      have e1 : List.drop 0 (List.take (Int.toNat (halfN l.length : Int)) (l.map S1)) = (l.take (halfN l.length)).map S1 := by simp
      have e2 : List.drop (Int.toNat (halfN l.length : Int)) (List.take (Int.toNat (l.length : Int)) (l.map S1)) = (l.drop (halfN l.length)).map S1 := by
        simp [List.take_of_length_le]
      have q1 : rootOf (l.take (halfN l.length)) = tRoot (l.take (halfN l.length)) := by rw [rootOf, if_neg (by omega)]
      have q2 : rootOf (l.drop (halfN l.length)) = tRoot (l.drop (halfN l.length)) := by rw [rootOf, if_neg (by omega)]
      have g1 := good_Root' (G0 := G0) hG (l.take (halfN l.length)) nl
      have g2 := good_Root' (G0 := G0) hG (l.drop (halfN l.length)) nl
      rw [q1, r1] at g1
      rw [q2, r2] at g2
      have hpl := fun l' i' => pathOf_len l' i'
      refine ⟨_, _, good_Half' l.length h2 h24, by omega, by omega, by omega, by omega, by omega, by omega, fun hc => ?_, fun hc => ?_⟩
      · rw [wrapI (by omega) (by omega), e1, e2]
        have e3 : (i : Int) - (halfN l.length : Nat) = ((i - halfN l.length : Nat) : Int) := by omega
        rw [e3]
        have := ih (l.drop (halfN l.length)) nl (i - halfN l.length) (by omega) (by omega) r2 (by omega)
        rw [← List.length_map (f := S2)] at this
        refine ⟨_, _, _, this, fun h => absurd rfl h, fun _ => ⟨_, _, g1, fun h => absurd rfl h, fun _ => ⟨?_, trivial, ?_⟩⟩⟩
        · have := hpl (l.drop (halfN l.length)) (i - halfN l.length)
          simp only [List.length_map, List.length_cons, List.length_nil]; omega
        · rw [pathOf_two (l := l) (i := i) h2, if_neg (by omega)]
          simp [S2]
      · rw [e1, e2]
        have := ih (l.take (halfN l.length)) nl i (by omega) (by omega) r1 (by omega)
        rw [← List.length_map (f := S2)] at this
        refine ⟨_, _, _, this, fun h => absurd rfl h, fun _ => ⟨_, _, g2, fun h => absurd rfl h, fun _ => ⟨?_, trivial, ?_⟩⟩⟩
        · have := hpl (l.take (halfN l.length)) i
          simp only [List.length_map, List.length_cons, List.length_nil]; omega
        · rw [pathOf_two (l := l) (i := i) h2, if_pos (by omega)]
          simp [S2]

theorem rootOf_ok' {l : List By} (h : (rootOf l).2 = 0) : l.length ≤ 24 ∧ rootOf l = tRoot l := by
  unfold rootOf at h ⊢
  split
  · rename_i hc; rw [if_pos hc] at h; cases h
  · exact ⟨by omega, rfl⟩

theorem good_pathOf (hG : GlobOk G0) (l : List By) (nl : Bool) (i : Int) :
    Good PG nG G0 f_path_Of [.sl 1 nl none (l.map S1), .int .i64 i] [] (.tup [.sl 2 (pathR l i).1.isEmpty none ((pathR l i).1.map S2), .int .i64 (pathR l i).2]) [] := by
  refine good_of_run prOk (by kernel_rfl) (path_Of_run nl _ i G0 _ ⟨_, _, good_Root' hG l nl, ?_⟩)
  simp only [ifK_iff, decide_eq_true_eq, decide_eq_false_iff_not, List.length_map, bne_iff_ne, ne_eq, bne_eq_false_iff_eq]
  refine ⟨fun h => ?_, fun h => ⟨fun h2 => ?_, fun h2 => ⟨fun h3 => ?_, fun h3 => ?_⟩⟩⟩
  · rw [pathR, if_pos h]; exact ⟨rfl, trivial⟩
  · rw [pathR, if_neg (by simpa using h), if_pos (.inl h2)]; exact ⟨rfl, trivial⟩
  · rw [pathR, if_neg (by simpa using h), if_pos (.inr h3)]; exact ⟨rfl, trivial⟩
  · rw [pathR, if_neg (by simpa using h), if_neg (by omega)]
    obtain ⟨k, rfl⟩ := Int.eq_ofNat_of_zero_le (show 0 ≤ i by omega)
    rw [Int.toNat_natCast]
    obtain ⟨a, b⟩ := rootOf_ok' h
    rw [b] at h
    have := good_pathof hG _ l nl k (Nat.le_refl _) a h (by omega)
    rw [← List.length_map (f := S2)] at this
    exact ⟨_, _, _, this, rfl, trivial⟩

theorem pathS_loop (hG : GlobOk G0) (root : By) (bs : List Bool) (nb : Bool) (st : List (Bool × By)) (ns : Bool) (hl : bs.length = st.length) (hb : st.length ≤ 1000) {R : AV → List (Option Blk) → Prop} :
    ∀ (d k : Nat) (now : By), st.length - k ≤ d → k ≤ st.length → R (.int .i64 (fin7 root (climb now (bs.drop k) (st.drop k)))) [] →
      Does PG nG G0 (fnOf PG f_path_Shows) 0 (lp PG f_path_Shows 0) (mkT 82 [(0, .str root), (11, .sl 1 nb none (bs.map BX)), (12, .str now), (45, .sl 2 ns none (st.map S2)), (46, .int .i64 st.length), (47, .int .i64 k)]) [] R := by
  intro d
  have last : ∀ (k : Nat) (now : By), k = st.length → R (.int .i64 (fin7 root (climb now (bs.drop k) (st.drop k)))) [] →
      Does PG nG G0 (fnOf PG f_path_Shows) 0 (lp PG f_path_Shows 0) (mkT 82 [(0, .str root), (11, .sl 1 nb none (bs.map BX)), (12, .str now), (45, .sl 2 ns none (st.map S2)), (46, .int .i64 st.length), (47, .int .i64 k)]) [] R := by
    intro k now hk hR
    refine does_of_run prOk (path_Shows_l0_run G0 _ _ _ _ _ _ _ _ R ?_)
    simp only [ifK_iff, decide_eq_true_eq, decide_eq_false_iff_not]
    have hcl : climb now (bs.drop k) (st.drop k) = (now, 0) := by
      rw [List.drop_eq_nil_of_le (show bs.length ≤ k by omega)]; rfl
    rw [hcl, fin7_end] at hR
    refine ⟨fun h => absurd h (by omega), fun _ => ⟨fun h => ?_, fun h => ?_⟩⟩
    · have h : now ≠ root := by simpa using h
      simpa [h] using hR
    · have h : now = root := by simpa using h
      simpa [h] using hR
  induction d with
  | zero => intro k now h1 h2 hR; exact last k now (by omega) hR
  | succ d ih =>
    intro k now h1 h2 hR
    by_cases hk : k = st.length
    · exact last k now hk hR
    · have hks : k < st.length := by omega
      have hkb : k < bs.length := by omega
      refine does_of_run prOk (path_Shows_l0_run G0 _ _ _ _ _ _ _ _ R ?_)
      rw [Int.toNat_natCast]
      simp only [ifK_iff, decide_eq_true_eq, decide_eq_false_iff_not, bne_iff_ne, ne_eq, bne_eq_false_iff_eq]
      rw [wrapI (by omega) (by omega)]
      rw [List.drop_eq_getElem_cons hks, List.drop_eq_getElem_cons hkb, climb] at hR
      have ih := fun now => ih (k + 1) now (by omega) (by omega)
      refine ⟨fun _ => ⟨by omega, _, _, getX hks, by omega, _, getX hkb, fun h => ?_, fun h => ⟨fun hb => ⟨_, _, good_Node hG _ _, fun h3 => ?_, fun h3 => ih _ ?_⟩, fun hb => ⟨_, _, good_Node hG _ _, fun h3 => ?_, fun h3 => ih _ ?_⟩⟩⟩, fun h => absurd (show (k : Int) < st.length by omega) h⟩
      · have h : st[k].1 ≠ bs[k] := by simpa using h
        rw [if_pos h, fin7_err (by decide)] at hR
        exact hR
      · have h : st[k].1 = bs[k] := by simpa using h
        rw [if_neg (show ¬ st[k].1 ≠ bs[k] by simpa using h)] at hR
        simp only [up1, hb, if_true] at hR
        rw [if_pos h3, fin7_err h3] at hR
        exact hR
      · have h : st[k].1 = bs[k] := by simpa using h
        rw [if_neg (show ¬ st[k].1 ≠ bs[k] by simpa using h)] at hR
        simp only [up1, hb, if_true] at hR
        rw [if_neg (show ¬ (tNode st[k].2 now).2 ≠ 0 by simpa using h3)] at hR
        exact hR
      · have h : st[k].1 = bs[k] := by simpa using h
        rw [if_neg (show ¬ st[k].1 ≠ bs[k] by simpa using h)] at hR
        simp only [up1, hb, Bool.false_eq_true, if_false] at hR
        rw [if_pos h3, fin7_err h3] at hR
        exact hR
      · have h : st[k].1 = bs[k] := by simpa using h
        rw [if_neg (show ¬ st[k].1 ≠ bs[k] by simpa using h)] at hR
        simp only [up1, hb, Bool.false_eq_true, if_false] at hR
        rw [if_neg (show ¬ (tNode now st[k].2).2 ≠ 0 by simpa using h3)] at hR
        exact hR

theorem turnsN_len {n i : Nat} : (turnsN n i).length ≤ n := by
  have := spansF_len n 0 n i (by omega)
  have h2 := congrArg List.length (spans_turns n 0 n i (by omega) (Nat.zero_le _))
  simp only [List.length_map, List.length_reverse, Nat.sub_zero] at h2
  omega

theorem good_pathShows (hG : GlobOk G0) (root : By) (n i : Int) (text : By) (ns : Bool) (st : List (Bool × By)) :
    Good PG nG G0 f_path_Shows [.str root, .int .i64 n, .int .i64 i, .str text, .sl 2 ns none (st.map S2)] [] (.int .i64 (pathShows root n i text st)) [] := by
  refine good_of_run prOk (by kernel_rfl) (path_Shows_run root n i text ns _ G0 _ ?_)
  simp only [ifK_iff, decide_eq_true_eq, decide_eq_false_iff_not, List.length_map, bne_iff_ne, ne_eq, bne_eq_false_iff_eq]
  refine ⟨fun h => ?_, fun h1 => ⟨fun h => ?_, fun h2 => ⟨fun h => ?_, fun h3 => ⟨fun h => ?_, fun h4 => ?_⟩⟩⟩⟩
  · rw [pathShows, if_pos (.inl h)]; exact ⟨rfl, trivial⟩
  · rw [pathShows, if_pos (.inr h)]; exact ⟨rfl, trivial⟩
  · rw [pathShows, if_neg (by omega), if_pos (.inl h)]; exact ⟨rfl, trivial⟩
  · rw [pathShows, if_neg (by omega), if_pos (.inr h)]; exact ⟨rfl, trivial⟩
  · obtain ⟨a, rfl⟩ := Int.eq_ofNat_of_zero_le (show 0 ≤ n by omega)
    obtain ⟨b, rfl⟩ := Int.eq_ofNat_of_zero_le (show 0 ≤ i by omega)
    have g := (good_turns (G0 := G0) a a b (Nat.le_refl _) (by omega) (by omega) (by omega))
    rw [← List.length_map (f := BX)] at g
    refine ⟨_, _, g.forget, ?_⟩
    rw [pathShows, if_neg (by omega), if_neg (by omega), Int.toNat_natCast, Int.toNat_natCast, List.length_map]
    have hlen := turnsN_len (n := a) (i := b)
    refine ⟨fun h => ?_, fun h5 => ⟨_, _, good_Leaf text, fun h => ?_, fun h6 => ?_⟩⟩
    · rw [if_pos (by omega)]; exact ⟨rfl, trivial⟩
    · rw [if_neg (by omega), if_pos h]; exact ⟨rfl, trivial⟩
    · rw [if_neg (show ¬ (turnsN a b).length ≠ st.length by omega), if_neg (show ¬ (tLeaf text).2 ≠ 0 by simpa using h6)]
      exact pathS_loop hG root (turnsN a b) _ st ns (by omega) (by omega) st.length 0 _ (by omega) (by omega) ⟨rfl, rfl⟩
end Go.Ab

namespace Go.Ab
open Go.Proofs
set_option maxRecDepth 100000

def an_strings_HasPrefix : FAnn := ⟨[], [], none, []⟩
def an_internal_stringslite_HasPrefix : FAnn := ⟨[], [], none, []⟩
def an_strings_HasSuffix : FAnn := ⟨[], [], none, []⟩
def an_internal_stringslite_HasSuffix : FAnn := ⟨[], [], none, []⟩
def an_seal_Open : FAnn := ⟨[], [], none, []⟩
def an_internal_stringslite_Cut : FAnn := ⟨[], [], none, []⟩
def an_strings_Cut : FAnn := ⟨[], [], none, []⟩
def an_seal_Split : FAnn := ⟨[], [], none, []⟩
def an_greatsealref_SplitOf : FAnn := ⟨[], [], none, []⟩
def an_note_Print : FAnn := ⟨[], [], none, []⟩
def an_greatsealref_HeadText : FAnn := ⟨[], [], none, []⟩

theorem strings_HasPrefix_run (s0 : List UInt8) (prefix1 : List UInt8) (G0 : Nat → Option Go.Obj) (R : AV → List (Option Blk) → Prop) (h :
∃ b0, Good PG nG G0 f_internal_stringslite_HasPrefix [AV.str s0, AV.str prefix1] [] (AV.bool b0) [] ∧ R (AV.bool b0) []) :
  Hold (runF PG ty nG G0 an_strings_HasPrefix f_strings_HasPrefix [AV.str s0, AV.str prefix1] [] R) := kshow h (by kernel_rfl)

theorem internal_stringslite_HasPrefix_run (s0 : List UInt8) (prefix1 : List UInt8) (G0 : Nat → Option Go.Obj) (R : AV → List (Option Blk) → Prop) (h :
ifK (decide ((↑(List.length s0) : Int) ≥ (↑(List.length prefix1) : Int)))
  ((0 : Int) ≤ (0 : Int) ∧ (0 : Int) ≤ (↑(List.length prefix1) : Int) ∧ (↑(List.length prefix1) : Int) ≤ (↑(List.length s0) : Int) ∧ R (AV.bool (List.drop (0 : Nat) (List.take (Int.toNat (↑(List.length prefix1) : Int)) s0) == prefix1)) [])
  (R (AV.bool false) [])) :
  Hold (runF PG ty nG G0 an_internal_stringslite_HasPrefix f_internal_stringslite_HasPrefix [AV.str s0, AV.str prefix1] [] R) := kshow h (by kernel_rfl)

theorem strings_HasSuffix_run (s0 : List UInt8) (suffix1 : List UInt8) (G0 : Nat → Option Go.Obj) (R : AV → List (Option Blk) → Prop) (h :
∃ b0, Good PG nG G0 f_internal_stringslite_HasSuffix [AV.str s0, AV.str suffix1] [] (AV.bool b0) [] ∧ R (AV.bool b0) []) :
  Hold (runF PG ty nG G0 an_strings_HasSuffix f_strings_HasSuffix [AV.str s0, AV.str suffix1] [] R) := kshow h (by kernel_rfl)

theorem internal_stringslite_HasSuffix_run (s0 : List UInt8) (suffix1 : List UInt8) (G0 : Nat → Option Go.Obj) (R : AV → List (Option Blk) → Prop) (h :
ifK (decide ((↑(List.length s0) : Int) ≥ (↑(List.length suffix1) : Int)))
  ((0 : Int) ≤ Go.IntKind.wrap Go.IntKind.i64 ((↑(List.length s0) : Int) - (↑(List.length suffix1) : Int)) ∧
    Go.IntKind.wrap Go.IntKind.i64 ((↑(List.length s0) : Int) - (↑(List.length suffix1) : Int)) ≤ (↑(List.length s0) : Int) ∧
      (↑(List.length s0) : Int) ≤ (↑(List.length s0) : Int) ∧
        R (AV.bool (List.drop (Int.toNat (Go.IntKind.wrap Go.IntKind.i64 ((↑(List.length s0) : Int) - (↑(List.length suffix1) : Int)))) (List.take (Int.toNat (↑(List.length s0) : Int)) s0) == suffix1)) [])
  (R (AV.bool false) [])) :
  Hold (runF PG ty nG G0 an_internal_stringslite_HasSuffix f_internal_stringslite_HasSuffix [AV.str s0, AV.str suffix1] [] R) := kshow h (by kernel_rfl)

theorem seal_Open_run (s0 : List UInt8) (G0 : Nat → Option Go.Obj) (R : AV → List (Option Blk) → Prop) (h :
∃ b0,
  Good PG nG G0 f_strings_HasPrefix [AV.str s0, AV.str [(76 : UInt8)]] [] (AV.bool b0) [] ∧
    ifK (!b0) (R (AV.tup [AV.str [], AV.int Go.IntKind.i64 (4 : Int)]) [])
      ((0 : Int) ≤ (1 : Int) ∧
        (1 : Int) ≤ (↑(List.length s0) : Int) ∧ (↑(List.length s0) : Int) ≤ (↑(List.length s0) : Int) ∧ R (AV.tup [AV.str (List.drop (1 : Nat) (List.take (Int.toNat (↑(List.length s0) : Int)) s0)), AV.int Go.IntKind.i64 (0 : Int)]) [])) :
  Hold (runF PG ty nG G0 an_seal_Open f_seal_Open [AV.str s0] [] R) := kshow h (by kernel_rfl)

theorem internal_stringslite_Cut_run (s0 : List UInt8) (sep1 : List UInt8) (G0 : Nat → Option Go.Obj) (R : AV → List (Option Blk) → Prop) (h :
∃ n0,
  Good PG nG G0 f_internal_stringslite_Index [AV.str s0, AV.str sep1] [] (AV.int Go.IntKind.i64 n0) [] ∧
    ifK (decide (n0 ≥ (0 : Int)))
      ((0 : Int) ≤ (0 : Int) ∧
        (0 : Int) ≤ n0 ∧
          n0 ≤ (↑(List.length s0) : Int) ∧
            (0 : Int) ≤ Go.IntKind.wrap Go.IntKind.i64 (n0 + (↑(List.length sep1) : Int)) ∧
              Go.IntKind.wrap Go.IntKind.i64 (n0 + (↑(List.length sep1) : Int)) ≤ (↑(List.length s0) : Int) ∧
                (↑(List.length s0) : Int) ≤ (↑(List.length s0) : Int) ∧
                  R
                    (AV.tup
                      [AV.str (List.drop (0 : Nat) (List.take (Int.toNat n0) s0)), AV.str (List.drop (Int.toNat (Go.IntKind.wrap Go.IntKind.i64 (n0 + (↑(List.length sep1) : Int)))) (List.take (Int.toNat (↑(List.length s0) : Int)) s0)),
                        AV.bool true])
                    [])
      (R (AV.tup [AV.str s0, AV.str [], AV.bool false]) [])) :
  Hold (runF PG ty nG G0 an_internal_stringslite_Cut f_internal_stringslite_Cut [AV.str s0, AV.str sep1] [] R) := kshow h (by kernel_rfl)

theorem strings_Cut_run (s0 : List UInt8) (sep1 : List UInt8) (G0 : Nat → Option Go.Obj) (R : AV → List (Option Blk) → Prop) (h :
∃ s0_1 s1 b2, Good PG nG G0 f_internal_stringslite_Cut [AV.str s0, AV.str sep1] [] (AV.tup [AV.str s0_1, AV.str s1, AV.bool b2]) [] ∧ R (AV.tup [AV.str s0_1, AV.str s1, AV.bool b2]) []) :
  Hold (runF PG ty nG G0 an_strings_Cut f_strings_Cut [AV.str s0, AV.str sep1] [] R) := kshow h (by kernel_rfl)

theorem seal_Split_run (s0 : List UInt8) (G0 : Nat → Option Go.Obj) (R : AV → List (Option Blk) → Prop) (h :
∃ s0_1 s1 b2,
  Good PG nG G0 f_strings_Cut [AV.str s0, AV.str [(58 : UInt8)]] [] (AV.tup [AV.str s0_1, AV.str s1, AV.bool b2]) [] ∧
    ifK (!b2) (R (AV.tup [AV.str [], AV.str [], AV.int Go.IntKind.i64 (4 : Int)]) [])
      (∃ b3,
        Good PG nG G0 f_strings_HasPrefix [AV.str s0_1, AV.str [(78 : UInt8)]] [] (AV.bool b3) [] ∧
          ifK (!b3) (R (AV.tup [AV.str [], AV.str [], AV.int Go.IntKind.i64 (4 : Int)]) [])
            ((0 : Int) ≤ (1 : Int) ∧
              (1 : Int) ≤ (↑(List.length s0_1) : Int) ∧
                (↑(List.length s0_1) : Int) ≤ (↑(List.length s0_1) : Int) ∧
                  ∃ n4 b5,
                    ifK b5
                      (Good PG nG G0 f_strconv_Atoi [AV.str (List.drop (1 : Nat) (List.take (Int.toNat (↑(List.length s0_1) : Int)) s0_1))] [] (AV.tup [AV.int Go.IntKind.i64 n4, AV.iface]) [] ∧
                        R (AV.tup [AV.str [], AV.str [], AV.int Go.IntKind.i64 (4 : Int)]) [])
                      (Good PG nG G0 f_strconv_Atoi [AV.str (List.drop (1 : Nat) (List.take (Int.toNat (↑(List.length s0_1) : Int)) s0_1))] [] (AV.tup [AV.int Go.IntKind.i64 n4, AV.nilIface]) [] ∧
                        ∃ s6,
                          Good PG nG G0 f_strconv_Itoa [AV.int Go.IntKind.i64 n4] [] (AV.str s6) [] ∧
                            (0 : Int) ≤ (1 : Int) ∧
                              (1 : Int) ≤ (↑(List.length s0_1) : Int) ∧
                                (↑(List.length s0_1) : Int) ≤ (↑(List.length s0_1) : Int) ∧
                                  ifK (!s6 == List.drop (1 : Nat) (List.take (Int.toNat (↑(List.length s0_1) : Int)) s0_1)) (R (AV.tup [AV.str [], AV.str [], AV.int Go.IntKind.i64 (4 : Int)]) [])
                                    (ifK (decide (n4 < (0 : Int))) (R (AV.tup [AV.str [], AV.str [], AV.int Go.IntKind.i64 (4 : Int)]) [])
                                      (ifK (decide (n4 > (↑(List.length s1) : Int))) (R (AV.tup [AV.str [], AV.str [], AV.int Go.IntKind.i64 (4 : Int)]) [])
                                        ((0 : Int) ≤ (0 : Int) ∧
                                          (0 : Int) ≤ n4 ∧
                                            n4 ≤ (↑(List.length s1) : Int) ∧
                                              (0 : Int) ≤ n4 ∧
                                                n4 ≤ (↑(List.length s1) : Int) ∧
                                                  (↑(List.length s1) : Int) ≤ (↑(List.length s1) : Int) ∧
                                                    R
                                                      (AV.tup
                                                        [AV.str (List.drop (0 : Nat) (List.take (Int.toNat n4) s1)), AV.str (List.drop (Int.toNat n4) (List.take (Int.toNat (↑(List.length s1) : Int)) s1)), AV.int Go.IntKind.i64 (0 : Int)])
                                                      []))))))) :
  Hold (runF PG ty nG G0 an_seal_Split f_seal_Split [AV.str s0] [] R) := kshow h (by kernel_rfl)

theorem greatsealref_SplitOf_run (s0 : List UInt8) (G0 : Nat → Option Go.Obj) (R : AV → List (Option Blk) → Prop) (h :
∃ n0,
  Good PG nG G0 f_strings_IndexByte [AV.str s0, AV.int Go.IntKind.u8 (58 : Int)] [] (AV.int Go.IntKind.i64 n0) [] ∧
    ifK (decide (n0 < (0 : Int))) (R (AV.tup [AV.str [], AV.str [], AV.int Go.IntKind.i64 (4 : Int)]) [])
      (∃ b1,
        Good PG nG G0 f_strings_HasPrefix [AV.str s0, AV.str [(78 : UInt8)]] [] (AV.bool b1) [] ∧
          ifK (!b1) (R (AV.tup [AV.str [], AV.str [], AV.int Go.IntKind.i64 (4 : Int)]) [])
            ((0 : Int) ≤ Go.IntKind.wrap Go.IntKind.i64 (n0 + (1 : Int)) ∧
              Go.IntKind.wrap Go.IntKind.i64 (n0 + (1 : Int)) ≤ (↑(List.length s0) : Int) ∧
                (↑(List.length s0) : Int) ≤ (↑(List.length s0) : Int) ∧
                  (0 : Int) ≤ (1 : Int) ∧
                    (1 : Int) ≤ n0 ∧
                      n0 ≤ (↑(List.length s0) : Int) ∧
                        ∃ n2 b3,
                          ifK b3
                            (Good PG nG G0 f_strconv_ParseInt [AV.str (List.drop (1 : Nat) (List.take (Int.toNat n0) s0)), AV.int Go.IntKind.i64 (10 : Int), AV.int Go.IntKind.i64 (64 : Int)] [] (AV.tup [AV.int Go.IntKind.i64 n2, AV.iface])
                                [] ∧
                              R (AV.tup [AV.str [], AV.str [], AV.int Go.IntKind.i64 (4 : Int)]) [])
                            (Good PG nG G0 f_strconv_ParseInt [AV.str (List.drop (1 : Nat) (List.take (Int.toNat n0) s0)), AV.int Go.IntKind.i64 (10 : Int), AV.int Go.IntKind.i64 (64 : Int)] []
                                (AV.tup [AV.int Go.IntKind.i64 n2, AV.nilIface]) [] ∧
                              ∃ s4,
                                Good PG nG G0 f_strconv_FormatInt [AV.int Go.IntKind.i64 n2, AV.int Go.IntKind.i64 (10 : Int)] [] (AV.str s4) [] ∧
                                  (0 : Int) ≤ (1 : Int) ∧
                                    (1 : Int) ≤ n0 ∧
                                      n0 ≤ (↑(List.length s0) : Int) ∧
                                        ifK (!s4 == List.drop (1 : Nat) (List.take (Int.toNat n0) s0)) (R (AV.tup [AV.str [], AV.str [], AV.int Go.IntKind.i64 (4 : Int)]) [])
                                          (ifK (decide (n2 < (0 : Int))) (R (AV.tup [AV.str [], AV.str [], AV.int Go.IntKind.i64 (4 : Int)]) [])
                                            (ifK (decide (n2 > (↑(List.length (List.drop (Int.toNat (Go.IntKind.wrap Go.IntKind.i64 (n0 + (1 : Int)))) (List.take (Int.toNat (↑(List.length s0) : Int)) s0))) : Int)))
                                              (R (AV.tup [AV.str [], AV.str [], AV.int Go.IntKind.i64 (4 : Int)]) [])
                                              ((0 : Int) ≤ (0 : Int) ∧
                                                (0 : Int) ≤ n2 ∧
                                                  n2 ≤ (↑(List.length (List.drop (Int.toNat (Go.IntKind.wrap Go.IntKind.i64 (n0 + (1 : Int)))) (List.take (Int.toNat (↑(List.length s0) : Int)) s0))) : Int) ∧
                                                    (0 : Int) ≤ n2 ∧
                                                      n2 ≤ (↑(List.length (List.drop (Int.toNat (Go.IntKind.wrap Go.IntKind.i64 (n0 + (1 : Int)))) (List.take (Int.toNat (↑(List.length s0) : Int)) s0))) : Int) ∧
                                                        (↑(List.length (List.drop (Int.toNat (Go.IntKind.wrap Go.IntKind.i64 (n0 + (1 : Int)))) (List.take (Int.toNat (↑(List.length s0) : Int)) s0))) : Int) ≤
                                                            (↑(List.length (List.drop (Int.toNat (Go.IntKind.wrap Go.IntKind.i64 (n0 + (1 : Int)))) (List.take (Int.toNat (↑(List.length s0) : Int)) s0))) : Int) ∧
                                                          R
                                                            (AV.tup
                                                              [AV.str
                                                                  (List.drop (0 : Nat)
                                                                    (List.take (Int.toNat n2) (List.drop (Int.toNat (Go.IntKind.wrap Go.IntKind.i64 (n0 + (1 : Int)))) (List.take (Int.toNat (↑(List.length s0) : Int)) s0)))),
                                                                AV.str
                                                                  (List.drop (Int.toNat n2)
                                                                    (List.take (Int.toNat (↑(List.length (List.drop (Int.toNat (Go.IntKind.wrap Go.IntKind.i64 (n0 + (1 : Int)))) (List.take (Int.toNat (↑(List.length s0) : Int)) s0))) : Int))
                                                                      (List.drop (Int.toNat (Go.IntKind.wrap Go.IntKind.i64 (n0 + (1 : Int)))) (List.take (Int.toNat (↑(List.length s0) : Int)) s0)))),
                                                                AV.int Go.IntKind.i64 (0 : Int)])
                                                            []))))))) :
  Hold (runF PG ty nG G0 an_greatsealref_SplitOf f_greatsealref_SplitOf [AV.str s0] [] R) := kshow h (by kernel_rfl)

theorem note_Print_run (h0_0 : Int) (h0_1 : List UInt8) (h0_2 : List UInt8) (G0 : Nat → Option Go.Obj) (R : AV → List (Option Blk) → Prop) (h :
∃ n0,
  Good PG nG G0 f_note_Check [AV.agg [AV.int Go.IntKind.i64 h0_0, AV.str h0_1, AV.str h0_2]] [] (AV.int Go.IntKind.i64 n0) [] ∧
    ifK (n0 != (0 : Int)) (R (AV.tup [AV.str [], AV.int Go.IntKind.i64 n0]) [])
      (∃ s1,
        Good PG nG G0 f_strconv_Itoa [AV.int Go.IntKind.i64 h0_0] [] (AV.str s1) [] ∧
          List.length s1 + (1 : Nat) ≤ (9223372036854775807 : Nat) ∧
            ∃ s2,
              Good PG nG G0 f_strconv_Itoa [AV.int Go.IntKind.i64 (↑(List.length h0_1) : Int)] [] (AV.str s2) [] ∧
                List.length (s1 ++ [(32 : UInt8)]) + List.length s2 ≤ (9223372036854775807 : Nat) ∧
                  List.length (s1 ++ [(32 : UInt8)] ++ s2) + (1 : Nat) ≤ (9223372036854775807 : Nat) ∧
                    ∃ s3,
                      Good PG nG G0 f_strconv_Itoa [AV.int Go.IntKind.i64 (↑(List.length h0_2) : Int)] [] (AV.str s3) [] ∧
                        List.length (s1 ++ [(32 : UInt8)] ++ s2 ++ [(32 : UInt8)]) + List.length s3 ≤ (9223372036854775807 : Nat) ∧
                          List.length (s1 ++ [(32 : UInt8)] ++ s2 ++ [(32 : UInt8)] ++ s3) + (1 : Nat) ≤ (9223372036854775807 : Nat) ∧
                            List.length (s1 ++ [(32 : UInt8)] ++ s2 ++ [(32 : UInt8)] ++ s3 ++ [(32 : UInt8)]) + List.length h0_1 ≤ (9223372036854775807 : Nat) ∧
                              List.length (s1 ++ [(32 : UInt8)] ++ s2 ++ [(32 : UInt8)] ++ s3 ++ [(32 : UInt8)] ++ h0_1) + List.length h0_2 ≤ (9223372036854775807 : Nat) ∧
                                R (AV.tup [AV.str (s1 ++ [(32 : UInt8)] ++ s2 ++ [(32 : UInt8)] ++ s3 ++ [(32 : UInt8)] ++ h0_1 ++ h0_2), AV.int Go.IntKind.i64 (0 : Int)]) [])) :
  Hold (runF PG ty nG G0 an_note_Print f_note_Print [AV.agg [AV.int Go.IntKind.i64 h0_0, AV.str h0_1, AV.str h0_2]] [] R) := kshow h (by kernel_rfl)

theorem greatsealref_HeadText_run (h0_0 : Int) (h0_1 : List UInt8) (h0_2 : List UInt8) (G0 : Nat → Option Go.Obj) (R : AV → List (Option Blk) → Prop) (h :
∃ n0,
  Good PG nG G0 f_greatsealref_CheckHead [AV.agg [AV.int Go.IntKind.i64 h0_0, AV.str h0_1, AV.str h0_2]] [] (AV.int Go.IntKind.i64 n0) [] ∧
    ifK (n0 != (0 : Int)) (R (AV.tup [AV.str [], AV.int Go.IntKind.i64 n0]) [])
      (∃ s1,
        Good PG nG G0 f_strconv_Itoa [AV.int Go.IntKind.i64 h0_0] [] (AV.str s1) [] ∧
          List.length s1 + (1 : Nat) ≤ (9223372036854775807 : Nat) ∧
            ∃ s2,
              Good PG nG G0 f_strconv_Itoa [AV.int Go.IntKind.i64 (↑(List.length h0_1) : Int)] [] (AV.str s2) [] ∧
                List.length (s1 ++ [(32 : UInt8)]) + List.length s2 ≤ (9223372036854775807 : Nat) ∧
                  List.length (s1 ++ [(32 : UInt8)] ++ s2) + (1 : Nat) ≤ (9223372036854775807 : Nat) ∧
                    ∃ s3,
                      Good PG nG G0 f_strconv_Itoa [AV.int Go.IntKind.i64 (↑(List.length h0_2) : Int)] [] (AV.str s3) [] ∧
                        List.length (s1 ++ [(32 : UInt8)] ++ s2 ++ [(32 : UInt8)]) + List.length s3 ≤ (9223372036854775807 : Nat) ∧
                          List.length (s1 ++ [(32 : UInt8)] ++ s2 ++ [(32 : UInt8)] ++ s3) + (1 : Nat) ≤ (9223372036854775807 : Nat) ∧
                            List.length (s1 ++ [(32 : UInt8)] ++ s2 ++ [(32 : UInt8)] ++ s3 ++ [(32 : UInt8)]) + List.length h0_1 ≤ (9223372036854775807 : Nat) ∧
                              List.length (s1 ++ [(32 : UInt8)] ++ s2 ++ [(32 : UInt8)] ++ s3 ++ [(32 : UInt8)] ++ h0_1) + List.length h0_2 ≤ (9223372036854775807 : Nat) ∧
                                R (AV.tup [AV.str (s1 ++ [(32 : UInt8)] ++ s2 ++ [(32 : UInt8)] ++ s3 ++ [(32 : UInt8)] ++ h0_1 ++ h0_2), AV.int Go.IntKind.i64 (0 : Int)]) [])) :
  Hold (runF PG ty nG G0 an_greatsealref_HeadText f_greatsealref_HeadText [AV.agg [AV.int Go.IntKind.i64 h0_0, AV.str h0_1, AV.str h0_2]] [] R) := kshow h (by kernel_rfl)

end Go.Ab

namespace Go.Ab
open Go.Proofs
set_option maxRecDepth 100000

def an_strings_SplitN : FAnn := ⟨[], [], none, []⟩
def an_strings_genSplit_4 : FAnn := ⟨[], [(0, [0, 1, 2, 3, 9, 10], [])], none, [(18, [0])]⟩
def an_note_Parse : FAnn := ⟨[], [(0, [0, 2, 4, 13], [])], none, []⟩
def an_greatsealref_HeadRead : FAnn := ⟨[], [(0, [2, 4, 5, 18], [])], none, []⟩
def an_greatseallaw_sealed : FAnn := ⟨[], [], none, []⟩
def an_greatseallaw_noted : FAnn := ⟨[], [], none, []⟩

theorem strings_SplitN_run (s0 : List UInt8) (sep1 : List UInt8) (n2 : Int) (G0 : Nat → Option Go.Obj) (R : AV → List (Option Blk) → Prop) (h :
∃ b0 xs1, Good PG nG G0 f_strings_genSplit [AV.str s0, AV.str sep1, AV.int Go.IntKind.i64 (0 : Int), AV.int Go.IntKind.i64 n2] [] (AV.sl (1 : Nat) b0 none xs1) [] ∧ R (AV.sl (1 : Nat) b0 none xs1) []) :
  Hold (runF PG ty nG G0 an_strings_SplitN f_strings_SplitN [AV.str s0, AV.str sep1, AV.int Go.IntKind.i64 n2] [] R) := kshow h (by kernel_rfl)

theorem strings_genSplit_4_run (s : List UInt8) (G0 : Nat → Option Go.Obj) (R : AV → List (Option Blk) → Prop) (h :
((if Go.IntKind.wrap Go.IntKind.i64 ((↑(List.length s) : Int) + (1 : Int)) < (4 : Int) then Go.IntKind.wrap Go.IntKind.i64 ((↑(List.length s) : Int) + (1 : Int)) else (4 : Int)) =
    if Go.IntKind.wrap Go.IntKind.i64 ((↑(List.length s) : Int) + (1 : Int)) < (4 : Int) then Go.IntKind.wrap Go.IntKind.i64 ((↑(List.length s) : Int) + (1 : Int)) else (4 : Int)) ∧
  ((0 : Int) ≤ if Go.IntKind.wrap Go.IntKind.i64 ((↑(List.length s) : Int) + (1 : Int)) < (4 : Int) then Go.IntKind.wrap Go.IntKind.i64 ((↑(List.length s) : Int) + (1 : Int)) else (4 : Int)) ∧
    ((16 : Int) * if Go.IntKind.wrap Go.IntKind.i64 ((↑(List.length s) : Int) + (1 : Int)) < (4 : Int) then Go.IntKind.wrap Go.IntKind.i64 ((↑(List.length s) : Int) + (1 : Int)) else (4 : Int)) ≤ (281474976710656 : Int) ∧
      (if Go.IntKind.wrap Go.IntKind.i64 ((↑(List.length s) : Int) + (1 : Int)) < (4 : Int) then Go.IntKind.wrap Go.IntKind.i64 ((↑(List.length s) : Int) + (1 : Int)) else (4 : Int)) ≤ (9223372036854775807 : Int) ∧
        Does PG nG G0 (fnOf PG f_strings_genSplit) (0 : Nat) (lp PG f_strings_genSplit (0 : Nat))
          (mkT (66 : Nat)
            [((0 : Nat), AV.str s), ((1 : Nat), AV.str [(32 : UInt8)]), ((2 : Nat), AV.int Go.IntKind.i64 (0 : Int)),
              ((3 : Nat),
                AV.int Go.IntKind.i64
                  (Go.IntKind.wrap Go.IntKind.i64
                    ((if Go.IntKind.wrap Go.IntKind.i64 ((↑(List.length s) : Int) + (1 : Int)) < (4 : Int) then Go.IntKind.wrap Go.IntKind.i64 ((↑(List.length s) : Int) + (1 : Int)) else (4 : Int)) - (1 : Int)))),
              ((9 : Nat),
                AV.rsl (1 : Nat) (0 : Nat) (0 : Nat)
                  (Int.toNat (if Go.IntKind.wrap Go.IntKind.i64 ((↑(List.length s) : Int) + (1 : Int)) < (4 : Int) then Go.IntKind.wrap Go.IntKind.i64 ((↑(List.length s) : Int) + (1 : Int)) else (4 : Int)))),
              ((10 : Nat), AV.int Go.IntKind.i64 (0 : Int))])
          [some
              (Blk.arr (1 : Nat)
                (List.replicate (Int.toNat (if Go.IntKind.wrap Go.IntKind.i64 ((↑(List.length s) : Int) + (1 : Int)) < (4 : Int) then Go.IntKind.wrap Go.IntKind.i64 ((↑(List.length s) : Int) + (1 : Int)) else (4 : Int))) [AV.str []]))]
          R) :
  Hold (runF PG ty nG G0 an_strings_genSplit_4 f_strings_genSplit [AV.str s, AV.str [(32 : UInt8)], AV.int Go.IntKind.i64 (0 : Int), AV.int Go.IntKind.i64 (4 : Int)] [] R) := kshow h (by kernel_rfl)

theorem strings_genSplit_4_l0_run (G0 : Nat → Option Obj) (s0 : List UInt8) (s1 : List UInt8) (n2 : Int) (n3 : Int) (m4 : Nat) (m5 : Nat) (n6 : Int) (xs7 : List (List AV)) (R : AV → List (Option Blk) → Prop) (h :
ifK (decide (n6 < n3))
  (∃ n8,
    Good PG nG G0 f_strings_Index [AV.str s0, AV.str s1] [] (AV.int Go.IntKind.i64 n8) [] ∧
      ifK (decide (n8 < (0 : Int)))
        ((0 : Int) ≤ n6 ∧
          n6 < (↑m5 : Int) ∧
            (0 : Int) ≤ (0 : Int) ∧
              (0 : Int) ≤ Go.IntKind.wrap Go.IntKind.i64 (n6 + (1 : Int)) ∧
                Go.IntKind.wrap Go.IntKind.i64 (n6 + (1 : Int)) ≤ (↑(List.length (List.take m5 (List.drop m4 (List.set xs7 (m4 + Int.toNat n6) (setR (List.getD xs7 (m4 + Int.toNat n6) []) (0 : Nat) [AV.str s0]))))) : Int) ∧
                  R
                    (AV.sl (1 : Nat) false none
                      (List.drop (0 : Nat)
                        (List.take (Int.toNat (Go.IntKind.wrap Go.IntKind.i64 (n6 + (1 : Int)))) (List.take m5 (List.drop m4 (List.set xs7 (m4 + Int.toNat n6) (setR (List.getD xs7 (m4 + Int.toNat n6) []) (0 : Nat) [AV.str s0])))))))
                    [])
        ((0 : Int) ≤ (0 : Int) ∧
          (0 : Int) ≤ Go.IntKind.wrap Go.IntKind.i64 (n8 + n2) ∧
            Go.IntKind.wrap Go.IntKind.i64 (n8 + n2) ≤ (↑(List.length s0) : Int) ∧
              (0 : Int) ≤ n6 ∧
                n6 < (↑m5 : Int) ∧
                  (0 : Int) ≤ Go.IntKind.wrap Go.IntKind.i64 (n8 + (↑(List.length s1) : Int)) ∧
                    Go.IntKind.wrap Go.IntKind.i64 (n8 + (↑(List.length s1) : Int)) ≤ (↑(List.length s0) : Int) ∧
                      (↑(List.length s0) : Int) ≤ (↑(List.length s0) : Int) ∧
                        Does PG nG G0 (fnOf PG f_strings_genSplit) (0 : Nat) (lp PG f_strings_genSplit (0 : Nat))
                          (mkT (66 : Nat)
                            [((0 : Nat), AV.str (List.drop (Int.toNat (Go.IntKind.wrap Go.IntKind.i64 (n8 + (↑(List.length s1) : Int)))) (List.take (Int.toNat (↑(List.length s0) : Int)) s0))), ((1 : Nat), AV.str s1),
                              ((2 : Nat), AV.int Go.IntKind.i64 n2), ((3 : Nat), AV.int Go.IntKind.i64 n3), ((9 : Nat), AV.rsl (1 : Nat) (0 : Nat) m4 m5),
                              ((10 : Nat), AV.int Go.IntKind.i64 (Go.IntKind.wrap Go.IntKind.i64 (n6 + (1 : Int))))])
                          [some
                              (Blk.arr (1 : Nat)
                                (List.set xs7 (m4 + Int.toNat n6) (setR (List.getD xs7 (m4 + Int.toNat n6) []) (0 : Nat) [AV.str (List.drop (0 : Nat) (List.take (Int.toNat (Go.IntKind.wrap Go.IntKind.i64 (n8 + n2))) s0))])))]
                          R))
  ((0 : Int) ≤ n6 ∧
    n6 < (↑m5 : Int) ∧
      (0 : Int) ≤ (0 : Int) ∧
        (0 : Int) ≤ Go.IntKind.wrap Go.IntKind.i64 (n6 + (1 : Int)) ∧
          Go.IntKind.wrap Go.IntKind.i64 (n6 + (1 : Int)) ≤ (↑(List.length (List.take m5 (List.drop m4 (List.set xs7 (m4 + Int.toNat n6) (setR (List.getD xs7 (m4 + Int.toNat n6) []) (0 : Nat) [AV.str s0]))))) : Int) ∧
            R
              (AV.sl (1 : Nat) false none
                (List.drop (0 : Nat)
                  (List.take (Int.toNat (Go.IntKind.wrap Go.IntKind.i64 (n6 + (1 : Int)))) (List.take m5 (List.drop m4 (List.set xs7 (m4 + Int.toNat n6) (setR (List.getD xs7 (m4 + Int.toNat n6) []) (0 : Nat) [AV.str s0])))))))
              [])) :
  Hold (runL PG ty nG G0 an_strings_genSplit_4 f_strings_genSplit (0 : Nat) (0 : Nat)
  (mkT (66 : Nat) [((0 : Nat), AV.str s0), ((1 : Nat), AV.str s1), ((2 : Nat), AV.int Go.IntKind.i64 n2), ((3 : Nat), AV.int Go.IntKind.i64 n3), ((9 : Nat), AV.rsl (1 : Nat) (0 : Nat) m4 m5), ((10 : Nat), AV.int Go.IntKind.i64 n6)])
  [some (Blk.arr (1 : Nat) xs7)] R) := kshow h (by kernel_rfl)

theorem note_Parse_run (s0 : List UInt8) (G0 : Nat → Option Go.Obj) (R : AV → List (Option Blk) → Prop) (h :
Does PG nG G0 (fnOf PG f_note_Parse) (0 : Nat) (lp PG f_note_Parse (0 : Nat))
  (mkT (83 : Nat) [((0 : Nat), AV.str s0), ((2 : Nat), AV.ref (0 : Nat) (0 : Nat)), ((4 : Nat), AV.ref (1 : Nat) (0 : Nat)), ((13 : Nat), AV.int Go.IntKind.i64 (0 : Int))])
  [some (Blk.var [AV.int Go.IntKind.i64 (0 : Int), AV.str [], AV.str []]), some (Blk.var [AV.int Go.IntKind.i64 (0 : Int), AV.int Go.IntKind.i64 (0 : Int), AV.int Go.IntKind.i64 (0 : Int)])] R) :
  Hold (runF PG ty nG G0 an_note_Parse f_note_Parse [AV.str s0] [] R) := kshow h (by kernel_rfl)

theorem note_Parse_l0_run (G0 : Nat → Option Obj) (s0 : List UInt8) (n1 : Int) (n2 : Int) (s3 : List UInt8) (s4 : List UInt8) (n5 : Int) (n6 : Int) (n7 : Int) (R : AV → List (Option Blk) → Prop) (h :
ifK (decide (n1 < (3 : Int)))
  (∃ s8 s9 b10,
    Good PG nG G0 f_strings_Cut [AV.str s0, AV.str [(32 : UInt8)]] [] (AV.tup [AV.str s8, AV.str s9, AV.bool b10]) [] ∧
      ∃ n11 b12,
        ifK b12
          (Good PG nG G0 f_strconv_Atoi [AV.str s8] [] (AV.tup [AV.int Go.IntKind.i64 n11, AV.iface]) [] ∧
            ifK (!b10) (R (AV.tup [AV.agg [AV.int Go.IntKind.i64 (0 : Int), AV.str [], AV.str []], AV.int Go.IntKind.i64 (1 : Int)]) [])
              (R (AV.tup [AV.agg [AV.int Go.IntKind.i64 (0 : Int), AV.str [], AV.str []], AV.int Go.IntKind.i64 (1 : Int)]) []))
          (Good PG nG G0 f_strconv_Atoi [AV.str s8] [] (AV.tup [AV.int Go.IntKind.i64 n11, AV.nilIface]) [] ∧
            ifK (!b10) (R (AV.tup [AV.agg [AV.int Go.IntKind.i64 (0 : Int), AV.str [], AV.str []], AV.int Go.IntKind.i64 (1 : Int)]) [])
              (∃ s13,
                Good PG nG G0 f_strconv_Itoa [AV.int Go.IntKind.i64 n11] [] (AV.str s13) [] ∧
                  ifK (!s13 == s8) (R (AV.tup [AV.agg [AV.int Go.IntKind.i64 (0 : Int), AV.str [], AV.str []], AV.int Go.IntKind.i64 (1 : Int)]) [])
                    (ifK (decide (n11 < (0 : Int))) (R (AV.tup [AV.agg [AV.int Go.IntKind.i64 (0 : Int), AV.str [], AV.str []], AV.int Go.IntKind.i64 (1 : Int)]) [])
                      ((0 : Int) ≤ n1 ∧
                        n1 < (3 : Int) ∧
                          ifK (n1 == (0 : Int))
                            (Does PG nG G0 (fnOf PG f_note_Parse) (0 : Nat) (lp PG f_note_Parse (0 : Nat))
                              (mkT (83 : Nat) [((0 : Nat), AV.str s9), ((2 : Nat), AV.ref (0 : Nat) (0 : Nat)), ((4 : Nat), AV.ref (1 : Nat) (0 : Nat)), ((13 : Nat), AV.int Go.IntKind.i64 (Go.IntKind.wrap Go.IntKind.i64 (n1 + (1 : Int))))])
                              [some (Blk.var [AV.int Go.IntKind.i64 n2, AV.str s3, AV.str s4]), some (Blk.var [AV.int Go.IntKind.i64 n11, AV.int Go.IntKind.i64 n6, AV.int Go.IntKind.i64 n7])] R)
                            (ifK (n1 == (1 : Int))
                              (Does PG nG G0 (fnOf PG f_note_Parse) (0 : Nat) (lp PG f_note_Parse (0 : Nat))
                                (mkT (83 : Nat)
                                  [((0 : Nat), AV.str s9), ((2 : Nat), AV.ref (0 : Nat) (0 : Nat)), ((4 : Nat), AV.ref (1 : Nat) (0 : Nat)), ((13 : Nat), AV.int Go.IntKind.i64 (Go.IntKind.wrap Go.IntKind.i64 (n1 + (1 : Int))))])
                                [some (Blk.var [AV.int Go.IntKind.i64 n2, AV.str s3, AV.str s4]), some (Blk.var [AV.int Go.IntKind.i64 n5, AV.int Go.IntKind.i64 n11, AV.int Go.IntKind.i64 n7])] R)
                              (Does PG nG G0 (fnOf PG f_note_Parse) (0 : Nat) (lp PG f_note_Parse (0 : Nat))
                                (mkT (83 : Nat)
                                  [((0 : Nat), AV.str s9), ((2 : Nat), AV.ref (0 : Nat) (0 : Nat)), ((4 : Nat), AV.ref (1 : Nat) (0 : Nat)), ((13 : Nat), AV.int Go.IntKind.i64 (Go.IntKind.wrap Go.IntKind.i64 (n1 + (1 : Int))))])
                                [some (Blk.var [AV.int Go.IntKind.i64 n2, AV.str s3, AV.str s4]), some (Blk.var [AV.int Go.IntKind.i64 n5, AV.int Go.IntKind.i64 n6, AV.int Go.IntKind.i64 n11])] R)))))))
  ((0 : Int) ≤ (1 : Int) ∧
    (1 : Int) < (3 : Int) ∧
      ifK (decide (n6 > (↑(List.length s0) : Int))) (R (AV.tup [AV.agg [AV.int Go.IntKind.i64 (0 : Int), AV.str [], AV.str []], AV.int Go.IntKind.i64 (1 : Int)]) [])
        ((0 : Int) ≤ (2 : Int) ∧
          (2 : Int) < (3 : Int) ∧
            (0 : Int) ≤ (1 : Int) ∧
              (1 : Int) < (3 : Int) ∧
                ifK (n7 != Go.IntKind.wrap Go.IntKind.i64 ((↑(List.length s0) : Int) - n6)) (R (AV.tup [AV.agg [AV.int Go.IntKind.i64 (0 : Int), AV.str [], AV.str []], AV.int Go.IntKind.i64 (1 : Int)]) [])
                  ((0 : Int) ≤ (0 : Int) ∧
                    (0 : Int) < (3 : Int) ∧
                      (0 : Int) ≤ (1 : Int) ∧
                        (1 : Int) < (3 : Int) ∧
                          (0 : Int) ≤ (0 : Int) ∧
                            (0 : Int) ≤ n6 ∧
                              n6 ≤ (↑(List.length s0) : Int) ∧
                                (0 : Int) ≤ (1 : Int) ∧
                                  (1 : Int) < (3 : Int) ∧
                                    (0 : Int) ≤ n6 ∧
                                      n6 ≤ (↑(List.length s0) : Int) ∧
                                        (↑(List.length s0) : Int) ≤ (↑(List.length s0) : Int) ∧
                                          ∃ n14,
                                            Good PG nG G0 f_note_Check
                                                [AV.agg [AV.int Go.IntKind.i64 n5, AV.str (List.drop (0 : Nat) (List.take (Int.toNat n6) s0)), AV.str (List.drop (Int.toNat n6) (List.take (Int.toNat (↑(List.length s0) : Int)) s0))]] []
                                                (AV.int Go.IntKind.i64 n14) [] ∧
                                              ifK (n14 != (0 : Int)) (R (AV.tup [AV.agg [AV.int Go.IntKind.i64 (0 : Int), AV.str [], AV.str []], AV.int Go.IntKind.i64 n14]) [])
                                                (R
                                                  (AV.tup
                                                    [AV.agg [AV.int Go.IntKind.i64 n5, AV.str (List.drop (0 : Nat) (List.take (Int.toNat n6) s0)), AV.str (List.drop (Int.toNat n6) (List.take (Int.toNat (↑(List.length s0) : Int)) s0))],
                                                      AV.int Go.IntKind.i64 (0 : Int)])
                                                  []))))) :
  Hold (runL PG ty nG G0 an_note_Parse f_note_Parse (0 : Nat) (0 : Nat) (mkT (83 : Nat) [((0 : Nat), AV.str s0), ((2 : Nat), AV.ref (0 : Nat) (0 : Nat)), ((4 : Nat), AV.ref (1 : Nat) (0 : Nat)), ((13 : Nat), AV.int Go.IntKind.i64 n1)])
  [some (Blk.var [AV.int Go.IntKind.i64 n2, AV.str s3, AV.str s4]), some (Blk.var [AV.int Go.IntKind.i64 n5, AV.int Go.IntKind.i64 n6, AV.int Go.IntKind.i64 n7])] R) := kshow h (by kernel_rfl)

theorem greatsealref_HeadRead_run (s0 : List UInt8) (G0 : Nat → Option Go.Obj) (R : AV → List (Option Blk) → Prop) (h :
∃ b0 xs1,
  Good PG nG G0 f_strings_SplitN [AV.str s0, AV.str [(32 : UInt8)], AV.int Go.IntKind.i64 (4 : Int)] [] (AV.sl (1 : Nat) b0 none xs1) [] ∧
    ifK (decide ((↑(List.length xs1) : Int) < (4 : Int))) (R (AV.tup [AV.agg [AV.int Go.IntKind.i64 (0 : Int), AV.str [], AV.str []], AV.int Go.IntKind.i64 (1 : Int)]) [])
      (Does PG nG G0 (fnOf PG f_greatsealref_HeadRead) (0 : Nat) (lp PG f_greatsealref_HeadRead (0 : Nat))
        (mkT (89 : Nat) [((2 : Nat), AV.ref (0 : Nat) (0 : Nat)), ((4 : Nat), AV.sl (1 : Nat) b0 none xs1), ((5 : Nat), AV.ref (1 : Nat) (0 : Nat)), ((18 : Nat), AV.int Go.IntKind.i64 (0 : Int))])
        [some (Blk.var [AV.int Go.IntKind.i64 (0 : Int), AV.str [], AV.str []]), some (Blk.var [AV.int Go.IntKind.i64 (0 : Int), AV.int Go.IntKind.i64 (0 : Int), AV.int Go.IntKind.i64 (0 : Int)])] R)) :
  Hold (runF PG ty nG G0 an_greatsealref_HeadRead f_greatsealref_HeadRead [AV.str s0] [] R) := kshow h (by kernel_rfl)

theorem greatsealref_HeadRead_l0_run (G0 : Nat → Option Obj) (b2 : Bool) (xs3 : List (List AV)) (n4 : Int) (n5 : Int) (s6 : List UInt8) (s7 : List UInt8) (n8 : Int) (n9 : Int) (n10 : Int) (R : AV → List (Option Blk) → Prop) (h :
ifK (decide (n4 < (3 : Int)))
  ((0 : Int) ≤ n4 ∧
    ∃ s11,
      xs3[Int.toNat n4]? = some [AV.str s11] ∧
        ∃ n12 b13,
          ifK b13
            (Good PG nG G0 f_strconv_ParseInt [AV.str s11, AV.int Go.IntKind.i64 (10 : Int), AV.int Go.IntKind.i64 (64 : Int)] [] (AV.tup [AV.int Go.IntKind.i64 n12, AV.iface]) [] ∧
              R (AV.tup [AV.agg [AV.int Go.IntKind.i64 (0 : Int), AV.str [], AV.str []], AV.int Go.IntKind.i64 (1 : Int)]) [])
            (Good PG nG G0 f_strconv_ParseInt [AV.str s11, AV.int Go.IntKind.i64 (10 : Int), AV.int Go.IntKind.i64 (64 : Int)] [] (AV.tup [AV.int Go.IntKind.i64 n12, AV.nilIface]) [] ∧
              ∃ s14,
                Good PG nG G0 f_strconv_FormatInt [AV.int Go.IntKind.i64 n12, AV.int Go.IntKind.i64 (10 : Int)] [] (AV.str s14) [] ∧
                  (0 : Int) ≤ n4 ∧
                    ∃ s15,
                      xs3[Int.toNat n4]? = some [AV.str s15] ∧
                        ifK (!s14 == s15) (R (AV.tup [AV.agg [AV.int Go.IntKind.i64 (0 : Int), AV.str [], AV.str []], AV.int Go.IntKind.i64 (1 : Int)]) [])
                          (ifK (decide (n12 < (0 : Int))) (R (AV.tup [AV.agg [AV.int Go.IntKind.i64 (0 : Int), AV.str [], AV.str []], AV.int Go.IntKind.i64 (1 : Int)]) [])
                            ((0 : Int) ≤ n4 ∧
                              n4 < (3 : Int) ∧
                                ifK (n4 == (0 : Int))
                                  (Does PG nG G0 (fnOf PG f_greatsealref_HeadRead) (0 : Nat) (lp PG f_greatsealref_HeadRead (0 : Nat))
                                    (mkT (89 : Nat)
                                      [((2 : Nat), AV.ref (0 : Nat) (0 : Nat)), ((4 : Nat), AV.sl (1 : Nat) b2 none xs3), ((5 : Nat), AV.ref (1 : Nat) (0 : Nat)),
                                        ((18 : Nat), AV.int Go.IntKind.i64 (Go.IntKind.wrap Go.IntKind.i64 (n4 + (1 : Int))))])
                                    [some (Blk.var [AV.int Go.IntKind.i64 n5, AV.str s6, AV.str s7]), some (Blk.var [AV.int Go.IntKind.i64 n12, AV.int Go.IntKind.i64 n9, AV.int Go.IntKind.i64 n10])] R)
                                  (ifK (n4 == (1 : Int))
                                    (Does PG nG G0 (fnOf PG f_greatsealref_HeadRead) (0 : Nat) (lp PG f_greatsealref_HeadRead (0 : Nat))
                                      (mkT (89 : Nat)
                                        [((2 : Nat), AV.ref (0 : Nat) (0 : Nat)), ((4 : Nat), AV.sl (1 : Nat) b2 none xs3), ((5 : Nat), AV.ref (1 : Nat) (0 : Nat)),
                                          ((18 : Nat), AV.int Go.IntKind.i64 (Go.IntKind.wrap Go.IntKind.i64 (n4 + (1 : Int))))])
                                      [some (Blk.var [AV.int Go.IntKind.i64 n5, AV.str s6, AV.str s7]), some (Blk.var [AV.int Go.IntKind.i64 n8, AV.int Go.IntKind.i64 n12, AV.int Go.IntKind.i64 n10])] R)
                                    (Does PG nG G0 (fnOf PG f_greatsealref_HeadRead) (0 : Nat) (lp PG f_greatsealref_HeadRead (0 : Nat))
                                      (mkT (89 : Nat)
                                        [((2 : Nat), AV.ref (0 : Nat) (0 : Nat)), ((4 : Nat), AV.sl (1 : Nat) b2 none xs3), ((5 : Nat), AV.ref (1 : Nat) (0 : Nat)),
                                          ((18 : Nat), AV.int Go.IntKind.i64 (Go.IntKind.wrap Go.IntKind.i64 (n4 + (1 : Int))))])
                                      [some (Blk.var [AV.int Go.IntKind.i64 n5, AV.str s6, AV.str s7]), some (Blk.var [AV.int Go.IntKind.i64 n8, AV.int Go.IntKind.i64 n9, AV.int Go.IntKind.i64 n12])] R))))))
  ((0 : Int) ≤ (3 : Int) ∧
    ∃ s16,
      xs3[(3 : Nat)]? = some [AV.str s16] ∧
        (0 : Int) ≤ (1 : Int) ∧
          (1 : Int) < (3 : Int) ∧
            ifK (decide (n9 > (↑(List.length s16) : Int))) (R (AV.tup [AV.agg [AV.int Go.IntKind.i64 (0 : Int), AV.str [], AV.str []], AV.int Go.IntKind.i64 (1 : Int)]) [])
              ((0 : Int) ≤ (2 : Int) ∧
                (2 : Int) < (3 : Int) ∧
                  (0 : Int) ≤ (1 : Int) ∧
                    (1 : Int) < (3 : Int) ∧
                      ifK (n10 != Go.IntKind.wrap Go.IntKind.i64 ((↑(List.length s16) : Int) - n9)) (R (AV.tup [AV.agg [AV.int Go.IntKind.i64 (0 : Int), AV.str [], AV.str []], AV.int Go.IntKind.i64 (1 : Int)]) [])
                        ((0 : Int) ≤ (0 : Int) ∧
                          (0 : Int) < (3 : Int) ∧
                            (0 : Int) ≤ (3 : Int) ∧
                              ∃ s17,
                                xs3[(3 : Nat)]? = some [AV.str s17] ∧
                                  (0 : Int) ≤ (1 : Int) ∧
                                    (1 : Int) < (3 : Int) ∧
                                      (0 : Int) ≤ (0 : Int) ∧
                                        (0 : Int) ≤ n9 ∧
                                          n9 ≤ (↑(List.length s17) : Int) ∧
                                            (0 : Int) ≤ (3 : Int) ∧
                                              ∃ s18,
                                                xs3[(3 : Nat)]? = some [AV.str s18] ∧
                                                  (0 : Int) ≤ (1 : Int) ∧
                                                    (1 : Int) < (3 : Int) ∧
                                                      (0 : Int) ≤ n9 ∧
                                                        n9 ≤ (↑(List.length s18) : Int) ∧
                                                          (↑(List.length s18) : Int) ≤ (↑(List.length s18) : Int) ∧
                                                            ∃ n19,
                                                              Good PG nG G0 f_greatsealref_CheckHead
                                                                  [AV.agg
                                                                      [AV.int Go.IntKind.i64 n8, AV.str (List.drop (0 : Nat) (List.take (Int.toNat n9) s17)),
                                                                        AV.str (List.drop (Int.toNat n9) (List.take (Int.toNat (↑(List.length s18) : Int)) s18))]]
                                                                  [] (AV.int Go.IntKind.i64 n19) [] ∧
                                                                ifK (n19 != (0 : Int)) (R (AV.tup [AV.agg [AV.int Go.IntKind.i64 (0 : Int), AV.str [], AV.str []], AV.int Go.IntKind.i64 n19]) [])
                                                                  (R
                                                                    (AV.tup
                                                                      [AV.agg
                                                                          [AV.int Go.IntKind.i64 n8, AV.str (List.drop (0 : Nat) (List.take (Int.toNat n9) s17)),
                                                                            AV.str (List.drop (Int.toNat n9) (List.take (Int.toNat (↑(List.length s18) : Int)) s18))],
                                                                        AV.int Go.IntKind.i64 (0 : Int)])
                                                                    []))))) :
  Hold (runL PG ty nG G0 an_greatsealref_HeadRead f_greatsealref_HeadRead (0 : Nat) (0 : Nat)
  (mkT (89 : Nat) [((2 : Nat), AV.ref (0 : Nat) (0 : Nat)), ((4 : Nat), AV.sl (1 : Nat) b2 none xs3), ((5 : Nat), AV.ref (1 : Nat) (0 : Nat)), ((18 : Nat), AV.int Go.IntKind.i64 n4)])
  [some (Blk.var [AV.int Go.IntKind.i64 n5, AV.str s6, AV.str s7]), some (Blk.var [AV.int Go.IntKind.i64 n8, AV.int Go.IntKind.i64 n9, AV.int Go.IntKind.i64 n10])] R) := kshow h (by kernel_rfl)

theorem greatseallaw_sealed_run (G0 : Nat → Option Go.Obj) (R : AV → List (Option Blk) → Prop) (h :
∃ s0 n1,
  Good PG nG G0 f_seal_Leaf [AV.str [(97 : UInt8)]] [] (AV.tup [AV.str s0, AV.int Go.IntKind.i64 n1]) [] ∧
    ∃ s2 n3,
      Good PG nG G0 f_seal_Node [AV.str s0, AV.str [(76 : UInt8), (98 : UInt8)]] [] (AV.tup [AV.str s2, AV.int Go.IntKind.i64 n3]) [] ∧
        ∃ s4 s5 n6,
          Good PG nG G0 f_seal_Split [AV.str s2] [] (AV.tup [AV.str s4, AV.str s5, AV.int Go.IntKind.i64 n6]) [] ∧
            ∃ s7 n8,
              Good PG nG G0 f_seal_Open [AV.str s0] [] (AV.tup [AV.str s7, AV.int Go.IntKind.i64 n8]) [] ∧
                ∃ s9 s10 n11,
                  Good PG nG G0 f_seal_Split [AV.str [(78 : UInt8), (51 : UInt8), (58 : UInt8), (97 : UInt8), (98 : UInt8)]] [] (AV.tup [AV.str s9, AV.str s10, AV.int Go.IntKind.i64 n11]) [] ∧
                    ∃ s12 n13,
                      Good PG nG G0 f_seal_Open [AV.str [(69 : UInt8)]] [] (AV.tup [AV.str s12, AV.int Go.IntKind.i64 n13]) [] ∧
                        ifK (n1 == (0 : Int))
                          (ifK (n3 == (0 : Int))
                            (ifK (n6 == (0 : Int))
                              (ifK (n8 == (0 : Int))
                                (ifK (n11 == (4 : Int))
                                  (ifK (n13 == (4 : Int))
                                    (ifK (s2 == [(78 : UInt8), (50 : UInt8), (58 : UInt8), (76 : UInt8), (97 : UInt8), (76 : UInt8), (98 : UInt8)])
                                      (ifK (s4 == [(76 : UInt8), (97 : UInt8)])
                                        (ifK (s5 == [(76 : UInt8), (98 : UInt8)]) (ifK (s7 == [(97 : UInt8)]) (∃ s14, Good PG nG G0 f_seal_None [] [] (AV.str s14) [] ∧ R (AV.bool (s14 == [(69 : UInt8)])) []) (R (AV.bool false) []))
                                          (R (AV.bool false) []))
                                        (R (AV.bool false) []))
                                      (R (AV.bool false) []))
                                    (R (AV.bool false) []))
                                  (R (AV.bool false) []))
                                (R (AV.bool false) []))
                              (R (AV.bool false) []))
                            (R (AV.bool false) []))
                          (R (AV.bool false) [])) :
  Hold (runF PG ty nG G0 an_greatseallaw_sealed f_greatseallaw_sealed [] [] R) := kshow h (by kernel_rfl)

theorem greatseallaw_noted_run (G0 : Nat → Option Go.Obj) (R : AV → List (Option Blk) → Prop) (h :
∃ s0 n1,
  Good PG nG G0 f_note_Print [AV.agg [AV.int Go.IntKind.i64 (2 : Int), AV.str [(97 : UInt8), (98 : UInt8)], AV.str [(99 : UInt8), (32 : UInt8), (100 : UInt8)]]] [] (AV.tup [AV.str s0, AV.int Go.IntKind.i64 n1]) [] ∧
    ∃ n2 s3 s4 n5,
      Good PG nG G0 f_note_Parse [AV.str s0] [] (AV.tup [AV.agg [AV.int Go.IntKind.i64 n2, AV.str s3, AV.str s4], AV.int Go.IntKind.i64 n5]) [] ∧
        ∃ n6 s7 s8 n9,
          Good PG nG G0 f_note_Parse [AV.str [(50 : UInt8), (32 : UInt8), (50 : UInt8), (32 : UInt8), (52 : UInt8), (32 : UInt8), (97 : UInt8), (98 : UInt8), (99 : UInt8), (32 : UInt8), (100 : UInt8)]] []
              (AV.tup [AV.agg [AV.int Go.IntKind.i64 n6, AV.str s7, AV.str s8], AV.int Go.IntKind.i64 n9]) [] ∧
            ifK (n1 == (0 : Int))
              (ifK (n5 == (0 : Int))
                (ifK (n9 == (1 : Int))
                  (ifK (s0 == [(50 : UInt8), (32 : UInt8), (50 : UInt8), (32 : UInt8), (51 : UInt8), (32 : UInt8), (97 : UInt8), (98 : UInt8), (99 : UInt8), (32 : UInt8), (100 : UInt8)])
                    (R (AV.bool (eqAll [AV.int Go.IntKind.i64 n2, AV.str s3, AV.str s4] [AV.int Go.IntKind.i64 (2 : Int), AV.str [(97 : UInt8), (98 : UInt8)], AV.str [(99 : UInt8), (32 : UInt8), (100 : UInt8)]])) []) (R (AV.bool false) []))
                  (R (AV.bool false) []))
                (R (AV.bool false) []))
              (R (AV.bool false) [])) :
  Hold (runF PG ty nG G0 an_greatseallaw_noted f_greatseallaw_noted [] [] R) := kshow h (by kernel_rfl)

end Go.Ab

namespace Go.Ab
open Go.Proofs Go.Gs
variable {G0 : Nat → Option Obj}

def hasPre (s p : By) : Bool := s.take p.length == p
def hasSuf (s p : By) : Bool := decide (p.length ≤ s.length) && s.drop (s.length - p.length) == p

theorem good_hasPre1 (s p : By) : Good PG nG G0 f_internal_stringslite_HasPrefix [.str s, .str p] [] (.bool (hasPre s p)) [] := by
  refine good_of_run prOk (by kernel_rfl) (internal_stringslite_HasPrefix_run s p G0 _ ?_)
  rw [ifK_iff]
  simp only [decide_eq_true_eq, decide_eq_false_iff_not, Int.toNat_natCast, List.drop_zero]
  refine ⟨fun h => ⟨by omega, by omega, by omega, rfl, trivial⟩, fun h => ⟨?_, trivial⟩⟩
  have : hasPre s p = false := by
    unfold hasPre
    rw [beq_eq_false_iff_ne]
    intro e
    have := congrArg List.length e
    rw [List.length_take] at this
    omega
  rw [this]

theorem good_HasPrefix (s p : By) : Good PG nG G0 f_strings_HasPrefix [.str s, .str p] [] (.bool (hasPre s p)) [] :=
  good_of_run prOk (by kernel_rfl) (strings_HasPrefix_run s p G0 _ ⟨_, good_hasPre1 s p, rfl, rfl⟩)

theorem hasPre_one (s : By) (c : UInt8) : hasPre s [c] = (s.head? == some c) := by
  cases s with
  | nil => rfl
  | cons x r => simp [hasPre]

def openS (s : By) : By × Int := if s.head? = some 76 then (s.drop 1, 0) else ([], 4)

theorem good_Open (s : By) : Good PG nG G0 f_seal_Open [.str s] [] (.tup [.str (openS s).1, .int .i64 (openS s).2]) [] := by
  refine good_of_run prOk (by kernel_rfl) (seal_Open_run s G0 _ ⟨_, good_HasPrefix s [76], ?_⟩)
  rw [hasPre_one, ifK_iff]
  unfold openS
  simp only [Bool.not_eq_true', Bool.not_eq_false', beq_eq_false_iff_ne, ne_eq, beq_iff_eq, Int.toNat_natCast, List.take_length]
  refine ⟨fun h => ⟨by rw [if_neg h], trivial⟩, fun h => ?_⟩
  have h1 : 1 ≤ s.length := by
    cases s with
    | nil => cases h
    | cons _ _ => simp
  exact ⟨by omega, by omega, by omega, by rw [if_pos h], trivial⟩
end Go.Ab

namespace Go.Gs

/-- The seal of one key. -/
def tV : Option By → By × Int
  | some s => tLeaf s
  | none => ([69], 0)

theorem tV_inj {a b : Option By} {x : By} (h : tV a = (x, 0)) (k : tV b = (x, 0)) : a = b := by
  cases a with
  | none =>
    cases b with
    | none => rfl
    | some t =>
      have := tLeaf_ok (s := t) (by rw [show tLeaf t = (x, 0) from k])
      rw [show tLeaf t = (x, 0) from k] at this
      have h : ([69] : By) = x := (Prod.mk.injEq _ _ _ _ ▸ h).1
      rw [← h] at this
      simp at this
  | some s =>
    cases b with
    | none =>
      have := tLeaf_ok (s := s) (by rw [show tLeaf s = (x, 0) from h])
      rw [show tLeaf s = (x, 0) from h] at this
      have k : ([69] : By) = x := (Prod.mk.injEq _ _ _ _ ▸ k).1
      rw [← k] at this
      simp at this
    | some t => rw [tLeaf_inj h k]

/-- The seal of the 2^d keys from one on. -/
def tTrie (f : Nat → Option By) : Nat → Nat → By × Int
  | 0, i => tV (f i)
  | d + 1, i =>
    if (tTrie f d i).2 ≠ 0 then ([], (tTrie f d i).2)
    else if (tTrie f d (i + 2 ^ d)).2 ≠ 0 then ([], (tTrie f d (i + 2 ^ d)).2)
    else tNode (tTrie f d i).1 (tTrie f d (i + 2 ^ d)).1

/-- No value is too long. -/
def GoodV (f : Nat → Option By) : Prop := ∀ k v, f k = some v → v.length ≤ 12

def bnd : Nat → Nat
  | 0 => 13
  | d + 1 => 3 * bnd d + 3

theorem tTrie_good {f : Nat → Option By} (hf : GoodV f) : ∀ (d i : Nat), d ≤ 4 → (tTrie f d i).2 = 0 ∧ (tTrie f d i).1.length ≤ bnd d
  | 0, i, _ => by
    unfold tTrie
    cases h : f i with
    | none => exact ⟨rfl, by simp [tV, bnd]⟩
    | some v =>
      have := hf i v h
      simp only [tV, tLeaf, bnd]
      rw [if_neg (by omega)]
      exact ⟨rfl, by simp; omega⟩
  | d + 1, i, hd => by
    obtain ⟨a1, a2⟩ := tTrie_good hf d i (by omega)
    obtain ⟨b1, b2⟩ := tTrie_good hf d (i + 2 ^ d) (by omega)
    have hb : bnd d ≤ 1173 := by
      have : d = 0 ∨ d = 1 ∨ d = 2 ∨ d = 3 := by omega
      rcases this with rfl | rfl | rfl | rfl <;> decide
    have := itoa_len (tTrie f d i).1.length
    rw [tTrie, if_neg (by simpa using a1), if_neg (by simpa using b1)]
    unfold tNode
    rw [if_neg (by omega)]
    refine ⟨rfl, ?_⟩
    simp only [List.length_cons, List.length_append, bnd]
    omega

theorem tTrie_node {f : Nat → Option By} (hf : GoodV f) {d i : Nat} (hd : d + 1 ≤ 4) : tNode (tTrie f d i).1 (tTrie f d (i + 2 ^ d)).1 = ((tTrie f (d + 1) i).1, 0) := by
  have h := tTrie_good hf (d + 1) i hd
  have a := tTrie_good hf d i (by omega)
  have b := tTrie_good hf d (i + 2 ^ d) (by omega)
  have : tTrie f (d + 1) i = tNode (tTrie f d i).1 (tTrie f d (i + 2 ^ d)).1 := by
    rw [tTrie, if_neg (by simpa using a.1), if_neg (by simpa using b.1)]
  rw [← this]
  exact Prod.ext rfl h.1

theorem tTrie_inj {f g : Nat → Option By} (hf : GoodV f) (hg : GoodV g) : ∀ (d i : Nat), d ≤ 4 → (tTrie f d i).1 = (tTrie g d i).1 → ∀ k, i ≤ k → k < i + 2 ^ d → f k = g k
  | 0, i, _, h, k, h1, h2 => by
    obtain rfl : k = i := by simp at h2; omega
    have a := tTrie_good hf 0 k (by omega)
    have b := tTrie_good hg 0 k (by omega)
    exact tV_inj (x := (tTrie f 0 k).1) (Prod.ext rfl a.1) (Prod.ext h.symm b.1)
  | d + 1, i, hd, h, k, h1, h2 => by
    have a := tTrie_node hf (d := d) (i := i) hd
    have b := tTrie_node hg (d := d) (i := i) hd
    rw [← h] at b
    obtain ⟨e1, e2⟩ := tNode_inj a b
    rcases Nat.lt_or_ge k (i + 2 ^ d) with hk | hk
    · exact tTrie_inj hf hg d i (by omega) e1 k h1 hk
    · exact tTrie_inj hf hg d (i + 2 ^ d) (by omega) e2 k hk (by rw [Nat.pow_succ] at h2; omega)

theorem tTrie_same {f g : Nat → Option By} : ∀ (d i : Nat), (∀ k, i ≤ k → k < i + 2 ^ d → f k = g k) → tTrie f d i = tTrie g d i
  | 0, i, h => by rw [tTrie, tTrie, h i (Nat.le_refl _) (by simp)]
  | d + 1, i, h => by
    have e : (2 : Nat) ^ (d + 1) = 2 ^ d + 2 ^ d := by rw [Nat.pow_succ]; omega
    have h1 := tTrie_same d i fun k h1 h2 => h k h1 (by omega)
    have h2 := tTrie_same d (i + 2 ^ d) fun k h1 h2 => h k (by omega) (by omega)
    rw [tTrie, tTrie, h1, h2]

/-- Where the 2^d keys begin among which a key is; where those beside begin. -/
def base (d key : Nat) : Nat := key / 2 ^ d * 2 ^ d
def sib (d key : Nat) : Nat := if key / 2 ^ d % 2 = 1 then base d key - 2 ^ d else base d key + 2 ^ d
def bitOf (key d : Nat) : Bool := key / 2 ^ d % 2 == 1
def bitsOf (key d : Nat) : List Bool := (List.range d).map (bitOf key)
def triePath (f : Nat → Option By) (key d : Nat) : List By := (List.range d).map fun k => (tTrie f k (sib k key)).1

theorem bitsOf_succ (key d : Nat) : bitsOf key (d + 1) = bitsOf key d ++ [bitOf key d] := by simp [bitsOf, List.range_succ]
theorem triePath_succ (f : Nat → Option By) (key d : Nat) : triePath f key (d + 1) = triePath f key d ++ [(tTrie f d (sib d key)).1] := by simp [triePath, List.range_succ]
theorem bitsOf_len (key d : Nat) : (bitsOf key d).length = d := by simp [bitsOf]
theorem triePath_len (f : Nat → Option By) (key d : Nat) : (triePath f key d).length = d := by simp [triePath]

theorem base_succ (d key : Nat) : (bitOf key d = true → base d key = base (d + 1) key + 2 ^ d ∧ sib d key = base (d + 1) key) ∧ (bitOf key d = false → base d key = base (d + 1) key ∧ sib d key = base (d + 1) key + 2 ^ d) := by
  have hp : 0 < 2 ^ d := Nat.pos_of_ne_zero (by simp)
  have e : key / 2 ^ (d + 1) = key / 2 ^ d / 2 := by rw [Nat.pow_succ, Nat.div_div_eq_div_mul]
  have key2 : base (d + 1) key = (key / 2 ^ d / 2 * 2) * 2 ^ d := by
    unfold base; rw [e, Nat.pow_succ, Nat.mul_comm (2 ^ d) 2, Nat.mul_assoc]
  unfold bitOf sib
  rw [key2]
  unfold base
  constructor
  · intro h
    have h : key / 2 ^ d % 2 = 1 := by simpa using h
    rw [if_pos h]
    have h2 : key / 2 ^ d = key / 2 ^ d / 2 * 2 + 1 := by omega
    have h3 : key / 2 ^ d * 2 ^ d = key / 2 ^ d / 2 * 2 * 2 ^ d + 2 ^ d := by
      conv => lhs; rw [h2]
      rw [Nat.add_mul, Nat.one_mul]
    exact ⟨h3, by omega⟩
  · intro h
    have h : ¬ key / 2 ^ d % 2 = 1 := by simpa using h
    rw [if_neg h]
    have h2 : key / 2 ^ d = key / 2 ^ d / 2 * 2 := by omega
    have h3 : key / 2 ^ d * 2 ^ d = key / 2 ^ d / 2 * 2 * 2 ^ d := by
      conv => lhs; rw [h2]
    exact ⟨h3, by omega⟩

theorem trie_climb {f : Nat → Option By} (hf : GoodV f) (key : Nat) : ∀ (d : Nat) (now : By) (l : List By), d ≤ 4 → l.length = d →
    (climb now (bitsOf key d) (List.zip (bitsOf key d) l) = ((tTrie f d (base d key)).1, 0) ↔ tV (f key) = (now, 0) ∧ l = triePath f key d)
  | 0, now, l, _, hl => by
    obtain rfl : l = [] := List.eq_nil_of_length_eq_zero hl
    have h0 : base 0 key = key := by simp [base]
    have hg := (tTrie_good hf 0 key (by omega)).1
    rw [h0]
    simp only [bitsOf, List.range_zero, List.map_nil, List.zip_nil_left, climb, triePath, and_true, Prod.mk.injEq]
    constructor
    · rintro rfl; exact Prod.ext rfl hg
    · intro h; rw [tTrie, h]
  | d + 1, now, l, hd, hl => by
    have hne : l ≠ [] := by rintro rfl; simp at hl
    obtain ⟨st, last, rfl⟩ : ∃ st last, l = st ++ [last] := ⟨l.dropLast, l.getLast hne, (List.dropLast_concat_getLast hne).symm⟩
    have hsl : st.length = d := by simpa using hl
    have IH := trie_climb hf key d now st (by omega) hsl
    have hz : List.zip (bitsOf key d ++ [bitOf key d]) (st ++ [last]) = List.zip (bitsOf key d) st ++ [(bitOf key d, last)] := by
      rw [List.zip_append (by rw [bitsOf_len, hsl])]; rfl
    have hlen : (bitsOf key d).length = (List.zip (bitsOf key d) st).length := by rw [List.length_zip, bitsOf_len, hsl]; omega
    rw [bitsOf_succ, triePath_succ, hz, climb_append _ _ _ _ _ hlen]
    obtain ⟨b1, b2⟩ := base_succ d key
    have node : up1 (tTrie f d (base d key)).1 (bitOf key d, (tTrie f d (sib d key)).1) = ((tTrie f (d + 1) (base (d + 1) key)).1, 0) := by
      unfold up1
      cases hb : bitOf key d with
      | true =>
        obtain ⟨e1, e2⟩ := b1 hb
        rw [e1, e2]
        exact tTrie_node hf hd
      | false =>
        obtain ⟨e1, e2⟩ := b2 hb
        rw [e1, e2]
        exact tTrie_node hf hd
    constructor
    · intro h
      split at h
      · rename_i h1; rw [Prod.mk.injEq] at h; exact absurd h.2 h1
      · rename_i h1
        have h1 : (climb now (bitsOf key d) (List.zip (bitsOf key d) st)).2 = 0 := by simpa using h1
        simp only [climb] at h
        rw [if_neg (by simp)] at h
        split at h
        · rename_i h4; rw [Prod.mk.injEq] at h; exact absurd h.2 h4
        · rename_i h4
          have h4 : (up1 (climb now (bitsOf key d) (List.zip (bitsOf key d) st)).1 (bitOf key d, last)).2 = 0 := by simpa using h4
          have h5 : up1 (climb now (bitsOf key d) (List.zip (bitsOf key d) st)).1 (bitOf key d, last) = ((tTrie f (d + 1) (base (d + 1) key)).1, 0) := by
            rw [← h]; exact Prod.ext rfl h4
          have hh : (climb now (bitsOf key d) (List.zip (bitsOf key d) st)).1 = (tTrie f d (base d key)).1 ∧ last = (tTrie f d (sib d key)).1 := by
            unfold up1 at h5 node
            cases hb : bitOf key d with
            | true =>
              rw [hb] at h5 node
              obtain ⟨g1, g2⟩ := tNode_inj h5 node
              exact ⟨g2, g1⟩
            | false =>
              rw [hb] at h5 node
              obtain ⟨g1, g2⟩ := tNode_inj h5 node
              exact ⟨g1, g2⟩
          obtain ⟨g3, g4⟩ := IH.1 (Prod.ext hh.1 h1)
          exact ⟨g3, by rw [g4, hh.2]⟩
    · rintro ⟨h1, h3⟩
      obtain ⟨h4, h5⟩ := List.append_inj' h3 rfl
      have h6 := IH.2 ⟨h1, h4⟩
      rw [h6]
      have h5 : last = (tTrie f d (sib d key)).1 := by simpa using h5
      rw [h5]
      simp only [climb]
      rw [if_neg (by simp), if_neg (by simp), node]
      simp

/-- Do seals show that a key has a value (or none) where this is the seal of all? -/
def trieShows (all : By) (key : Int) (value : By) (there : Bool) (l : List By) : Int :=
  if key < 0 ∨ 16 ≤ key then 5 else if there = false ∧ value ≠ [] then 4 else if l.length ≠ 4 then 7
  else if (tV (if there then some value else none)).2 ≠ 0 then (tV (if there then some value else none)).2
  else if (climb (tV (if there then some value else none)).1 (bitsOf key.toNat 4) (List.zip (bitsOf key.toNat 4) l)).2 ≠ 0 then (climb (tV (if there then some value else none)).1 (bitsOf key.toNat 4) (List.zip (bitsOf key.toNat 4) l)).2
  else if (climb (tV (if there then some value else none)).1 (bitsOf key.toNat 4) (List.zip (bitsOf key.toNat 4) l)).1 ≠ all then 7 else 0

theorem trieShows_iff {f : Nat → Option By} (hf : GoodV f) {key : Nat} (hk : key < 16) (value : By) (there : Bool) (l : List By) :
    trieShows (tTrie f 4 0).1 key value there l = 0 ↔ (there = (f key).isSome ∧ value = (f key).getD [] ∧ l = triePath f key 4) := by
  have hb : base 4 key = 0 := by simp only [base]; omega
  have hc := fun now l => trie_climb hf key 4 now l (Nat.le_refl _)
  rw [hb] at hc
  have hg : (tV (f key)).2 = 0 := (tTrie_good hf 0 key (by omega)).1
  unfold trieShows
  rw [if_neg (by omega), Int.toNat_natCast]
  constructor
  · intro h
    generalize hs : tV (if there then some value else none) = s at h
    split at h
    · cases h
    · rename_i h0
      split at h
      · cases h
      · rename_i h1
        have h1 : l.length = 4 := by simpa using h1
        split at h
        · rename_i h2; exact absurd h h2
        · rename_i h2
          have h2 : s.2 = 0 := by simpa using h2
          split at h
          · rename_i h3; exact absurd h h3
          · rename_i h3
            have h3 : (climb s.1 (bitsOf key 4) (List.zip (bitsOf key 4) l)).2 = 0 := by simpa using h3
            split at h
            · cases h
            · rename_i h4
              have h4 : (climb s.1 (bitsOf key 4) (List.zip (bitsOf key 4) l)).1 = (tTrie f 4 0).1 := by simpa using h4
              obtain ⟨g1, g2⟩ := (hc _ l h1).1 (Prod.ext h4 h3)
              have := tV_inj (x := s.1) (hs.trans (Prod.ext rfl h2)) g1
              rw [← this]
              cases there with
              | true => exact ⟨rfl, rfl, g2⟩
              | false => exact ⟨rfl, by simpa using h0, g2⟩
  · rintro ⟨rfl, rfl, rfl⟩
    have e : (if (f key).isSome = true then some ((f key).getD []) else none) = f key := by cases f key <;> rfl
    have h5 := (hc (tV (f key)).1 (triePath f key 4) (triePath_len _ _ _)).2 ⟨Prod.ext rfl hg, rfl⟩
    rw [e, h5, if_neg (by cases f key <;> simp), if_neg (by simp [triePath_len]), if_neg (by simpa using hg), if_neg (by simp), if_neg (by simp)]

/-- A key's path doesn't hang on its own value. -/
theorem triePath_same {f g : Nat → Option By} {key : Nat} (h : ∀ k, k ≠ key → f k = g k) (d : Nat) : triePath f key d = triePath g key d := by
  unfold triePath
  refine List.map_congr_left fun k _ => ?_
  rw [tTrie_same k (sib k key) fun j h1 h2 => h j ?_]
  rintro rfl
  have hp : 0 < 2 ^ k := Nat.pos_of_ne_zero (by simp)
  have hb1 : base k j ≤ j := Nat.div_mul_le_self _ _
  have hb2 : j < base k j + 2 ^ k := by
    have h3 := Nat.div_add_mod j (2 ^ k)
    have h4 := Nat.mod_lt j hp
    rw [Nat.mul_comm] at h3
    unfold base
    omega
  obtain ⟨c1, c2⟩ := base_succ k j
  cases hb : bitOf j k with
  | true => obtain ⟨e1, e2⟩ := c1 hb; omega
  | false => obtain ⟨e1, e2⟩ := c2 hb; omega
end Go.Gs

namespace Go.Gs

abbrev Mp := List (Int × By)

def mGet : Mp → Int → Option By
  | [], _ => none
  | p :: r, k => if p.1 = k then some p.2 else mGet r k

def mPut : Mp → Int → By → Mp
  | [], k, v => [(k, v)]
  | p :: r, k, v => if p.1 = k then (k, v) :: r else p :: mPut r k v

theorem mGet_put : ∀ (m : Mp) (k : Int) (v : By) (j : Int), mGet (mPut m k v) j = if j = k then some v else mGet m j
  | [], k, v, j => by
    simp only [mPut, mGet]
    by_cases h : j = k
    · rw [if_pos h.symm, if_pos h]
    · rw [if_neg (fun e => h e.symm), if_neg h]
  | p :: r, k, v, j => by
    unfold mPut
    split
    · rename_i h
      simp only [mGet]
      by_cases hj : j = k
      · rw [if_pos hj.symm, if_pos hj]
      · rw [if_neg (fun e => hj e.symm), if_neg hj, if_neg (fun e => hj (by rw [← e, h]))]
    · rename_i h
      simp only [mGet]
      rw [mGet_put r k v j]
      by_cases hj : j = k
      · rw [if_neg (by rw [hj]; exact h), if_pos hj, if_pos hj]
      · rw [if_neg hj, if_neg hj]

theorem mGet_none {m : Mp} {k : Int} : mGet m k = none ↔ k ∉ m.map (·.1) := by
  induction m with
  | nil => simp [mGet]
  | cons p r ih =>
    simp only [mGet, List.map_cons, List.mem_cons, not_or]
    split
    · rename_i h; simp [h]
    · rename_i h; rw [ih]; exact ⟨fun h2 => ⟨fun e => h e.symm, h2⟩, fun h2 => h2.2⟩

theorem mGet_mem {m : Mp} {k : Int} {v : By} (h : mGet m k = some v) : (k, v) ∈ m := by
  induction m with
  | nil => simp [mGet] at h
  | cons p r ih =>
    simp only [mGet] at h
    split at h
    · rename_i hk; rw [← hk, ← Option.some.inj h]; simp
    · simp [ih h]

theorem mGet_of_mem {m : Mp} (hn : (m.map (·.1)).Nodup) {k : Int} {v : By} (h : (k, v) ∈ m) : mGet m k = some v := by
  induction m with
  | nil => simp at h
  | cons p r ih =>
    simp only [List.map_cons, List.nodup_cons] at hn
    simp only [mGet]
    rcases List.mem_cons.1 h with h | h
    · rw [← h]; simp
    · rw [if_neg, ih hn.2 h]
      intro e
      exact hn.1 (List.mem_map.2 ⟨_, h, e.symm⟩)

theorem mPut_keys (m : Mp) (k : Int) (v : By) : (mPut m k v).map (·.1) = if k ∈ m.map (·.1) then m.map (·.1) else m.map (·.1) ++ [k] := by
  induction m with
  | nil => simp [mPut]
  | cons p r ih =>
    unfold mPut
    split
    · rename_i h; simp [h]
    · rename_i h
      rw [List.map_cons, ih]
      simp only [List.map_cons, List.mem_cons]
      by_cases hk : k ∈ r.map (·.1)
      · rw [if_pos hk, if_pos (.inr hk)]
      · rw [if_neg hk, if_neg (by rintro (e | e); exact h e.symm; exact hk e)]; rfl

theorem mPut_nodup {m : Mp} (hn : (m.map (·.1)).Nodup) (k : Int) (v : By) : ((mPut m k v).map (·.1)).Nodup := by
  rw [mPut_keys]
  split
  · exact hn
  · rename_i h
    rw [List.nodup_append]
    exact ⟨hn, by simp, fun a ha b hb => by rw [List.mem_singleton.1 hb]; rintro rfl; exact h ha⟩

theorem mPut_len (m : Mp) (k : Int) (v : By) : (mPut m k v).length = if (mGet m k).isSome then m.length else m.length + 1 := by
  have := congrArg List.length (mPut_keys m k v)
  rw [List.length_map] at this
  rw [this]
  cases h : mGet m k with
  | none => rw [if_neg (mGet_none.1 h)]; simp
  | some v' =>
    rw [if_pos (by
      have := mGet_mem h
      exact List.mem_map.2 ⟨_, this, rfl⟩)]
    simp

/-- Two maps alike: as many, and each of the one's in the other one. -/
def mEq (m o : Mp) : Bool := m.length == o.length && m.all fun p => mGet o p.1 == some p.2

theorem mEq_iff {m o : Mp} (hm : (m.map (·.1)).Nodup) (ho : (o.map (·.1)).Nodup) : mEq m o = true ↔ ∀ k, mGet m k = mGet o k := by
  unfold mEq
  simp only [Bool.and_eq_true, beq_iff_eq, List.all_eq_true]
  constructor
  · rintro ⟨h1, h2⟩ k
    cases h : mGet m k with
    | some v => exact (h2 _ (mGet_mem h)).symm
    | none =>
      have hk := mGet_none.1 h
      have sub : m.map (·.1) ⊆ o.map (·.1) := by
        intro a ha
        obtain ⟨p, hp, rfl⟩ := List.mem_map.1 ha
        exact List.mem_map.2 ⟨_, mGet_mem (h2 p hp), rfl⟩
      symm
      rw [mGet_none]
      intro hko
      have hsub2 : k :: m.map (·.1) ⊆ o.map (·.1) := by
        intro a ha
        rcases List.mem_cons.1 ha with rfl | ha
        · exact hko
        · exact sub ha
      have := (List.nodup_cons.2 ⟨hk, hm⟩).length_le_of_subset hsub2
      simp only [List.length_cons, List.length_map] at this
      omega
  · intro h
    refine ⟨Nat.le_antisymm ?_ ?_, fun p hp => ?_⟩
    · have sub : m.map (·.1) ⊆ o.map (·.1) := by
        intro a ha
        apply Classical.byContradiction
        intro hc
        have := mGet_none.2 hc
        rw [← h a] at this
        exact mGet_none.1 this ha
      have := hm.length_le_of_subset sub
      simpa using this
    · have sub : o.map (·.1) ⊆ m.map (·.1) := by
        intro a ha
        apply Classical.byContradiction
        intro hc
        have := mGet_none.2 hc
        rw [h a] at this
        exact mGet_none.1 this ha
      have := ho.length_le_of_subset sub
      simpa using this
    · rw [← h]
      exact mGet_of_mem hm hp

/-- Values are some: one for each key at most. -/
def checkM (m : Mp) : Int :=
  if m.any (fun p => decide (0 ≤ p.1 ∧ p.1 < 16) && decide (12 < p.2.length)) then 2 else if m.any (fun p => decide (p.1 < 0 ∨ 16 ≤ p.1)) then 5 else 0

theorem checkM_ok {m : Mp} (h : checkM m = 0) : ∀ p ∈ m, 0 ≤ p.1 ∧ p.1 < 16 ∧ p.2.length ≤ 12 := by
  intro p hp
  unfold checkM at h
  split at h
  · cases h
  · rename_i h1
    split at h
    · cases h
    · rename_i h2
      simp only [List.any_eq_true, Bool.and_eq_true, decide_eq_true_eq, not_exists, not_and] at h1 h2
      have a := h1 p hp
      have b := h2 p hp
      omega

theorem checkM_mk {m : Mp} (h : ∀ p ∈ m, 0 ≤ p.1 ∧ p.1 < 16 ∧ p.2.length ≤ 12) : checkM m = 0 := by
  unfold checkM
  rw [if_neg, if_neg]
  · simp only [List.any_eq_true, decide_eq_true_eq, not_exists, not_and]
    intro p hp; have := h p hp; omega
  · simp only [List.any_eq_true, Bool.and_eq_true, decide_eq_true_eq, not_exists, not_and]
    intro p hp; have := h p hp; omega

/-- What a map gives, by small numbers. -/
def fM (m : Mp) : Nat → Option By := fun k => mGet m k

theorem fM_good {m : Mp} (h : checkM m = 0) : GoodV (fM m) := fun _ _ hv => (checkM_ok h _ (mGet_mem hv)).2.2

/-- The seal of values. -/
def mapRoot (m : Mp) : By × Int := if checkM m ≠ 0 then ([], checkM m) else tTrie (fM m) 4 0

theorem mapRoot_ok {m : Mp} (h : checkM m = 0) : mapRoot m = ((tTrie (fM m) 4 0).1, 0) := by
  rw [mapRoot, if_neg (by simpa using h)]
  exact Prod.ext rfl (tTrie_good (fM_good h) 4 0 (Nat.le_refl _)).1

theorem mapRoot_code (m : Mp) : (mapRoot m).2 = checkM m := by
  by_cases h : checkM m = 0
  · rw [mapRoot_ok h, h]
  · rw [mapRoot, if_pos h]

theorem mapRoot_inj {m o : Mp} (hm : (m.map (·.1)).Nodup) (ho : (o.map (·.1)).Nodup) (h1 : checkM m = 0) (h2 : checkM o = 0) : (mapRoot m).1 = (mapRoot o).1 ↔ mEq m o = true := by
  rw [mEq_iff hm ho, mapRoot_ok h1, mapRoot_ok h2]
  constructor
  · intro h k
    by_cases hk : 0 ≤ k ∧ k < 16
    · have := tTrie_inj (fM_good h1) (fM_good h2) 4 0 (Nat.le_refl _) h k.toNat (by omega) (by omega)
      unfold fM at this
      rwa [Int.toNat_of_nonneg hk.1] at this
    · have a : mGet m k = none := by rw [mGet_none]; intro hc; obtain ⟨p, hp, rfl⟩ := List.mem_map.1 hc; have := checkM_ok h1 p hp; omega
      have b : mGet o k = none := by rw [mGet_none]; intro hc; obtain ⟨p, hp, rfl⟩ := List.mem_map.1 hc; have := checkM_ok h2 p hp; omega
      rw [a, b]
  · intro h
    have : fM m = fM o := by funext k; exact h k
    rw [this]

end Go.Gs

namespace Go.Gs

abbrev En := Int × By
abbrev Bk := List En

/-- The text of an entry. -/
def textE (e : En) : By := Lib.itoa e.1 ++ 32 :: e.2

def badE (e : En) : Int := if e.1 < 0 ∨ 16 ≤ e.1 then 5 else if 12 < e.2.length then 2 else 0

def firstBad : Bk → Int
  | [] => 0
  | e :: r => if badE e ≠ 0 then badE e else firstBad r

def checkB (b : Bk) : Int := if 24 < b.length then 2 else firstBad b

theorem firstBad_ok {b : Bk} (h : firstBad b = 0) : ∀ e ∈ b, 0 ≤ e.1 ∧ e.1 < 16 ∧ e.2.length ≤ 12 := by
  induction b with
  | nil => intro e he; cases he
  | cons x r ih =>
    unfold firstBad at h
    split at h
    · rename_i hb; exact absurd h hb
    · rename_i hb
      intro e he
      rcases List.mem_cons.1 he with rfl | he
      · unfold badE at hb
        split at hb
        · simp at hb
        · split at hb
          · simp at hb
          · omega
      · exact ih h e he

theorem firstBad_mk {b : Bk} (h : ∀ e ∈ b, 0 ≤ e.1 ∧ e.1 < 16 ∧ e.2.length ≤ 12) : firstBad b = 0 := by
  induction b with
  | nil => rfl
  | cons x r ih =>
    have hx := h x (by simp)
    have : badE x = 0 := by unfold badE; rw [if_neg (by omega), if_neg (by omega)]
    unfold firstBad
    rw [if_neg (by rw [this]; simp)]
    exact ih fun e he => h e (by simp [he])

theorem checkB_ok {b : Bk} (h : checkB b = 0) : b.length ≤ 24 ∧ ∀ e ∈ b, 0 ≤ e.1 ∧ e.1 < 16 ∧ e.2.length ≤ 12 := by
  unfold checkB at h
  split at h
  · cases h
  · exact ⟨by omega, firstBad_ok h⟩

theorem checkB_mk {b : Bk} (h0 : b.length ≤ 24) (h : ∀ e ∈ b, 0 ≤ e.1 ∧ e.1 < 16 ∧ e.2.length ≤ 12) : checkB b = 0 := by
  unfold checkB
  rw [if_neg (by omega)]
  exact firstBad_mk h

theorem checkB_take {b : Bk} (h : checkB b = 0) (n : Nat) : checkB (b.take n) = 0 := by
  obtain ⟨h1, h2⟩ := checkB_ok h
  exact checkB_mk (by simp only [List.length_take]; omega) fun e he => h2 e (List.mem_of_mem_take he)

/-- Texts of all entries. -/
def textsOf (b : Bk) : List By := b.map textE

/-- Values behind all entries. -/
def valsOf (b : Bk) : Mp := b.foldl (fun m e => mPut m e.1 e.2) []

theorem valsOf_snoc (b : Bk) (e : En) : valsOf (b ++ [e]) = mPut (valsOf b) e.1 e.2 := by simp [valsOf]

theorem valsOf_nodup (b : Bk) : ((valsOf b).map (·.1)).Nodup := by
  have key : ∀ (b : Bk) (m : Mp), (m.map (·.1)).Nodup → ((b.foldl (fun m e => mPut m e.1 e.2) m).map (·.1)).Nodup := by
    intro b
    induction b with
    | nil => intro m h; exact h
    | cons e r ih => intro m h; exact ih _ (mPut_nodup h _ _)
  exact key b [] (by simp)

theorem mPut_mem {m : Mp} {k : Int} {v : By} {p : Int × By} (h : p ∈ mPut m k v) : p = (k, v) ∨ p ∈ m := by
  induction m with
  | nil => simp [mPut] at h; exact .inl h
  | cons q r ih =>
    unfold mPut at h
    split at h
    · rcases List.mem_cons.1 h with h | h
      · exact .inl h
      · exact .inr (by simp [h])
    · rcases List.mem_cons.1 h with h | h
      · exact .inr (by simp [h])
      · rcases ih h with h | h
        · exact .inl h
        · exact .inr (by simp [h])

theorem valsOf_mem {b : Bk} {p : Int × By} (h : p ∈ valsOf b) : p ∈ b := by
  have key : ∀ (b : Bk) (m : Mp), p ∈ b.foldl (fun m e => mPut m e.1 e.2) m → p ∈ b ∨ p ∈ m := by
    intro b
    induction b with
    | nil => intro m h; exact .inr h
    | cons e r ih =>
      intro m h
      rcases ih _ h with h | h
      · exact .inl (by simp [h])
      · rcases mPut_mem h with h | h
        · exact .inl (by simp [h])
        · exact .inr h
  rcases key b [] h with h | h
  · exact h
  · cases h

theorem valsOf_check {b : Bk} (h : checkB b = 0) : checkM (valsOf b) = 0 := checkM_mk fun p hp => (checkB_ok h).2 p (valsOf_mem hp)

theorem valsOf_len (b : Bk) : (valsOf b).length ≤ b.length := by
  have key : ∀ (b : Bk) (m : Mp), (b.foldl (fun m e => mPut m e.1 e.2) m).length ≤ m.length + b.length := by
    intro b
    induction b with
    | nil => intro m; exact Nat.le_refl _
    | cons e r ih =>
      intro m
      have := ih (mPut m e.1 e.2)
      rw [mPut_len] at this
      simp only [List.foldl_cons, List.length_cons]
      split at this <;> omega
  have := key b []
  simpa [valsOf] using this

/-- Texts of a book's entries are short, so that its seal is good. -/
theorem decDigits_small {u : Nat} (h : u < 100) : (Lib.decDigits u).length ≤ 2 := by
  rw [Lib.decDigits]
  split
  · simp
  · rw [Lib.decDigits, dif_pos (by omega)]; simp

theorem decDigits_len4 {u : Nat} (h : u < 100000) : (Lib.decDigits u).length ≤ 5 := by
  have step : ∀ (u k : Nat), (Lib.decDigits (u / 10)).length ≤ k → (Lib.decDigits u).length ≤ k + 1 := by
    intro u k h
    rw [Lib.decDigits]
    split
    · simp
    · simp only [List.length_append, List.length_cons, List.length_nil]; omega
  exact step u 4 (step _ 3 (step _ 2 (decDigits_small (by omega))))

theorem textE_len {e : En} (h : 0 ≤ e.1 ∧ e.1 < 16 ∧ e.2.length ≤ 12) : (textE e).length ≤ 15 := by
  unfold textE
  have he : e.1 = ((e.1.toNat : Nat) : Int) := by omega
  rw [he, itoa_nat]
  have := decDigits_small (u := e.1.toNat) (by omega)
  simp only [List.length_append, List.length_cons]; omega

theorem tRoot_short : ∀ (n : Nat) (l : List By), l.length ≤ n → n ≤ 24 → (∀ s ∈ l, s.length ≤ 15) → (tRoot l).2 = 0 ∧ (tRoot l).1.length + 7 ≤ 23 * (max 1 l.length) := by
  intro n
  induction n with
  | zero =>
    intro l h _ _
    have : l = [] := List.eq_nil_of_length_eq_zero (by omega)
    subst this
    rw [tRoot_zero rfl]; exact ⟨rfl, by simp⟩
  | succ n ih =>
    intro l hn hb hs
    rcases Nat.lt_or_ge l.length 2 with h2 | h2
    · rcases Nat.lt_or_ge l.length 1 with h1 | h1
      · have : l = [] := List.eq_nil_of_length_eq_zero (by omega)
        subst this
        rw [tRoot_zero rfl]; exact ⟨rfl, by simp⟩
      · obtain ⟨s, rfl⟩ := List.length_eq_one_iff.1 (show l.length = 1 by omega)
        have := hs s (by simp)
        have hlf : tLeaf s = (76 :: s, 0) := by unfold tLeaf; rw [if_neg (by omega)]
        rw [tRoot_one rfl, List.headD_cons, hlf]
        refine ⟨rfl, ?_⟩
        simp only [List.length_cons, List.length_nil]; omega
    · have hk1 := halfN_pos l.length
      have hk2 := halfN_lt h2
      obtain ⟨a1, a2⟩ := ih (l.take (halfN l.length)) (by simp only [List.length_take]; omega) (by omega) fun s h => hs s (List.mem_of_mem_take h)
      obtain ⟨b1, b2⟩ := ih (l.drop (halfN l.length)) (by simp only [List.length_drop]; omega) (by omega) fun s h => hs s (List.mem_of_mem_drop h)
      simp only [List.length_take, List.length_drop] at a2 b2
      have c := decDigits_len4 (u := (tRoot (l.take (halfN l.length))).1.length) (by omega)
      rw [tRoot_two h2, if_neg (by simpa using a1), if_neg (by simpa using b1)]
      unfold tNode
      rw [if_neg (by omega), itoa_nat]
      refine ⟨rfl, ?_⟩
      simp only [List.length_cons, List.length_append]
      omega

theorem texts_good {b : Bk} (h : checkB b = 0) : (tRoot (textsOf b)).2 = 0 ∧ (tRoot (textsOf b)).1.length ≤ 545 := by
  obtain ⟨h1, h2⟩ := checkB_ok h
  have hl : (textsOf b).length = b.length := by simp [textsOf]
  have := tRoot_short _ (textsOf b) (Nat.le_refl _) (by omega) fun s hs => by
    obtain ⟨e, he, rfl⟩ := List.mem_map.1 hs
    exact textE_len (h2 e he)
  exact ⟨this.1, by omega⟩

theorem textE_inj {e f : En} (he : 0 ≤ e.1) (hf : 0 ≤ f.1) (h : textE e = textE f) : e = f := by
  unfold textE at h
  have e1 : e.1 = ((e.1.toNat : Nat) : Int) := by omega
  have f1 : f.1 = ((f.1.toNat : Nat) : Int) := by omega
  rw [e1, f1, itoa_nat, itoa_nat] at h
  have no : ∀ n : Nat, (32 : UInt8) ∉ Lib.decDigits n := fun n hc => by
    have := dec_digit n _ hc
    simp at this
  obtain ⟨h1, h2⟩ := split_first (no _) (no _) h
  have := dec_inj h1
  exact Prod.ext (by omega) h2

theorem textsOf_inj : ∀ {b c : Bk}, (∀ e ∈ b, 0 ≤ e.1) → (∀ e ∈ c, 0 ≤ e.1) → textsOf b = textsOf c → b = c
  | [], [], _, _, _ => rfl
  | [], _ :: _, _, _, h => by simp [textsOf] at h
  | _ :: _, [], _, _, h => by simp [textsOf] at h
  | e :: b, f :: c, hb, hc, h => by
    simp only [textsOf, List.map_cons, List.cons.injEq] at h
    rw [textE_inj (hb e (by simp)) (hc f (by simp)) h.1, textsOf_inj (fun e he => hb e (by simp [he])) (fun e he => hc e (by simp [he])) h.2]

/-- A head. -/
structure Hd where
  n : Int
  log : By
  mp : By
  deriving DecidableEq, Inhabited

def hd0 : Hd := ⟨0, [], []⟩

/-- The head of a book. -/
def headOf (b : Bk) : Hd × Int := if checkB b ≠ 0 then (hd0, checkB b) else (⟨b.length, (tRoot (textsOf b)).1, (mapRoot (valsOf b)).1⟩, 0)

theorem headOf_ok {b : Bk} (h : checkB b = 0) : headOf b = (⟨b.length, (tRoot (textsOf b)).1, (mapRoot (valsOf b)).1⟩, 0) := by rw [headOf, if_neg (by simpa using h)]
theorem headOf_code (b : Bk) : (headOf b).2 = checkB b := by
  unfold headOf
  split
  · rfl
  · rename_i h; simpa using (show ¬ checkB b ≠ 0 from h) |> fun h => (Decidable.not_not.1 h).symm

theorem mapRoot_len {m : Mp} (h : checkM m = 0) : (mapRoot m).1.length ≤ 1173 := by
  rw [mapRoot_ok h]
  have := (tTrie_good (fM_good h) 4 0 (Nat.le_refl _)).2
  have hb : bnd 4 = 1173 := by decide
  rw [hb] at this
  exact this

/-- NO TWO BOOKS HAVE ONE HEAD. -/
theorem headOf_inj {b c : Bk} (hb : checkB b = 0) (hc : checkB c = 0) : headOf b = headOf c ↔ b = c := by
  constructor
  · intro h
    rw [headOf_ok hb, headOf_ok hc] at h
    have h2 : (tRoot (textsOf b)).1 = (tRoot (textsOf c)).1 := by injection h with h _; injection h
    have := tRoot_inj _ _ _ (Nat.le_refl _) (texts_good hb).1 (texts_good hc).1 h2
    exact textsOf_inj (fun e he => ((checkB_ok hb).2 e he).1) (fun e he => ((checkB_ok hc).2 e he).1) this
  · rintro rfl; rfl

/-- A head may be one. -/
def checkH (h : Hd) : Int := if h.n < 0 ∨ 24 < h.n then 3 else if 20000 < h.log.length ∨ 20000 < h.mp.length then 2 else 0

theorem headOf_check {b : Bk} (h : checkB b = 0) : checkH (headOf b).1 = 0 := by
  rw [headOf_ok h]
  have h1 := (checkB_ok h).1
  have h2 := (texts_good h).2
  have h3 := mapRoot_len (valsOf_check h)
  unfold checkH
  simp only
  rw [if_neg (by omega), if_neg (by omega)]

/-- Put an entry behind all. -/
def putBk (b : Bk) (e : En) : Bk × Int := if checkB b ≠ 0 then ([], checkB b) else if checkB (b ++ [e]) ≠ 0 then ([], checkB (b ++ [e])) else (b ++ [e], 0)
end Go.Gs

namespace Go.Gs

/-- A text cut at the first such byte. -/
def cutB (c : UInt8) : By → Option (By × By)
  | [] => none
  | b :: r => if b = c then some ([], r) else match cutB c r with
    | some p => some (b :: p.1, p.2)
    | none => none

theorem cutB_index (c : UInt8) : ∀ s : By, match cutB c s with
    | none => Lib.indexByte s c = -1 ∧ c ∉ s
    | some p => Lib.indexByte s c = p.1.length ∧ s = p.1 ++ c :: p.2 ∧ c ∉ p.1
  | [] => by simp [cutB, Lib.indexByte]
  | b :: r => by
    unfold cutB
    by_cases h : b = c
    · rw [if_pos h]
      simp [Lib.indexByte, h]
    · rw [if_neg h]
      have ih := cutB_index c r
      have hb : (b == c) = false := by simpa using h
      cases hc : cutB c r with
      | none =>
        rw [hc] at ih
        obtain ⟨h1, h2⟩ := ih
        refine ⟨by simp [Lib.indexByte, hb, h1], fun hm => ?_⟩
        rcases List.mem_cons.1 hm with e | hm
        · exact h e.symm
        · exact h2 hm
      | some p =>
        rw [hc] at ih
        obtain ⟨h1, h2, h3⟩ := ih
        refine ⟨?_, by rw [h2]; rfl, fun hm => ?_⟩
        · have hne : ¬ ((p.1.length : Int) = -1) := by omega
          simp [Lib.indexByte, hb, h1, hne]
        · rcases List.mem_cons.1 hm with e | hm
          · exact h e.symm
          · exact h3 hm

theorem cutB_mk {c : UInt8} : ∀ {a : By} (b : By), c ∉ a → cutB c (a ++ c :: b) = some (a, b)
  | [], b, _ => by simp [cutB]
  | x :: r, b, h => by
    have hx : x ≠ c := fun e => h (by simp [e])
    rw [List.cons_append, cutB, if_neg hx, cutB_mk b fun hm => h (by simp [hm])]

theorem cutB_some {c : UInt8} {s : By} {p : By × By} (h : cutB c s = some p) : Lib.indexByte s c = p.1.length ∧ s = p.1 ++ c :: p.2 ∧ c ∉ p.1 := by
  have := cutB_index c s
  rw [h] at this
  exact this

theorem cutB_none {c : UInt8} {s : By} (h : cutB c s = none) : Lib.indexByte s c = -1 ∧ c ∉ s := by
  have := cutB_index c s
  rw [h] at this
  exact this

/-! Numerals. -/

theorem parseUint10_snoc (c : UInt8) : ∀ (l : By) (acc : Nat), Lib.parseUint10 acc (l ++ [c]) = match Lib.parseUint10 acc l with
    | .ok u => Lib.parseUint10 u [c]
    | e => e
  | [], acc => by simp [Lib.parseUint10]
  | x :: r, acc => by
    rw [List.cons_append, Lib.parseUint10, Lib.parseUint10]
    split
    · split
      · rfl
      · split
        · rfl
        · exact parseUint10_snoc c r _
    · rfl

theorem digit_nat {d : Nat} (h : d < 10) : (UInt8.ofNat (48 + d)).toNat = 48 + d := by
  rw [UInt8.toNat_ofNat']; omega

theorem decDigits_ne (u : Nat) : Lib.decDigits u ≠ [] := by
  rw [Lib.decDigits]
  split <;> simp

theorem decDigits_digit (u : Nat) : ∀ b ∈ Lib.decDigits u, 48 ≤ b.toNat ∧ b.toNat ≤ 57 := by
  induction u using Nat.strongRecOn with
  | ind u ih =>
    rw [Lib.decDigits]
    split
    · rename_i h
      intro b hb
      have : b = UInt8.ofNat (48 + u) := by simpa using hb
      rw [this, digit_nat h]; omega
    · rename_i h
      intro b hb
      rcases List.mem_append.1 hb with hb | hb
      · exact ih (u / 10) (by omega) b hb
      · have : b = UInt8.ofNat (48 + u % 10) := by simpa using hb
        rw [this, digit_nat (by omega)]; omega

theorem parse_digits (u : Nat) (hu : u < 18446744073709551616) : Lib.parseUint10 0 (Lib.decDigits u) = .ok u := by
  induction u using Nat.strongRecOn with
  | ind u ih =>
    rw [Lib.decDigits]
    split
    · rename_i h
      simp only [Lib.parseUint10, digit_nat h]
      rw [if_pos (by omega), if_neg (by omega), if_neg (by omega)]
      congr 1; omega
    · rename_i h
      rw [parseUint10_snoc, ih (u / 10) (by omega) (by omega)]
      simp only [Lib.parseUint10, digit_nat (show u % 10 < 10 by omega)]
      rw [if_pos (by omega), if_neg (by omega), if_neg (by omega)]
      congr 1; omega

theorem atoi_itoa {n : Nat} (h : n < 9223372036854775808) : Lib.atoiAll (Lib.itoa (n : Int)) = .ok (n : Int) := by
  rw [itoa_nat]
  have h1 := parse_digits n (by omega)
  have h2 := decDigits_digit n
  have h3 := decDigits_ne n
  cases hd : Lib.decDigits n with
  | nil => exact absurd hd h3
  | cons c r =>
    rw [hd] at h1 h2
    have hc := h2 c (by simp)
    unfold Lib.atoiAll
    simp only
    rw [if_neg (by omega), Lib.parseMag, if_neg (by simp), h1]
    simp only
    rw [if_neg (by omega), if_neg (by omega), if_neg (by omega)]

/-- The number that a text is written as, and as nothing else. -/
def numB (w : By) : Option Nat :=
  match Lib.atoiAll w with
  | .ok v => if Lib.itoa v = w ∧ 0 ≤ v then some v.toNat else none
  | _ => none

theorem numB_itoa {n : Nat} (h : n < 9223372036854775808) : numB (Lib.itoa (n : Int)) = some n := by
  unfold numB
  rw [atoi_itoa h]
  simp

theorem numB_some {w : By} {n : Nat} (h : numB w = some n) : w = Lib.itoa (n : Int) ∧ n < 9223372036854775808 := by
  unfold numB at h
  split at h
  · rename_i v hv
    split at h
    · rename_i h1
      have hb := Lib.atoiAll_bounds hv
      injection h with h
      have : v = (n : Int) := by omega
      rw [← this]
      exact ⟨h1.1.symm, by omega⟩
    · cases h
  · cases h

theorem no_byte {c : UInt8} (hc : c.toNat < 48 ∨ 57 < c.toNat) (n : Nat) : c ∉ Lib.itoa (n : Int) := by
  rw [itoa_nat]
  intro h
  have := decDigits_digit n c h
  omega

/-! Seals split. -/

/-- Chapter 1's Split. -/
def splitR (s : By) : (By × By) × Int :=
  match cutB 58 s with
  | none => (([], []), 4)
  | some p =>
    match p.1 with
    | 78 :: w =>
      match numB w with
      | some n => if p.2.length < n then (([], []), 4) else ((p.2.take n, p.2.drop n), 0)
      | none => (([], []), 4)
    | _ => (([], []), 4)

theorem splitR_zero {s : By} (h : (splitR s).2 = 0) : s = 78 :: (Lib.itoa ((splitR s).1.1.length : Int) ++ 58 :: ((splitR s).1.1 ++ (splitR s).1.2)) := by
  unfold splitR at h ⊢
  cases hc : cutB 58 s with
  | none => rw [hc] at h; cases h
  | some p =>
    obtain ⟨p1, p2⟩ := p
    rw [hc] at h
    obtain ⟨-, h2, -⟩ := cutB_some hc
    simp only at h h2 ⊢
    split at h
    · rename_i w
      cases hn : numB w with
      | none => rw [hn] at h; cases h
      | some n =>
        rw [hn] at h
        simp only at h ⊢
        split at h
        · cases h
        · rename_i hl
          rw [if_neg hl]
          simp only
          rw [List.take_append_drop, List.length_take, Nat.min_eq_left (by omega), ← (numB_some hn).1]
          exact h2
    · cases h

theorem splitR_node {a b : By} (h : a.length < 9223372036854775808) : splitR (78 :: (Lib.itoa (a.length : Int) ++ 58 :: (a ++ b))) = ((a, b), 0) := by
  have hc : cutB 58 (78 :: (Lib.itoa (a.length : Int) ++ 58 :: (a ++ b))) = some (78 :: Lib.itoa (a.length : Int), a ++ b) := by
    rw [← List.cons_append]
    refine cutB_mk _ fun hm => ?_
    rcases List.mem_cons.1 hm with e | hm
    · cases e
    · exact no_byte (by decide) _ hm
  unfold splitR
  rw [hc]
  simp only
  rw [numB_itoa h]
  simp only
  rw [if_neg (by simp), List.take_left', List.drop_left'] <;> rfl

/-! Heads as texts. -/

def printR (h : Hd) : By × Int := if checkH h ≠ 0 then ([], checkH h) else
  (Lib.itoa h.n ++ 32 :: (Lib.itoa (h.log.length : Int) ++ 32 :: (Lib.itoa (h.mp.length : Int) ++ 32 :: (h.log ++ h.mp))), 0)

/-- A number, and what stands behind the blank. -/
def fieldB (s : By) : Option (Nat × By) :=
  match cutB 32 s with
  | none => none
  | some p => match numB p.1 with
    | some n => some (n, p.2)
    | none => none

def lastH (a b c : Nat) (s : By) : Hd × Int :=
  if s.length < b ∨ c ≠ s.length - b then (hd0, 1) else if checkH ⟨a, s.take b, s.drop b⟩ ≠ 0 then (hd0, checkH ⟨a, s.take b, s.drop b⟩) else (⟨a, s.take b, s.drop b⟩, 0)

def parseR (s : By) : Hd × Int :=
  match fieldB s with
  | none => (hd0, 1)
  | some (a, s1) => match fieldB s1 with
    | none => (hd0, 1)
    | some (b, s2) => match fieldB s2 with
      | none => (hd0, 1)
      | some (c, s3) => lastH a b c s3

theorem fieldB_some {s : By} {n : Nat} {r : By} (h : fieldB s = some (n, r)) : s = Lib.itoa (n : Int) ++ 32 :: r := by
  unfold fieldB at h
  split at h
  · cases h
  · rename_i p hp
    split at h
    · rename_i m hm
      injection h with h
      injection h with h1 h2
      obtain ⟨_, h3, _⟩ := cutB_some hp
      rw [h3, (numB_some hm).1, h1, h2]
    · cases h

theorem fieldB_mk {n : Nat} (hn : n < 9223372036854775808) (r : By) : fieldB (Lib.itoa (n : Int) ++ 32 :: r) = some (n, r) := by
  unfold fieldB
  rw [cutB_mk r (no_byte (by decide) n)]
  simp only
  rw [numB_itoa hn]

theorem parse_print {h : Hd} (hc : checkH h = 0) : parseR (printR h).1 = (h, 0) := by
  obtain ⟨n, log, mp⟩ := h
  have h1 : 0 ≤ n ∧ n ≤ 24 ∧ log.length ≤ 20000 ∧ mp.length ≤ 20000 := by
    unfold checkH at hc
    split at hc
    · cases hc
    · split at hc
      · cases hc
      · simp only at *; omega
  obtain ⟨k, rfl⟩ : ∃ k : Nat, n = k := ⟨n.toNat, by omega⟩
  unfold printR
  rw [if_neg (by simpa using hc)]
  simp only
  unfold parseR
  rw [fieldB_mk (by omega)]
  simp only
  rw [fieldB_mk (by omega)]
  simp only
  rw [fieldB_mk (by omega)]
  simp only
  unfold lastH
  rw [if_neg (by simp), List.take_left' rfl, List.drop_left' rfl, if_neg (by simpa using hc)]

theorem print_parse {s : By} (h : (parseR s).2 = 0) : checkH (parseR s).1 = 0 ∧ printR (parseR s).1 = (s, 0) := by
  unfold parseR at h ⊢
  cases h1 : fieldB s with
  | none => rw [h1] at h; cases h
  | some p =>
    obtain ⟨a, s1⟩ := p
    rw [h1] at h
    simp only at h ⊢
    cases h2 : fieldB s1 with
    | none => rw [h2] at h; cases h
    | some p =>
      obtain ⟨b, s2⟩ := p
      rw [h2] at h
      simp only at h ⊢
      cases h3 : fieldB s2 with
      | none => rw [h3] at h; cases h
      | some p =>
        obtain ⟨c, s3⟩ := p
        rw [h3] at h
        simp only at h ⊢
        unfold lastH at h ⊢
        split at h
        · cases h
        · rename_i h4
          rw [if_neg h4]
          split at h
          · rename_i h5; exact absurd h h5
          · rename_i h5
            rw [if_neg h5]
            have h6 : checkH ⟨a, s3.take b, s3.drop b⟩ = 0 := by simpa using h5
            refine ⟨h6, ?_⟩
            unfold printR
            rw [if_neg h5]
            simp only
            rw [List.take_append_drop, List.length_take, List.length_drop, Nat.min_eq_left (by omega), show s3.length - b = c by omega, ← fieldB_some h3, ← fieldB_some h2, ← fieldB_some h1]

theorem printR_inj {h g : Hd} (hh : checkH h = 0) (hg : checkH g = 0) : (printR h).1 = (printR g).1 ↔ h = g := by
  constructor
  · intro e
    have h1 := parse_print hh
    rw [e, parse_print hg] at h1
    exact ((Prod.mk.injEq ..).mp h1).1.symm
  · rintro rfl; rfl

/-! What SplitN makes of a text. -/
def piecesB : Nat → By → List By
  | 0, s => [s]
  | k + 1, s => match cutB 32 s with
    | some p => p.1 :: piecesB k p.2
    | none => [s]

theorem piecesB_len : ∀ (n k : Nat), k ≤ n → ∀ s : By, s.length ≤ k → piecesB k s = piecesB s.length s
  | _, 0, _, s, h => by
    have : s = [] := List.eq_nil_of_length_eq_zero (by omega)
    rw [this]; rfl
  | 0, k + 1, hk, _, _ => by omega
  | n + 1, k + 1, hk, s, h => by
    cases s with
    | nil => simp [piecesB, cutB]
    | cons x r =>
      simp only [List.length_cons] at h ⊢
      unfold piecesB
      cases hc : cutB 32 (x :: r) with
      | none => rfl
      | some p =>
        simp only
        have h1 := (cutB_some hc).2.1
        have h2 : p.2.length ≤ r.length := by
          have := congrArg List.length h1
          simp only [List.length_cons, List.length_append] at this
          omega
        rw [piecesB_len n k (by omega) p.2 (by omega), piecesB_len n r.length (by omega) p.2 h2]

theorem piecesB_min (k : Nat) (s : By) : piecesB k s = piecesB (min k s.length) s := by
  rcases Nat.le_total s.length k with h | h
  · rw [Nat.min_eq_right h, piecesB_len k k (Nat.le_refl _) s h]
  · rw [Nat.min_eq_left h]
end Go.Gs

namespace Go.Ab
open Go.Proofs Go.Gs Go.RowKit
variable {G0 : Nat → Option Obj}

/-- What the two variables of errors hold. -/
def GlobE (G0 : Nat → Option Obj) : Prop := ∀ w : World, (∀ b, b < nG → w.heap[b]? = G0 b) →
  (∃ tp p, w.var? Tryd.prog "strconv.ErrSyntax" = some #[.iface tp p]) ∧ ∃ tp p, w.var? Tryd.prog "strconv.ErrRange" = some #[.iface tp p]

theorem good_libB {P : Program} {nG : Nat} {G0 : Nat → Option Obj} {f : FuncId} {args : List AV} {vals : List Value} {r : AV} (hb : hasB P f = true)
    (hargs : ∀ (K : KM) (S : Stb) (w : World) (us : List Value), VRs K S w args us → us = vals)
    (h : ∀ w : World, (∀ b, b < nG → w.heap[b]? = G0 b) → Calls P f vals.toArray w fun e w' => ∃ v, e = .returned v ∧ (∀ (K : KM) (S : Stb), VR K S w' r v) ∧ Below w.heap.size w w') : Good P nG G0 f args [] r [] := by
  have hb' := hb
  unfold hasB at hb'
  split at hb'
  · rename_i fn hf
    simp only [Bool.and_eq_true, Bool.not_eq_true'] at hb'
    refine ⟨⟨fn, hf, hb'.1, hb'.2⟩, fun w K S us hrel hus => ?_⟩
    rw [hargs K S w us hus]
    refine (h w hrel.fix).mono fun e w' ⟨v, he, hv, hw⟩ => ?_
    obtain ⟨g1, g2⟩ := hrel.ext (n0 := 0) (S' := fun _ _ => False) (w' := w') hw.os hw.tape hw.output hw.size (fun b hb => hw.block b hb) (fun b off hs => hs.elim)
    exact ⟨v, K, _, he, g1, hv _ _, g2⟩
  · cases hb'

theorem arg_s {K : KM} {S : Stb} {w : World} {s : By} {us : List Value} (h : VRs K S w [.str s] us) : us = [.string ⟨s.toArray⟩] := by
  obtain ⟨hl, hv⟩ := h
  match us, hl with
  | [u], _ => rw [VR_str (hv 0 _ u rfl rfl)]

theorem arg_ss {K : KM} {S : Stb} {w : World} {s t : By} {us : List Value} (h : VRs K S w [.str s, .str t] us) : us = [.string ⟨s.toArray⟩, .string ⟨t.toArray⟩] := by
  obtain ⟨hl, hv⟩ := h
  match us, hl with
  | [u, v], _ => rw [VR_str (hv 0 _ u rfl rfl), VR_str (hv 1 _ v rfl rfl)]

theorem arg_si {K : KM} {S : Stb} {w : World} {s : By} {k : IntKind} {n : Int} {us : List Value} (h : VRs K S w [.str s, .int k n] us) : us = [.string ⟨s.toArray⟩, .int k n] := by
  obtain ⟨hl, hv⟩ := h
  match us, hl with
  | [u, v], _ => rw [VR_str (hv 0 _ u rfl rfl), VR_int (hv 1 _ v rfl rfl)]

theorem arg_ii {K : KM} {S : Stb} {w : World} {k l : IntKind} {m n : Int} {us : List Value} (h : VRs K S w [.int k m, .int l n] us) : us = [.int k m, .int l n] := by
  obtain ⟨hl, hv⟩ := h
  match us, hl with
  | [u, v], _ => rw [VR_int (hv 0 _ u rfl rfl), VR_int (hv 1 _ v rfl rfl)]

theorem arg_sii {K : KM} {S : Stb} {w : World} {s : By} {k l : IntKind} {m n : Int} {us : List Value} (h : VRs K S w [.str s, .int k m, .int l n] us) : us = [.string ⟨s.toArray⟩, .int k m, .int l n] := by
  obtain ⟨hl, hv⟩ := h
  match us, hl with
  | [u, v, x], _ => rw [VR_str (hv 0 _ u rfl rfl), VR_int (hv 1 _ v rfl rfl), VR_int (hv 2 _ x rfl rfl)]

theorem PR.vra {K : KM} {S : Stb} {w : World} {u : Value} {y : AV} (h : PR S w y u) : VRa K S w y u := by
  cases h <;> simp only [VRa] <;> refine PR.vrc ?_ <;> constructor <;> assumption

theorem vr_two {K : KM} {S : Stb} {w : World} {a b : AV} {u v : Value} (ha : PR S w a u) (hb : PR S w b v) : VR K S w (.tup [a, b]) (.tuple #[u, v]) := by
  refine ⟨#[u, v], rfl, rfl, fun j y x hy hx => ?_⟩
  match j with
  | 0 => cases hy; cases hx; exact ha.vra
  | 1 => cases hy; cases hx; exact hb.vra
  | j + 2 => simp at hy

theorem good_IndexByte (s : By) : Good PG nG G0 f_strings_IndexByte [.str s, .int .u8 58] [] (.int .i64 (Lib.indexByte s 58)) [] :=
  good_libB (vals := [.string ⟨s.toArray⟩, .int .u8 58]) (by kernel_rfl) (fun K S w us hus => arg_si hus) fun w _ => (Tryd.strings_IndexByte ⟨s.toArray⟩ 58 w).mono fun e w' ⟨he, hw⟩ => ⟨_, he, fun _ _ => by
    simpa using (PR.int .i64 (Lib.indexByte s 58)).vr, hw ▸ Below.refl _ _⟩

theorem good_Index1 (s : By) (c : UInt8) : Good PG nG G0 f_strings_Index [.str s, .str [c]] [] (.int .i64 (Lib.indexByte s c)) [] :=
  good_libB (vals := [.string ⟨s.toArray⟩, .string ⟨#[c]⟩]) (by kernel_rfl) (fun K S w us hus => arg_ss hus) fun w _ => (Tryd.strings_Index_one ⟨s.toArray⟩ c w).mono fun e w' ⟨he, hw⟩ => ⟨_, he, fun _ _ => by
    simpa using (PR.int .i64 (Lib.indexByte s c)).vr, hw ▸ Below.refl _ _⟩

theorem good_liteIndex1 (s : By) (c : UInt8) : Good PG nG G0 f_internal_stringslite_Index [.str s, .str [c]] [] (.int .i64 (Lib.indexByte s c)) [] :=
  good_libB (vals := [.string ⟨s.toArray⟩, .string ⟨#[c]⟩]) (by kernel_rfl) (fun K S w us hus => arg_ss hus) fun w _ => (Tryd.stringslite_Index_one ⟨s.toArray⟩ c w).mono fun e w' ⟨he, hw⟩ => ⟨_, he, fun _ _ => by
    simpa using (PR.int .i64 (Lib.indexByte s c)).vr, hw ▸ Below.refl _ _⟩

theorem good_FormatInt (hG : GlobOk G0) (n : Int) (h0 : -9223372036854775808 ≤ n) (h1 : n ≤ 9223372036854775807) : Good PG nG G0 f_strconv_FormatInt [.int .i64 n, .int .i64 10] [] (.str (Lib.itoa n)) [] :=
  good_lib (vals := [.int .i64 n, .int .i64 10]) (v := .string ⟨(Lib.itoa n).toArray⟩) (by kernel_rfl) (fun K S w us hus => arg_ii hus) (fun K S w => (PR.str _).vr) fun w hw => Tryd.strconv_FormatInt_10 n h0 h1 w (hG w hw)

/-- What is read of a numeral, and whether that is an error. -/
def atoiV (s : By) : Int := match Lib.atoiAll s with
  | .ok v => v
  | .syntax => 0
  | .range => Lib.atoiSat s
def atoiE (s : By) : Bool := match Lib.atoiAll s with
  | .ok _ => false
  | _ => true
def errV (b : Bool) : AV := match b with
  | true => .iface
  | false => .nilIface

theorem below_of_bytes {w w' : World} {e : TypeId} (h : w' = w ∨ ∃ t, w' = Lib.bytesWorld w e t) : Below w.heap.size w w' := by
  rcases h with rfl | ⟨t, rfl⟩
  · exact Below.refl _ _
  · exact Lib.bytesWorld_below _ _ _

theorem good_Atoi (hE : GlobE G0) (s : By) (hs : s.length ≤ 140737488351232) : Good PG nG G0 f_strconv_Atoi [.str s] [] (.tup [.int .i64 (atoiV s), errV (atoiE s)]) [] := by
  have hsz : (⟨s.toArray⟩ : ByteArray).size = s.length := by simp [ByteArray.size]
  refine good_libB (vals := [.string ⟨s.toArray⟩]) (by kernel_rfl) (fun K S w us hus => arg_s hus) fun w hw => ?_
  obtain ⟨⟨t1, p1, e1⟩, t2, p2, e2⟩ := hE w hw
  unfold atoiV atoiE
  cases h : Lib.atoiAll s with
  | ok v => exact (Tryd.strconv_Atoi_ok ⟨s.toArray⟩ (by omega) v h w).mono fun e w' ⟨he, hw⟩ => ⟨_, he, fun _ _ => vr_two (.int .i64 v) .nilIface, below_of_bytes hw⟩
  | «syntax» => exact (Tryd.strconv_Atoi_syntax_var ⟨s.toArray⟩ (by omega) h t1 p1 w e1).mono fun e w' ⟨N, he, _, _, hw⟩ => ⟨_, he, fun _ _ => vr_two (.int .i64 0) (.iface _ _), hw⟩
  | range => exact (Tryd.strconv_Atoi_range_var ⟨s.toArray⟩ (by omega) h t2 p2 w e2).mono fun e w' ⟨N, he, _, _, hw⟩ => ⟨_, he, fun _ _ => vr_two (.int .i64 _) (.iface _ _), hw⟩

theorem good_ParseInt (hE : GlobE G0) (s : By) (hs : s.length ≤ 140737488351232) : Good PG nG G0 f_strconv_ParseInt [.str s, .int .i64 10, .int .i64 64] [] (.tup [.int .i64 (atoiV s), errV (atoiE s)]) [] := by
  have hsz : (⟨s.toArray⟩ : ByteArray).size = s.length := by simp [ByteArray.size]
  refine good_libB (vals := [.string ⟨s.toArray⟩, .int .i64 10, .int .i64 64]) (by kernel_rfl) (fun K S w us hus => arg_sii hus) fun w hw => ?_
  obtain ⟨⟨t1, p1, e1⟩, t2, p2, e2⟩ := hE w hw
  unfold atoiV atoiE
  have hp := Lib.parseIntB_64 s
  cases h : Lib.atoiAll s with
  | ok v => exact (Tryd.strconv_ParseInt_10_at64_ok ⟨s.toArray⟩ (by omega) v (hp.trans h) w).mono fun e w' ⟨he, hw⟩ => ⟨_, he, fun _ _ => vr_two (.int .i64 v) .nilIface, below_of_bytes hw⟩
  | «syntax» => exact (Tryd.strconv_ParseInt_10_at64_syntax_var ⟨s.toArray⟩ (by omega) (hp.trans h) t1 p1 w e1).mono fun e w' ⟨N, he, _, _, hw⟩ => ⟨_, he, fun _ _ => vr_two (.int .i64 0) (.iface _ _), hw⟩
  | range =>
    refine (Tryd.strconv_ParseInt_10_at64_range_var ⟨s.toArray⟩ (by omega) (hp.trans h) t2 p2 w e2).mono fun e w' h => ?_
    · obtain ⟨N, he, _, _, hw⟩ := h
      rw [Lib.intSat_64] at he
      exact ⟨_, he, fun _ _ => vr_two (.int .i64 _) (.iface _ _), hw⟩

/-- A text cut at a byte, told whole. -/
def cutR (c : UInt8) (s : By) : (By × By) × Bool := match cutB c s with
  | some p => (p, true)
  | none => ((s, []), false)

theorem good_Cut (s : By) (c : UInt8) (hs : s.length ≤ 140737488351232) : Good PG nG G0 f_strings_Cut [.str s, .str [c]] [] (.tup [.str (cutR c s).1.1, .str (cutR c s).1.2, .bool (cutR c s).2]) [] := by
  have h1 : Good PG nG G0 f_internal_stringslite_Cut [.str s, .str [c]] [] (.tup [.str (cutR c s).1.1, .str (cutR c s).1.2, .bool (cutR c s).2]) [] := by
    refine good_of_run prOk (by kernel_rfl) (internal_stringslite_Cut_run s [c] G0 _ ⟨_, good_liteIndex1 s c, ?_⟩)
    unfold cutR
    cases hc : cutB c s with
    | none =>
      obtain ⟨hi, _⟩ := cutB_none hc
      rw [hi, decide_eq_false (by omega), ifF]
      exact ⟨rfl, rfl⟩
    | some p =>
      obtain ⟨hi, he, _⟩ := cutB_some hc
      have hl : s.length = p.1.length + (p.2.length + 1) := by rw [he]; simp
      rw [hi, decide_eq_true (by omega), ifT, show (([c] : By).length : Int) = 1 from rfl, wrap64 (by omega) (by omega)]
      refine ⟨by decide, by omega, by omega, by omega, by omega, Int.le_refl _, ?_, rfl⟩
      rw [Int.toNat_natCast, Int.toNat_natCast, show ((p.1.length : Int) + 1).toNat = p.1.length + 1 by omega, List.take_length, List.drop_zero]
      have t1 : s.take p.1.length = p.1 := by rw [he, List.take_left' rfl]
      have t2 : s.drop (p.1.length + 1) = p.2 := by rw [he, ← List.drop_drop, List.drop_left' rfl]; rfl
      rw [t1, t2]
  exact good_of_run prOk (by kernel_rfl) (strings_Cut_run s [c] G0 _ ⟨_, _, _, h1, rfl, rfl⟩)

theorem setR_uno (y : List AV) (a : AV) (h : y.length = 1) : setR y 0 [a] = [a] := by
  match y, h with
  | [x], _ => rfl

/-- Split at blanks, four pieces at most. -/
theorem good_genSplit (s : By) (hs : s.length ≤ 140737488351232) : Good PG nG G0 f_strings_genSplit [.str s, .str [32], .int .i64 0, .int .i64 4] [] (.sl 1 false none ((piecesB 3 s).map S1)) [] := by
  suffices main : ∀ R : AV → List (Option Blk) → Prop, R (.sl 1 false none ((piecesB 3 s).map S1)) [] → Hold (runF PG ty nG G0 an_strings_genSplit_4 f_strings_genSplit [.str s, .str [32], .int .i64 0, .int .i64 4] [] R) from
    good_of_run prOk (by kernel_rfl) (main _ ⟨rfl, rfl⟩)
  intro R hR
  refine strings_genSplit_4_run s G0 R ?_
  rw [piecesB_min] at hR
  rw [wrap64 (show -9223372036854775808 ≤ (s.length : Int) + 1 by omega) (by omega)]
  obtain ⟨N, hN, hNe⟩ : ∃ N : Nat, (if (s.length : Int) + 1 < 4 then (s.length : Int) + 1 else 4) = ((N + 1 : Nat) : Int) ∧ N = min 3 s.length := by
    by_cases h : (s.length : Int) + 1 < 4
    · exact ⟨s.length, by rw [if_pos h]; rfl, by omega⟩
    · exact ⟨3, by rw [if_neg h]; rfl, by omega⟩
  have hN3 : N ≤ 3 := by omega
  rw [hN]
  rw [← hNe] at hR
  rw [wrap64 (show -9223372036854775808 ≤ ((N + 1 : Nat) : Int) - 1 by omega) (by omega), Int.toNat_natCast, show ((N + 1 : Nat) : Int) - 1 = (N : Int) by omega]
  refine ⟨rfl, by omega, by omega, by omega, ?_⟩
  clear hN
  generalize hL : piecesB N s = L at *
  have key : ∀ (k i : Nat) (t : By) (done : List By) (xs : List (List AV)), i + k = N → t.length ≤ 140737488351232 → xs.length = N + 1 → xs.take i = done.map S1 → done.length = i → (∀ (j : Nat) (y : List AV), xs[j]? = some y → y.length = 1) → done ++ piecesB k t = L →
      Does PG nG G0 (fnOf PG f_strings_genSplit) 0 (lp PG f_strings_genSplit 0) (mkT 66 [(0, .str t), (1, .str [32]), (2, .int .i64 0), (3, .int .i64 N), (9, .rsl 1 0 0 (N + 1)), (10, .int .i64 (i : Int))]) [some (.arr 1 xs)] R := by
    intro k
    have fin : ∀ (i : Nat) (t : By) (done : List By) (xs : List (List AV)), i ≤ N → xs.length = N + 1 → xs.take i = done.map S1 → done.length = i → (∀ (j : Nat) (y : List AV), xs[j]? = some y → y.length = 1) → done ++ [t] = L →
        (0 : Int) ≤ i ∧ (i : Int) < ((N + 1 : Nat) : Int) ∧ (0 : Int) ≤ 0 ∧ 0 ≤ IntKind.i64.wrap ((i : Int) + 1) ∧ IntKind.i64.wrap ((i : Int) + 1) ≤ (((List.take (N + 1) (List.drop 0 (xs.set (0 + Int.toNat i) (setR (xs.getD (0 + Int.toNat i) []) 0 [.str t])))).length : Nat) : Int) ∧
          R (.sl 1 false none (List.drop 0 (List.take (Int.toNat (IntKind.i64.wrap ((i : Int) + 1))) (List.take (N + 1) (List.drop 0 (xs.set (0 + Int.toNat i) (setR (xs.getD (0 + Int.toNat i) []) 0 [.str t]))))))) [] := by
      intro i t done xs hi hx hd hdl h1 he
      have hix : i < xs.length := by omega
      have e1 : setR (xs.getD i []) 0 [AV.str t] = [.str t] := by
        rw [List.getD_eq_getElem?_getD, List.getElem?_eq_getElem hix]
        exact setR_uno _ _ (h1 i _ (List.getElem?_eq_getElem hix))
      rw [wrap64 (by omega) (by omega), Int.toNat_natCast, Nat.zero_add, show ((i : Int) + 1).toNat = i + 1 by omega, e1, List.drop_zero, List.drop_zero, List.take_of_length_le (show (xs.set i [AV.str t]).length ≤ N + 1 by rw [List.length_set]; omega)]
      refine ⟨by omega, by omega, by decide, by omega, by rw [List.length_set]; omega, ?_⟩
      have e2 : (xs.set i [AV.str t]).take (i + 1) = (done ++ [t]).map S1 := by
        rw [List.take_add_one, List.take_set_of_le (Nat.le_refl i), hd, List.getElem?_set_self hix]
        simp [S1]
      rw [e2, he]
      exact hR
    induction k with
    | zero =>
      intro i t done xs hi ht hx hd hdl h1 he
      refine does_of_run prOk (strings_genSplit_4_l0_run G0 _ _ _ _ _ _ _ _ R ?_)
      rw [decide_eq_false (by omega), ifF]
      exact fin i t done xs (by omega) hx hd hdl h1 he
    | succ k ih =>
      intro i t done xs hi ht hx hd hdl h1 he
      refine does_of_run prOk (strings_genSplit_4_l0_run G0 _ _ _ _ _ _ _ _ R ?_)
      rw [decide_eq_true (by omega), ifT]
      refine ⟨_, good_Index1 t 32, ?_⟩
      unfold piecesB at he
      cases hc : cutB 32 t with
      | none =>
        rw [hc] at he
        obtain ⟨hi1, _⟩ := cutB_none hc
        rw [hi1, decide_eq_true (by decide), ifT]
        exact fin i t done xs (by omega) hx hd hdl h1 he
      | some p =>
        rw [hc] at he
        obtain ⟨hi1, het, _⟩ := cutB_some hc
        have hl : t.length = p.1.length + (p.2.length + 1) := by rw [het]; simp
        rw [hi1, decide_eq_false (by omega), ifF, Int.add_zero, wrap64 (by omega) (by omega), show (([32] : By).length : Int) = 1 from rfl, wrap64 (by omega) (by omega), wrap64 (by omega) (by omega), Int.toNat_natCast, Int.toNat_natCast, Int.toNat_natCast, Nat.zero_add, show ((p.1.length : Int) + 1).toNat = p.1.length + 1 by omega, List.take_length, List.drop_zero]
        have t1 : t.take p.1.length = p.1 := by rw [het, List.take_left' rfl]
        have t2 : t.drop (p.1.length + 1) = p.2 := by rw [het, ← List.drop_drop, List.drop_left' rfl]; rfl
        have hix : i < xs.length := by omega
        have e1 : setR (xs.getD i []) 0 [AV.str p.1] = [.str p.1] := by
          rw [List.getD_eq_getElem?_getD, List.getElem?_eq_getElem hix]
          exact setR_uno _ _ (h1 i _ (List.getElem?_eq_getElem hix))
        rw [t1, t2, e1]
        refine ⟨by decide, by omega, by omega, by omega, by omega, by omega, by omega, Int.le_refl _, ih (i + 1) p.2 (done ++ [p.1]) (xs.set i [.str p.1]) (by omega) (by omega) (by rw [List.length_set]; exact hx) ?_ (by simp [hdl]) ?_ (by rw [List.append_assoc]; exact he)⟩
        · rw [List.take_add_one, List.take_set_of_le (Nat.le_refl i), hd, List.getElem?_set_self hix]
          simp [S1]
        · intro j y hy
          rw [List.getElem?_set] at hy
          split at hy
          · rename_i e
            injection hy with hy
            rw [← hy]; rfl
          · exact h1 j y hy
  refine key N 0 s [] _ (by omega) hs (List.length_replicate ..) rfl rfl (fun j y hy => ?_) hL
  have := List.mem_replicate.1 (List.mem_of_getElem? hy)
  rw [this.2]; rfl

theorem good_SplitN (s : By) (hs : s.length ≤ 140737488351232) : Good PG nG G0 f_strings_SplitN [.str s, .str [32], .int .i64 4] [] (.sl 1 false none ((piecesB 3 s).map S1)) [] :=
  good_of_run prOk (by kernel_rfl) (strings_SplitN_run s [32] 4 G0 _ ⟨_, _, good_genSplit s hs, rfl, rfl⟩)
end Go.Ab

namespace Go.Ab
open Go.Proofs
set_option maxRecDepth 100000



end Go.Ab

namespace Go.Ab
open Go.Proofs
set_option maxRecDepth 100000



end Go.Ab

namespace Go.Ab
open Go.Proofs Go.Gs
variable {G0 : Nat → Option Obj}


/-- The path of a key, or what is wrong. -/
def pathM (m : Mp) (key : Int) : List By × Int := if checkM m ≠ 0 then ([], checkM m) else if key < 0 ∨ 16 ≤ key then ([], 5) else (triePath (fM m) key.toNat 4, 0)

end Go.Ab

namespace Go.Ab
open Go.Proofs Go.Gs
variable {G0 : Nat → Option Obj}

end Go.Ab

namespace Go.Ab
open Go.Proofs Go.Gs
variable {G0 : Nat → Option Obj}

end Go.Ab

namespace Go.Ab
open Go.Proofs Go.Gs
variable {G0 : Nat → Option Obj}

end Go.Ab

namespace Go.Ab
open Go.Proofs
set_option maxRecDepth 100000



end Go.Ab

namespace Go.Gs

/-- The last value of a key. -/
def lastG : Bk → Int → Option By
  | [], _ => none
  | e :: r, k => match lastG r k with
    | some v => some v
    | none => if k = e.1 then some e.2 else none

/-- Values, told from behind. -/
def valsRev : Bk → Mp
  | [] => []
  | e :: r => if (mGet (valsRev r) e.1).isSome then valsRev r else mPut (valsRev r) e.1 e.2

theorem valsRev_get (b : Bk) (k : Int) : mGet (valsRev b) k = lastG b k := by
  induction b with
  | nil => rfl
  | cons e r ih =>
    unfold valsRev lastG
    split
    · rename_i h
      rw [ih]
      cases hl : lastG r k with
      | some v => rfl
      | none =>
        simp only
        rw [if_neg]
        rintro rfl
        rw [ih, hl] at h
        cases h
    · rename_i h
      rw [mGet_put, ih]
      split
      · rename_i h1
        subst h1
        have : lastG r e.1 = none := by
          rw [← ih]; simpa using h
        rw [this]
      · cases lastG r k <;> rfl

theorem foldl_get (b : Bk) : ∀ (m : Mp) (k : Int), mGet (b.foldl (fun m e => mPut m e.1 e.2) m) k = match lastG b k with | some v => some v | none => mGet m k := by
  induction b with
  | nil => intro m k; rfl
  | cons e r ih =>
    intro m k
    rw [List.foldl_cons, ih, mGet_put]
    rw [lastG]
    cases lastG r k with
    | some v => rfl
    | none =>
      simp only
      split <;> rfl

theorem valsOf_get (b : Bk) (k : Int) : mGet (valsOf b) k = lastG b k := by
  unfold valsOf
  rw [foldl_get]
  cases lastG b k <;> rfl

theorem valsRev_nodup (b : Bk) : ((valsRev b).map (·.1)).Nodup := by
  induction b with
  | nil => simp [valsRev]
  | cons e r ih =>
    unfold valsRev
    split
    · exact ih
    · exact mPut_nodup ih _ _

theorem valsRev_fM (b : Bk) : fM (valsRev b) = fM (valsOf b) := by
  funext k
  unfold fM
  rw [valsRev_get, valsOf_get]

theorem vals_eq (b : Bk) : mEq (valsOf b) (valsRev b) = true := (mEq_iff (valsOf_nodup b) (valsRev_nodup b)).2 fun k => by rw [valsRev_get, valsOf_get]

theorem valsRev_mem {b : Bk} {p : Int × By} (h : p ∈ valsRev b) : p ∈ b := by
  induction b with
  | nil => cases h
  | cons e r ih =>
    unfold valsRev at h
    split at h
    · exact List.mem_cons_of_mem _ (ih h)
    · rcases mPut_mem h with rfl | h
      · exact List.mem_cons_self
      · exact List.mem_cons_of_mem _ (ih h)

theorem valsRev_check {b : Bk} (h : checkB b = 0) : checkM (valsRev b) = 0 := checkM_mk fun p hp => (checkB_ok h).2 p (valsRev_mem hp)

theorem decDigits_pow : ∀ (k u : Nat), u < 10 ^ (k + 1) → (Lib.decDigits u).length ≤ k + 1 := by
  intro k
  induction k with
  | zero =>
    intro u h
    rw [Lib.decDigits, dif_pos (by simpa using h)]
    simp
  | succ k ih =>
    intro u h
    rw [Lib.decDigits]
    split
    · simp
    · have := ih (u / 10) (by rw [Nat.pow_succ] at h; omega)
      simp only [List.length_append, List.length_cons, List.length_nil]; omega

theorem itoa_len20 {n : Int} (h0 : -9223372036854775808 ≤ n) (h1 : n ≤ 9223372036854775807) : (Lib.itoa n).length ≤ 20 := by
  have := decDigits_pow 18 n.natAbs (by omega)
  have := decDigits_pow 18 n.toNat (by omega)
  unfold Lib.itoa
  split
  · simp only [List.length_cons]; omega
  · omega

theorem loop_down {D : Nat → Prop} (n : Nat) (hend : D n) (hstep : ∀ i, i < n → D (i + 1) → D i) : D 0 := by
  have key : ∀ m i, n - i ≤ m → i ≤ n → D i := by
    intro m
    induction m with
    | zero => intro i h1 h2; obtain rfl : i = n := by omega
              exact hend
    | succ m ih =>
      intro i h1 h2
      rcases Nat.lt_or_ge i n with h | h
      · exact hstep i h (ih (i + 1) (by omega) (by omega))
      · obtain rfl : i = n := by omega
        exact hend
  exact key n 0 (by omega) (by omega)

theorem firstBad_drop {b : Bk} {i : Nat} (h : i < b.length) : firstBad (b.drop i) = if badE b[i] ≠ 0 then badE b[i] else firstBad (b.drop (i + 1)) := by
  rw [List.drop_eq_getElem_cons h]
  rfl
end Go.Gs

namespace Go.Ab
open Go.Proofs Go.Gs
variable {G0 : Nat → Option Obj}

end Go.Ab

namespace Go.Ab
open Go.Proofs Go.Gs
variable {G0 : Nat → Option Obj}

end Go.Ab

namespace Go.Ab
open Go.Proofs Go.Gs
variable {G0 : Nat → Option Obj}

theorem ifK_ne0 {n : Int} {A B : Prop} (h : n ≠ 0 → A) (h0 : n = 0 → B) : ifK (n != 0) A B := by
  rw [ifK_iff]
  exact ⟨fun e => h (by simpa using e), fun e => h0 (by simpa using e)⟩

end Go.Ab

namespace Go.Ab
open Go.Proofs
set_option maxRecDepth 100000



end Go.Ab

namespace Go.Ab
open Go.Proofs Go.Gs
variable {G0 : Nat → Option Obj}

theorem eqAll_hd (h k : Hd) : eqAll [.int .i64 h.n, .str h.log, .str h.mp] [.int .i64 k.n, .str k.log, .str k.mp] = decide (h = k) := by
  obtain ⟨a, b, c⟩ := h
  obtain ⟨d, e, f⟩ := k
  by_cases h1 : a = d <;> by_cases h2 : b = e <;> by_cases h3 : c = f <;> simp [eqAll, eqC, h1, h2, h3]

end Go.Ab

namespace Go.Ab
open Go.Proofs
set_option maxRecDepth 100000

def an_note_Check : FAnn := ⟨[], [], none, []⟩
def an_greatsealref_CheckHead : FAnn := ⟨[], [], none, []⟩

theorem note_Check_run (h0_0 : Int) (h0_1 : List UInt8) (h0_2 : List UInt8) (G0 : Nat → Option Go.Obj) (R : AV → List (Option Blk) → Prop) (h :
ifK (decide (h0_0 < (0 : Int))) (R (AV.int Go.IntKind.i64 (3 : Int)) [])
  (ifK (decide (h0_0 > (24 : Int))) (R (AV.int Go.IntKind.i64 (3 : Int)) [])
    (ifK (decide ((↑(List.length h0_1) : Int) > (20000 : Int))) (R (AV.int Go.IntKind.i64 (2 : Int)) [])
      (ifK (decide ((↑(List.length h0_2) : Int) > (20000 : Int))) (R (AV.int Go.IntKind.i64 (2 : Int)) []) (R (AV.int Go.IntKind.i64 (0 : Int)) []))))) :
  Hold (runF PG ty nG G0 an_note_Check f_note_Check [AV.agg [AV.int Go.IntKind.i64 h0_0, AV.str h0_1, AV.str h0_2]] [] R) := kshow h (by kernel_rfl)

theorem greatsealref_CheckHead_run (h0_0 : Int) (h0_1 : List UInt8) (h0_2 : List UInt8) (G0 : Nat → Option Go.Obj) (R : AV → List (Option Blk) → Prop) (h :
∃ b0,
  Good PG nG G0 f_greatsealref_in [AV.int Go.IntKind.i64 h0_0, AV.int Go.IntKind.i64 (0 : Int), AV.int Go.IntKind.i64 (24 : Int)] [] (AV.bool b0) [] ∧
    ifK (!b0) (R (AV.int Go.IntKind.i64 (3 : Int)) [])
      (ifK (decide ((if (↑(List.length h0_2) : Int) > (↑(List.length h0_1) : Int) then (↑(List.length h0_2) : Int) else (↑(List.length h0_1) : Int)) > (20000 : Int))) (R (AV.int Go.IntKind.i64 (2 : Int)) [])
        (R (AV.int Go.IntKind.i64 (0 : Int)) []))) :
  Hold (runF PG ty nG G0 an_greatsealref_CheckHead f_greatsealref_CheckHead [AV.agg [AV.int Go.IntKind.i64 h0_0, AV.str h0_1, AV.str h0_2]] [] R) := kshow h (by kernel_rfl)

end Go.Ab

namespace Go.Ab
open Go.Proofs Go.Gs
variable {G0 : Nat → Option Obj}

theorem good_noteCheck (h : Hd) : Good PG nG G0 f_note_Check [.agg [.int .i64 h.n, .str h.log, .str h.mp]] [] (.int .i64 (checkH h)) [] := by
  refine good_of_run prOk (by kernel_rfl) (note_Check_run _ _ _ G0 _ ?_)
  simp only [ifK_iff, decide_eq_true_eq, decide_eq_false_iff_not]
  unfold checkH
  refine ⟨fun h1 => ⟨by rw [if_pos (by omega)], trivial⟩, fun h1 => ⟨fun h2 => ⟨by rw [if_pos (by omega)], trivial⟩, fun h2 => ?_⟩⟩
  rw [if_neg (show ¬ (h.n < 0 ∨ 24 < h.n) by omega)]
  exact ⟨fun h3 => ⟨by rw [if_pos (by omega)], trivial⟩, fun h3 => ⟨fun h4 => ⟨by rw [if_pos (by omega)], trivial⟩, fun h4 => ⟨by rw [if_neg (by omega)], trivial⟩⟩⟩

theorem good_CheckHead (h : Hd) : Good PG nG G0 f_greatsealref_CheckHead [.agg [.int .i64 h.n, .str h.log, .str h.mp]] [] (.int .i64 (checkH h)) [] := by
  refine good_of_run prOk (by kernel_rfl) (greatsealref_CheckHead_run _ _ _ G0 _ ⟨_, good_in _ _ _, ?_⟩)
  simp only [ifK_iff, Bool.not_eq_true', Bool.not_eq_false', decide_eq_true_eq, decide_eq_false_iff_not]
  unfold checkH
  refine ⟨fun h1 => ⟨by rw [if_pos (by omega)], trivial⟩, fun h1 => ?_⟩
  rw [if_neg (show ¬ (h.n < 0 ∨ 24 < h.n) by omega)]
  refine ⟨fun h3 => ⟨by rw [if_pos (by split at h3 <;> omega)], trivial⟩, fun h3 => ⟨by rw [if_neg (by split at h3 <;> omega)], trivial⟩⟩

end Go.Ab

namespace Go.Ab
open Go.Proofs Go.Gs
variable {G0 : Nat → Option Obj}

theorem numB_cases (w : By) : (atoiE w = true ∧ numB w = none) ∨ (atoiE w = false ∧ (-9223372036854775808 ≤ atoiV w ∧ atoiV w ≤ 9223372036854775807) ∧ numB w = if Lib.itoa (atoiV w) = w ∧ 0 ≤ atoiV w then some (atoiV w).toNat else none) := by
  unfold atoiE atoiV numB
  cases h : Lib.atoiAll w with
  | ok v => exact .inr ⟨rfl, Lib.atoiAll_bounds h, rfl⟩
  | «syntax» => exact .inl ⟨rfl, rfl⟩
  | range => exact .inl ⟨rfl, rfl⟩

theorem cutR_some {c : UInt8} {s : By} {p : By × By} (h : cutB c s = some p) : cutR c s = (p, true) := by unfold cutR; rw [h]
theorem cutR_none {c : UInt8} {s : By} (h : cutB c s = none) : cutR c s = ((s, []), false) := by unfold cutR; rw [h]

theorem splitR_some {s : By} {p : By × By} (h : cutB 58 s = some p) : splitR s = (if p.1.head? = some 78 then (match numB (p.1.drop 1) with
    | some n => if p.2.length < n then (([], []), 4) else ((p.2.take n, p.2.drop n), 0)
    | none => (([], []), 4)) else (([], []), 4) : (By × By) × Int) := by
  obtain ⟨a, b⟩ := p
  unfold splitR
  rw [h]
  cases a with
  | nil => rfl
  | cons c w =>
    simp only [List.head?_cons, Option.some.injEq]
    by_cases hc : c = 78
    · subst hc; rw [if_pos rfl]; rfl
    · rw [if_neg hc]
      split
      · rename_i h2; injection h2 with h2 _; exact absurd h2 hc
      · rfl

theorem good_Split (hG : GlobOk G0) (hE : GlobE G0) (s : By) (hs : s.length ≤ 140737488351232) : Good PG nG G0 f_seal_Split [.str s] [] (.tup [.str (splitR s).1.1, .str (splitR s).1.2, .int .i64 (splitR s).2]) [] := by
  suffices main : ∀ R : AV → List (Option Blk) → Prop, R (.tup [.str (splitR s).1.1, .str (splitR s).1.2, .int .i64 (splitR s).2]) [] → Hold (runF PG ty nG G0 an_seal_Split f_seal_Split [.str s] [] R) from
    good_of_run prOk (by kernel_rfl) (main _ ⟨rfl, rfl⟩)
  intro R hR
  refine seal_Split_run s G0 R ⟨_, _, _, good_Cut s 58 hs, ?_⟩
  cases hc : cutB 58 s with
  | none =>
    rw [cutR_none hc, Bool.not_false, ifT]
    unfold splitR at hR
    rw [hc] at hR
    exact hR
  | some p =>
    obtain ⟨a, b⟩ := p
    obtain ⟨_, he, _⟩ := cutB_some hc
    have hl : s.length = a.length + (b.length + 1) := by rw [he]; simp
    rw [cutR_some hc, Bool.not_true, ifF]
    rw [splitR_some hc] at hR
    simp only at hR ⊢
    refine ⟨_, good_HasPrefix a [78], ?_⟩
    rw [hasPre_one]
    by_cases hh : a.head? = some 78
    · rw [if_pos hh] at hR
      rw [hh, beq_self_eq_true, Bool.not_true, ifF, Int.toNat_natCast, List.take_length, Int.toNat_natCast, List.take_length]
      have ha1 : 1 ≤ a.length := by cases a with
        | nil => cases hh
        | cons => simp
      have ga := good_Atoi (G0 := G0) hE (a.drop 1) (by rw [List.length_drop]; omega)
      refine ⟨by decide, by omega, Int.le_refl _, atoiV (a.drop 1), atoiE (a.drop 1), ?_⟩
      rcases numB_cases (a.drop 1) with ⟨h1, h2⟩ | ⟨h1, h2, h3⟩
      · rw [h1] at ga ⊢
        rw [h2] at hR
        exact ⟨ga, hR⟩
      · rw [h1] at ga ⊢
        rw [h3] at hR
        rw [ifF]
        refine ⟨ga, _, good_itoa hG _ h2.1 h2.2, by decide, by omega, Int.le_refl _, ?_⟩
        by_cases h4 : Lib.itoa (atoiV (a.drop 1)) = a.drop 1
        · rw [beq_iff_eq.2 h4, Bool.not_true, ifF]
          by_cases h5 : atoiV (a.drop 1) < 0
          · rw [if_neg (fun h => by omega)] at hR
            rw [decide_eq_true h5, ifT]; exact hR
          · rw [if_pos ⟨h4, by omega⟩] at hR
            simp only at hR
            rw [decide_eq_false h5, ifF]
            by_cases h6 : atoiV (a.drop 1) > b.length
            · rw [if_pos (by omega)] at hR
              rw [decide_eq_true h6, ifT]; exact hR
            · rw [if_neg (by omega)] at hR
              rw [decide_eq_false h6, ifF, List.drop_zero]
              exact ⟨by decide, by omega, by omega, by omega, by omega, Int.le_refl _, hR⟩
        · rw [if_neg (fun h => h4 h.1)] at hR
          rw [beq_eq_false_iff_ne.2 h4, Bool.not_false, ifT]; exact hR
    · rw [if_neg hh] at hR
      rw [beq_eq_false_iff_ne.2 hh, Bool.not_false, ifT]; exact hR

theorem good_SplitOf (hG : GlobOk G0) (hE : GlobE G0) (s : By) (hs : s.length ≤ 140737488351232) : Good PG nG G0 f_greatsealref_SplitOf [.str s] [] (.tup [.str (splitR s).1.1, .str (splitR s).1.2, .int .i64 (splitR s).2]) [] := by
  suffices main : ∀ R : AV → List (Option Blk) → Prop, R (.tup [.str (splitR s).1.1, .str (splitR s).1.2, .int .i64 (splitR s).2]) [] → Hold (runF PG ty nG G0 an_greatsealref_SplitOf f_greatsealref_SplitOf [.str s] [] R) from
    good_of_run prOk (by kernel_rfl) (main _ ⟨rfl, rfl⟩)
  intro R hR
  refine greatsealref_SplitOf_run s G0 R ⟨_, good_IndexByte s, ?_⟩
  cases hc : cutB 58 s with
  | none =>
    rw [(cutB_none hc).1, decide_eq_true (by decide), ifT]
    unfold splitR at hR
    rw [hc] at hR
    exact hR
  | some p =>
    obtain ⟨a, b⟩ := p
    obtain ⟨hi, he, hna⟩ := cutB_some hc
    have hl : s.length = a.length + (b.length + 1) := by rw [he]; simp
    rw [splitR_some hc] at hR
    simp only at hR hi he
    rw [hi, decide_eq_false (by omega), ifF]
    refine ⟨_, good_HasPrefix s [78], ?_⟩
    rw [hasPre_one]
    by_cases hh : a.head? = some 78
    · have hsh : s.head? = some 78 := by
        cases a with
        | nil => cases hh
        | cons x r => rw [he]; simpa using hh
      rw [if_pos hh] at hR
      have ha1 : 1 ≤ a.length := by cases a with
        | nil => cases hh
        | cons => simp
      rw [hsh, beq_self_eq_true, Bool.not_true, ifF, wrap64 (by omega) (by omega), Int.toNat_natCast, Int.toNat_natCast, List.take_length, show ((a.length : Int) + 1).toNat = a.length + 1 by omega]
      have t1 : s.take a.length = a := by rw [he, List.take_left' rfl]
      have t2 : s.drop (a.length + 1) = b := by rw [he, ← List.drop_drop, List.drop_left' rfl]; rfl
      rw [t1, t2, Int.toNat_natCast, List.take_length]
      have ga := good_ParseInt (G0 := G0) hE (a.drop 1) (by rw [List.length_drop]; omega)
      refine ⟨by omega, by omega, Int.le_refl _, by decide, by omega, by omega, atoiV (a.drop 1), atoiE (a.drop 1), ?_⟩
      rcases numB_cases (a.drop 1) with ⟨h1, h2⟩ | ⟨h1, h2, h3⟩
      · rw [h1] at ga ⊢
        rw [h2] at hR
        exact ⟨ga, hR⟩
      · rw [h1] at ga ⊢
        rw [h3] at hR
        rw [ifF]
        refine ⟨ga, _, good_FormatInt hG _ h2.1 h2.2, by decide, by omega, by omega, ?_⟩
        by_cases h4 : Lib.itoa (atoiV (a.drop 1)) = a.drop 1
        · rw [beq_iff_eq.2 h4, Bool.not_true, ifF]
          by_cases h5 : atoiV (a.drop 1) < 0
          · rw [if_neg (fun h => by omega)] at hR
            rw [decide_eq_true h5, ifT]; exact hR
          · rw [if_pos ⟨h4, by omega⟩] at hR
            simp only at hR
            rw [decide_eq_false h5, ifF]
            by_cases h6 : atoiV (a.drop 1) > b.length
            · rw [if_pos (by omega)] at hR
              rw [decide_eq_true h6, ifT]; exact hR
            · rw [if_neg (by omega)] at hR
              rw [decide_eq_false h6, ifF, List.drop_zero]
              exact ⟨by decide, by omega, by omega, by omega, by omega, Int.le_refl _, hR⟩
        · rw [if_neg (fun h => h4 h.1)] at hR
          rw [beq_eq_false_iff_ne.2 h4, Bool.not_false, ifT]; exact hR
    · have hsh : s.head? ≠ some 78 := by
        cases a with
        | nil => rw [he]; simp
        | cons x r => rw [he]; simpa using hh
      rw [if_neg hh] at hR
      rw [beq_eq_false_iff_ne.2 hsh, Bool.not_false, ifT]; exact hR

theorem printR_eq {h : Hd} (hc : checkH h = 0) : printR h = (Lib.itoa h.n ++ [32] ++ Lib.itoa (h.log.length : Int) ++ [32] ++ Lib.itoa (h.mp.length : Int) ++ [32] ++ h.log ++ h.mp, 0) := by
  unfold printR
  rw [if_neg (by simpa using hc)]
  simp

theorem checkH_ok' {h : Hd} (e : checkH h = 0) : 0 ≤ h.n ∧ h.n ≤ 24 ∧ h.log.length ≤ 20000 ∧ h.mp.length ≤ 20000 := by
  unfold checkH at e
  split at e
  · cases e
  · split at e
    · cases e
    · omega

theorem good_Print (hG : GlobOk G0) (h : Hd) : Good PG nG G0 f_note_Print [.agg [.int .i64 h.n, .str h.log, .str h.mp]] [] (.tup [.str (printR h).1, .int .i64 (printR h).2]) [] := by
  refine good_of_run prOk (by kernel_rfl) (note_Print_run _ _ _ G0 _ ⟨_, good_noteCheck h, ifK_ne0 (fun hc => ?_) fun hc => ?_⟩)
  · unfold printR; rw [if_pos hc]; exact ⟨rfl, rfl⟩
  · have hk := checkH_ok' hc
    have l1 := itoa_len20 (n := h.n) (by omega) (by omega)
    have l2 := itoa_len20 (n := (h.log.length : Int)) (by omega) (by omega)
    have l3 := itoa_len20 (n := (h.mp.length : Int)) (by omega) (by omega)
    rw [printR_eq hc]
    refine ⟨_, good_itoa hG _ (by omega) (by omega), by omega, _, good_itoa hG _ (by omega) (by omega), ?_, ?_, _, good_itoa hG _ (by omega) (by omega), ?_, ?_, ?_, ?_, rfl, rfl⟩ <;>
      (simp only [List.length_append, List.length_cons, List.length_nil]; omega)

theorem good_HeadText (hG : GlobOk G0) (h : Hd) : Good PG nG G0 f_greatsealref_HeadText [.agg [.int .i64 h.n, .str h.log, .str h.mp]] [] (.tup [.str (printR h).1, .int .i64 (printR h).2]) [] := by
  refine good_of_run prOk (by kernel_rfl) (greatsealref_HeadText_run _ _ _ G0 _ ⟨_, good_CheckHead h, ifK_ne0 (fun hc => ?_) fun hc => ?_⟩)
  · unfold printR; rw [if_pos hc]; exact ⟨rfl, rfl⟩
  · have hk := checkH_ok' hc
    have l1 := itoa_len20 (n := h.n) (by omega) (by omega)
    have l2 := itoa_len20 (n := (h.log.length : Int)) (by omega) (by omega)
    have l3 := itoa_len20 (n := (h.mp.length : Int)) (by omega) (by omega)
    rw [printR_eq hc]
    refine ⟨_, good_itoa hG _ (by omega) (by omega), by omega, _, good_itoa hG _ (by omega) (by omega), ?_, ?_, _, good_itoa hG _ (by omega) (by omega), ?_, ?_, ?_, ?_, rfl, rfl⟩ <;>
      (simp only [List.length_append, List.length_cons, List.length_nil]; omega)

theorem ifK_dec' {p : Prop} [Decidable p] {A B : Prop} (h : p → A) (h0 : ¬ p → B) : ifK (decide p) A B := by
  rw [ifK_iff]
  exact ⟨fun e => h (by simpa using e), fun e => h0 (by simpa using e)⟩

theorem ifK_bool' {b : Bool} {A B : Prop} (h : b = true → A) (h0 : b = false → B) : ifK b A B := ifK_iff.2 ⟨h, h0⟩
end Go.Ab

namespace Go.Ab
open Go.Proofs Go.Gs
variable {G0 : Nat → Option Obj}

theorem good_Parse (hG : GlobOk G0) (hE : GlobE G0) (s : By) (hs : s.length ≤ 140737488351232) : Good PG nG G0 f_note_Parse [.str s] [] (.tup [.agg [.int .i64 (parseR s).1.n, .str (parseR s).1.log, .str (parseR s).1.mp], .int .i64 (parseR s).2]) [] := by
  suffices main : ∀ R : AV → List (Option Blk) → Prop, R (.tup [.agg [.int .i64 (parseR s).1.n, .str (parseR s).1.log, .str (parseR s).1.mp], .int .i64 (parseR s).2]) [] → Hold (runF PG ty nG G0 an_note_Parse f_note_Parse [.str s] [] R) from
    good_of_run prOk (by kernel_rfl) (main _ ⟨rfl, rfl⟩)
  intro R hR
  refine note_Parse_run s G0 R ?_
  have step : ∀ (i : Nat) (t : By) (x y z : Int), i < 3 → t.length ≤ 140737488351232 → (fieldB t = none → R (.tup [.agg [.int .i64 0, .str [], .str []], .int .i64 1]) []) →
      (∀ a r, fieldB t = some (a, r) → Does PG nG G0 (fnOf PG f_note_Parse) 0 (lp PG f_note_Parse 0) (mkT 83 [(0, .str r), (2, .ref 0 0), (4, .ref 1 0), (13, .int .i64 ((i : Int) + 1))])
        [some (.var [.int .i64 0, .str [], .str []]), some (.var [.int .i64 (if i = 0 then (a : Int) else x), .int .i64 (if i = 1 then (a : Int) else y), .int .i64 (if i = 2 then (a : Int) else z)])] R) →
      Does PG nG G0 (fnOf PG f_note_Parse) 0 (lp PG f_note_Parse 0) (mkT 83 [(0, .str t), (2, .ref 0 0), (4, .ref 1 0), (13, .int .i64 (i : Int))]) [some (.var [.int .i64 0, .str [], .str []]), some (.var [.int .i64 x, .int .i64 y, .int .i64 z])] R := by
    intro i t x y z hi ht hbad hok
    refine does_of_run prOk (note_Parse_l0_run G0 _ _ _ _ _ _ _ _ R ?_)
    rw [decide_eq_true (show (i : Int) < 3 by omega), ifT, wrapI (show 0 ≤ (i : Int) + 1 by omega) (by omega)]
    refine ⟨_, _, _, good_Cut t 32 ht, ?_⟩
    unfold fieldB at hbad hok
    cases hc : cutB 32 t with
    | none =>
      rw [hc] at hbad
      rw [cutR_none hc, Bool.not_false]
      have ga := good_Atoi (G0 := G0) hE t ht
      refine ⟨atoiV t, atoiE t, ?_⟩
      cases hb : atoiE t with
      | true => rw [hb] at ga; exact ⟨ga, hbad rfl⟩
      | false => rw [hb] at ga; exact ⟨ga, hbad rfl⟩
    | some p =>
      obtain ⟨w, r⟩ := p
      obtain ⟨_, he, _⟩ := cutB_some hc
      have hl : t.length = w.length + (r.length + 1) := by rw [he]; simp
      rw [hc] at hbad hok
      simp only at hbad hok
      rw [cutR_some hc, Bool.not_true]
      have ga := good_Atoi (G0 := G0) hE w (by omega)
      refine ⟨atoiV w, atoiE w, ?_⟩
      rcases numB_cases w with ⟨h1, h2⟩ | ⟨h1, h2, h3⟩
      · rw [h1] at ga ⊢
        rw [h2] at hbad
        exact ⟨ga, hbad rfl⟩
      · rw [h1] at ga ⊢
        rw [ifF]
        refine ⟨ga, ?_⟩
        rw [ifF]
        refine ⟨_, good_itoa hG _ h2.1 h2.2, ?_⟩
        by_cases h4 : Lib.itoa (atoiV w) = w
        · rw [show (Lib.itoa (atoiV w) == w) = true from beq_iff_eq.2 h4, Bool.not_true, ifF]
          by_cases h5 : atoiV w < 0
          · rw [if_neg (fun h => by omega)] at h3
            rw [h3] at hbad
            rw [decide_eq_true h5, ifT]; exact hbad rfl
          · rw [if_pos ⟨h4, by omega⟩] at h3
            have := hok (atoiV w).toNat r (by rw [h3])
            rw [show (((atoiV w).toNat : Nat) : Int) = atoiV w by omega] at this
            rw [decide_eq_false h5, ifF]
            refine ⟨by omega, by omega, ?_⟩
            have hi3 : i = 0 ∨ i = 1 ∨ i = 2 := by omega
            rcases hi3 with rfl | rfl | rfl
            · exact this
            · exact this
            · exact this
        · rw [if_neg (fun h => h4 h.1)] at h3
          rw [h3] at hbad
          rw [show (Lib.itoa (atoiV w) == w) = false from beq_eq_false_iff_ne.2 h4, Bool.not_false, ifT]; exact hbad rfl
  have flen : ∀ {t r : By} {a : Nat}, fieldB t = some (a, r) → r.length ≤ t.length := fun {t r a} h => by
    have := congrArg List.length (fieldB_some h)
    simp only [List.length_append, List.length_cons] at this; omega
  unfold parseR at hR
  refine step 0 s 0 0 0 (by decide) hs (fun h => by rw [h] at hR; exact hR) fun a s1 h1 => ?_
  rw [h1] at hR
  simp only at hR
  have l1 := flen h1
  refine step 1 s1 a 0 0 (by decide) (by omega) (fun h => by rw [h] at hR; exact hR) fun b s2 h2 => ?_
  rw [h2] at hR
  simp only at hR
  have l2 := flen h2
  refine step 2 s2 a b 0 (by decide) (by omega) (fun h => by rw [h] at hR; exact hR) fun c s3 h3 => ?_
  rw [h3] at hR
  simp only at hR
  have l3 := flen h3
  unfold lastH at hR
  show Does PG nG G0 (fnOf PG f_note_Parse) 0 (lp PG f_note_Parse 0) (mkT 83 [(0, .str s3), (2, .ref 0 0), (4, .ref 1 0), (13, .int .i64 (2 + 1))])
    [some (.var [.int .i64 0, .str [], .str []]), some (.var [.int .i64 (a : Int), .int .i64 (b : Int), .int .i64 (c : Int)])] R
  refine does_of_run prOk (note_Parse_l0_run G0 _ _ _ _ _ _ _ _ R ?_)
  rw [decide_eq_false (show ¬ (2 : Int) + 1 < 3 by decide), ifF]
  refine ⟨by decide, by decide, ifK_dec' (fun h => by rw [if_pos (by omega)] at hR; exact hR) fun h => ⟨by decide, by decide, by decide, by decide, ?_⟩⟩
  have hb : b ≤ s3.length := by omega
  rw [wrap64 (show -9223372036854775808 ≤ (s3.length : Int) - (b : Int) by omega) (by omega)]
  refine ifK_bool' (fun hc => ?_) fun hc => ?_
  · rw [bne_iff_ne] at hc
    rw [if_pos (.inr (by omega))] at hR; exact hR
  · have hc : (c : Int) = (s3.length : Int) - (b : Int) := by simpa using hc
    rw [if_neg (by omega)] at hR
    rw [Int.toNat_natCast, Int.toNat_natCast, List.take_length, List.drop_zero]
    refine ⟨by decide, by decide, by decide, by decide, by decide, by omega, by omega, by decide, by decide, by omega, by omega, Int.le_refl _, _, good_noteCheck ⟨a, s3.take b, s3.drop b⟩, ifK_ne0 (fun h => ?_) fun h => ?_⟩
    · rw [if_pos h] at hR; exact hR
    · rw [if_neg (by simpa using h)] at hR; exact hR

/-- The document's reading: all pieces at once. -/
theorem good_HeadRead (hG : GlobOk G0) (hE : GlobE G0) (s : By) (hs : s.length ≤ 140737488351232) : Good PG nG G0 f_greatsealref_HeadRead [.str s] [] (.tup [.agg [.int .i64 (parseR s).1.n, .str (parseR s).1.log, .str (parseR s).1.mp], .int .i64 (parseR s).2]) [] := by
  suffices main : ∀ R : AV → List (Option Blk) → Prop, R (.tup [.agg [.int .i64 (parseR s).1.n, .str (parseR s).1.log, .str (parseR s).1.mp], .int .i64 (parseR s).2]) [] → Hold (runF PG ty nG G0 an_greatsealref_HeadRead f_greatsealref_HeadRead [.str s] [] R) from
    good_of_run prOk (by kernel_rfl) (main _ ⟨rfl, rfl⟩)
  intro R hR
  refine greatsealref_HeadRead_run s G0 R ⟨_, _, good_SplitN s hs, ?_⟩
  rw [List.length_map]
  unfold parseR fieldB at hR
  cases h1 : cutB 32 s with
  | none =>
    rw [h1] at hR
    have : piecesB 3 s = [s] := by unfold piecesB; rw [h1]
    rw [this, decide_eq_true (by simp only [List.length_cons, List.length_nil]; omega), ifT]; exact hR
  | some p1 =>
  obtain ⟨w0, r0⟩ := p1
  rw [h1] at hR
  obtain ⟨_, q1, _⟩ := cutB_some h1
  have k1 : s.length = w0.length + (r0.length + 1) := by rw [q1]; simp
  simp only at hR
  cases h2 : cutB 32 r0 with
  | none =>
    have e1 : piecesB 3 s = [w0, r0] := by
      unfold piecesB; rw [h1]; simp only
      unfold piecesB; rw [h2]
    rw [e1, decide_eq_true (by simp only [List.length_cons, List.length_nil]; omega), ifT]
    cases n0 : numB w0 with
    | none => rw [n0] at hR; exact hR
    | some a => rw [n0] at hR; simp only at hR; rw [h2] at hR; exact hR
  | some p2 =>
  obtain ⟨w1, r1⟩ := p2
  obtain ⟨_, q2, _⟩ := cutB_some h2
  have k2 : r0.length = w1.length + (r1.length + 1) := by rw [q2]; simp
  cases h3 : cutB 32 r1 with
  | none =>
    have e1 : piecesB 3 s = [w0, w1, r1] := by
      unfold piecesB; rw [h1]; simp only
      unfold piecesB; rw [h2]; simp only
      unfold piecesB; rw [h3]
    rw [e1, decide_eq_true (by simp only [List.length_cons, List.length_nil]; omega), ifT]
    cases n0 : numB w0 with
    | none => rw [n0] at hR; exact hR
    | some a =>
      rw [n0] at hR; simp only at hR; rw [h2] at hR; simp only at hR
      cases n1 : numB w1 with
      | none => rw [n1] at hR; exact hR
      | some b => rw [n1] at hR; simp only at hR; rw [h3] at hR; exact hR
  | some p3 =>
  obtain ⟨w2, r2⟩ := p3
  obtain ⟨_, q3, _⟩ := cutB_some h3
  have k3 : r1.length = w2.length + (r2.length + 1) := by rw [q3]; simp
  have e1 : piecesB 3 s = [w0, w1, w2, r2] := by
    unfold piecesB; rw [h1]; simp only
    unfold piecesB; rw [h2]; simp only
    unfold piecesB; rw [h3]; rfl
  rw [e1, decide_eq_false (by simp only [List.length_cons, List.length_nil]; omega), ifF]
  have e10 : ((1 : Int) == 0) = false := rfl
  have step : ∀ (i : Nat) (w : By) (x y z : Int), i < 3 → w.length ≤ 140737488351232 → ([w0, w1, w2, r2].map S1)[i]? = some (S1 w) → (numB w = none → R (.tup [.agg [.int .i64 0, .str [], .str []], .int .i64 1]) []) →
      (∀ a, numB w = some a → Does PG nG G0 (fnOf PG f_greatsealref_HeadRead) 0 (lp PG f_greatsealref_HeadRead 0) (mkT 89 [(2, .ref 0 0), (4, .sl 1 false none ([w0, w1, w2, r2].map S1)), (5, .ref 1 0), (18, .int .i64 ((i : Int) + 1))])
        [some (.var [.int .i64 0, .str [], .str []]), some (.var [.int .i64 (if i = 0 then (a : Int) else x), .int .i64 (if i = 1 then (a : Int) else y), .int .i64 (if i = 2 then (a : Int) else z)])] R) →
      Does PG nG G0 (fnOf PG f_greatsealref_HeadRead) 0 (lp PG f_greatsealref_HeadRead 0) (mkT 89 [(2, .ref 0 0), (4, .sl 1 false none ([w0, w1, w2, r2].map S1)), (5, .ref 1 0), (18, .int .i64 (i : Int))]) [some (.var [.int .i64 0, .str [], .str []]), some (.var [.int .i64 x, .int .i64 y, .int .i64 z])] R := by
    intro i w x y z hi ht hget hbad hok
    refine does_of_run prOk (greatsealref_HeadRead_l0_run G0 _ _ _ _ _ _ _ _ _ R ?_)
    rw [decide_eq_true (show (i : Int) < 3 by omega), ifT, wrapI (show 0 ≤ (i : Int) + 1 by omega) (by omega), Int.toNat_natCast]
    have ga := good_ParseInt (G0 := G0) hE w ht
    refine ⟨by omega, _, hget, atoiV w, atoiE w, ?_⟩
    rcases numB_cases w with ⟨h1, h2⟩ | ⟨h1, h2, h3⟩
    · rw [h1] at ga ⊢
      exact ⟨ga, hbad h2⟩
    · rw [h1] at ga ⊢
      rw [ifF]
      refine ⟨ga, _, good_FormatInt hG _ h2.1 h2.2, by omega, _, hget, ?_⟩
      by_cases h4 : Lib.itoa (atoiV w) = w
      · rw [show (Lib.itoa (atoiV w) == w) = true from beq_iff_eq.2 h4, Bool.not_true, ifF]
        by_cases h5 : atoiV w < 0
        · rw [if_neg (fun h => by omega)] at h3
          rw [decide_eq_true h5, ifT]; exact hbad h3
        · rw [if_pos ⟨h4, by omega⟩] at h3
          have := hok (atoiV w).toNat h3
          rw [show (((atoiV w).toNat : Nat) : Int) = atoiV w by omega] at this
          rw [decide_eq_false h5, ifF]
          refine ⟨by omega, by omega, ?_⟩
          have hi3 : i = 0 ∨ i = 1 ∨ i = 2 := by omega
          rcases hi3 with rfl | rfl | rfl
          · exact this
          · exact this
          · exact this
      · rw [if_neg (fun h => h4 h.1)] at h3
        rw [show (Lib.itoa (atoiV w) == w) = false from beq_eq_false_iff_ne.2 h4, Bool.not_false, ifT]; exact hbad h3
  refine step 0 w0 0 0 0 (by decide) (by omega) rfl (fun h => by rw [h] at hR; exact hR) fun a n0 => ?_
  rw [n0] at hR
  simp only at hR
  rw [h2] at hR
  simp only at hR
  refine step 1 w1 a 0 0 (by decide) (by omega) rfl (fun h => by rw [h] at hR; exact hR) fun b n1 => ?_
  rw [n1] at hR
  simp only at hR
  rw [h3] at hR
  simp only at hR
  refine step 2 w2 a b 0 (by decide) (by omega) rfl (fun h => by rw [h] at hR; exact hR) fun c n2 => ?_
  rw [n2] at hR
  simp only at hR
  unfold lastH at hR
  show Does PG nG G0 (fnOf PG f_greatsealref_HeadRead) 0 (lp PG f_greatsealref_HeadRead 0) (mkT 89 [(2, .ref 0 0), (4, .sl 1 false none ([w0, w1, w2, r2].map S1)), (5, .ref 1 0), (18, .int .i64 (2 + 1))])
    [some (.var [.int .i64 0, .str [], .str []]), some (.var [.int .i64 (a : Int), .int .i64 (b : Int), .int .i64 (c : Int)])] R
  refine does_of_run prOk (greatsealref_HeadRead_l0_run G0 _ _ _ _ _ _ _ _ _ R ?_)
  rw [decide_eq_false (show ¬ (2 : Int) + 1 < 3 by decide), ifF]
  refine ⟨by decide, r2, rfl, by decide, by decide, ifK_dec' (fun h => by rw [if_pos (by omega)] at hR; exact hR) fun h => ⟨by decide, by decide, by decide, by decide, ?_⟩⟩
  have hb : b ≤ r2.length := by omega
  rw [wrap64 (show -9223372036854775808 ≤ (r2.length : Int) - (b : Int) by omega) (by omega)]
  refine ifK_bool' (fun hc => ?_) fun hc => ?_
  · rw [bne_iff_ne] at hc
    rw [if_pos (.inr (by omega))] at hR; exact hR
  · have hc : (c : Int) = (r2.length : Int) - (b : Int) := by simpa using hc
    rw [if_neg (by omega)] at hR
    refine ⟨by decide, by decide, by decide, r2, rfl, by decide, by decide, by decide, by omega, by omega, by decide, r2, rfl, by decide, by decide, by omega, by omega, Int.le_refl _, ?_⟩
    rw [Int.toNat_natCast, Int.toNat_natCast, List.take_length, List.drop_zero]
    refine ⟨_, good_CheckHead ⟨a, r2.take b, r2.drop b⟩, ifK_ne0 (fun h => ?_) fun h => ?_⟩
    · rw [if_pos h] at hR; exact hR
    · rw [if_neg (by simpa using h)] at hR; exact hR

theorem good_sealed (hG : GlobOk G0) (hE : GlobE G0) : Good PG nG G0 f_greatseallaw_sealed [] [] (.bool true) [] := by
  have g1 := good_Leaf (G0 := G0) [97]
  rw [show tLeaf [97] = ([76, 97], 0) from rfl] at g1
  have g2 := good_Node (G0 := G0) hG [76, 97] [76, 98]
  rw [show tNode [76, 97] [76, 98] = ([78, 50, 58, 76, 97, 76, 98], 0) by decide +kernel] at g2
  have g3 := good_Split (G0 := G0) hG hE [78, 50, 58, 76, 97, 76, 98] (by decide)
  rw [show splitR [78, 50, 58, 76, 97, 76, 98] = (([76, 97], [76, 98]), 0) by decide +kernel] at g3
  have g4 := good_Open (G0 := G0) [76, 97]
  rw [show openS [76, 97] = ([97], 0) from rfl] at g4
  have g5 := good_Split (G0 := G0) hG hE [78, 51, 58, 97, 98] (by decide)
  rw [show splitR [78, 51, 58, 97, 98] = (([], []), 4) by decide +kernel] at g5
  have g6 := good_Open (G0 := G0) [69]
  rw [show openS [69] = ([], 4) from rfl] at g6
  exact good_of_run prOk (by kernel_rfl) (greatseallaw_sealed_run G0 _ ⟨_, _, g1, _, _, g2, _, _, _, g3, _, _, g4, _, _, _, g5, _, _, g6, _, good_None, rfl, rfl⟩)

theorem good_noted (hG : GlobOk G0) (hE : GlobE G0) : Good PG nG G0 f_greatseallaw_noted [] [] (.bool true) [] := by
  have g1 := good_Print (G0 := G0) hG ⟨2, [97, 98], [99, 32, 100]⟩
  rw [show printR ⟨2, [97, 98], [99, 32, 100]⟩ = ([50, 32, 50, 32, 51, 32, 97, 98, 99, 32, 100], 0) by decide +kernel] at g1
  have g2 := good_Parse (G0 := G0) hG hE [50, 32, 50, 32, 51, 32, 97, 98, 99, 32, 100] (by decide)
  rw [show parseR [50, 32, 50, 32, 51, 32, 97, 98, 99, 32, 100] = (⟨2, [97, 98], [99, 32, 100]⟩, 0) by decide +kernel] at g2
  have g3 := good_Parse (G0 := G0) hG hE [50, 32, 50, 32, 52, 32, 97, 98, 99, 32, 100] (by decide)
  rw [show parseR [50, 32, 50, 32, 52, 32, 97, 98, 99, 32, 100] = (hd0, 1) by decide +kernel] at g3
  exact good_of_run prOk (by kernel_rfl) (greatseallaw_noted_run G0 _ ⟨_, _, g1, _, _, _, _, g2, _, _, _, _, g3, rfl, rfl⟩)
end Go.Ab

namespace Go.Ab
open Go.Proofs
set_option maxRecDepth 100000



end Go.Ab

namespace Go.Ab
open Go.Proofs Go.Gs
variable {G0 : Nat → Option Obj}

theorem rootOf_ok {l : List By} (h : (rootOf l).2 = 0) : l.length ≤ 24 ∧ rootOf l = tRoot l := by
  unfold rootOf at h ⊢
  split
  · rename_i hc; rw [if_pos hc] at h; cases h
  · exact ⟨by omega, rfl⟩

end Go.Ab

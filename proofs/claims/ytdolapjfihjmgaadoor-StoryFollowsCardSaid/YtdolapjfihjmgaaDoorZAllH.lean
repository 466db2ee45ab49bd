/- What the proofs of these laws lean on (8): What the runs come to; Contracts: the document's worlds; Contracts: closed facts of worlds, stories; What the runs come to; Contracts: the laws of worlds; no condition. -/
import Derived.Test.YtdolapjfihjmgaaDoorZAllG
namespace Go.Ab
open Go.Proofs
set_option maxRecDepth 100000

def an_greatsealref_Happened_bad : FAnn := ⟨[(6, 2, ⟨[], [], [100]⟩), (10, 4, ⟨[], [0], []⟩)], [(1, [2, 3, 4, 13, 14, 15, 164, 165], [])], none, []⟩
def an_greatsealref_Happened_k1s0 : FAnn := ⟨[(6, 2, ⟨[], [], [100]⟩), (10, 4, ⟨[], [0], []⟩)], [(1, [2, 3, 4, 13, 14, 15, 164, 165], [])], none, []⟩
def an_greatsealref_Happened_k1s1 : FAnn := ⟨[(6, 2, ⟨[], [], [100]⟩), (10, 4, ⟨[], [0], []⟩)], [(1, [2, 3, 4, 13, 14, 15, 164, 165], [])], none, []⟩
def an_greatsealref_Happened_k2s0 : FAnn := ⟨[(6, 2, ⟨[], [], [100]⟩), (10, 4, ⟨[], [0], []⟩)], [(1, [2, 3, 4, 13, 14, 15, 164, 165], [])], none, []⟩
def an_greatsealref_Happened_k2s1 : FAnn := ⟨[(6, 2, ⟨[], [], [100]⟩), (10, 4, ⟨[], [0], []⟩)], [(1, [2, 3, 4, 13, 14, 15, 164, 165], [])], none, []⟩
def an_greatsealref_Happened_k3s0 : FAnn := ⟨[(6, 2, ⟨[], [], [100]⟩), (10, 4, ⟨[], [0], []⟩)], [(1, [2, 3, 4, 13, 14, 15, 164, 165], [])], none, []⟩
def an_greatsealref_Happened_k3s1 : FAnn := ⟨[(6, 2, ⟨[], [], [100]⟩), (10, 4, ⟨[], [0], []⟩)], [(1, [2, 3, 4, 13, 14, 15, 164, 165], [])], none, []⟩
def an_greatsealref_Happened_k4s0 : FAnn := ⟨[(6, 2, ⟨[], [], [100]⟩), (10, 4, ⟨[], [0], []⟩)], [(1, [2, 3, 4, 13, 14, 15, 164, 165], [])], none, []⟩
def an_greatsealref_Happened_k4s1 : FAnn := ⟨[(6, 2, ⟨[], [], [100]⟩), (10, 4, ⟨[], [0], []⟩)], [(1, [2, 3, 4, 13, 14, 15, 164, 165], [])], none, []⟩
def an_greatsealref_Happened_k5s0 : FAnn := ⟨[(6, 2, ⟨[], [], [100]⟩), (10, 4, ⟨[], [0], []⟩)], [(1, [2, 3, 4, 13, 14, 15, 164, 165], [])], none, []⟩
def an_greatsealref_Happened_k5s1 : FAnn := ⟨[(6, 2, ⟨[], [], [100]⟩), (10, 4, ⟨[], [0], []⟩)], [(1, [2, 3, 4, 13, 14, 15, 164, 165], [])], none, []⟩

theorem greatsealref_Happened_bad_run (n0 : Bool) (b0 : List (List AV)) (n1 : Bool) (b1 : List (List AV)) (n2 : Bool) (c : List (List AV)) (xk : Int) (xs : Int) (xw : Int) (xo : Int) (ek : Int) (ev : List UInt8) (G0 : Nat → Option Go.Obj) (R : AV → List (Option Blk) → Prop) (h :
  ∃ b0,
  Good PG nG G0 f_greatsealref_in [AV.int Go.IntKind.i64 xk, AV.int Go.IntKind.i64 (1 : Int), AV.int Go.IntKind.i64 (5 : Int)] [] (AV.bool b0) [] ∧
    ifK (!b0)
      (∃ b1 xs2 b3 xs4 b5 xs6 n7,
        Good PG nG G0 f_greatsealref_Happened_c1 [AV.int Go.IntKind.i64 (4 : Int)] [] (AV.tup [AV.agg [AV.sl (2 : Nat) b1 none xs2, AV.sl (2 : Nat) b3 none xs4, AV.sl (4 : Nat) b5 none xs6], AV.int Go.IntKind.i64 n7]) [] ∧
          R (AV.tup [AV.agg [AV.sl (2 : Nat) b1 none xs2, AV.sl (2 : Nat) b3 none xs4, AV.sl (4 : Nat) b5 none xs6], AV.int Go.IntKind.i64 n7]) [])
      (∃ b8,
        Good PG nG G0 f_greatsealref_in [AV.int Go.IntKind.i64 xs, AV.int Go.IntKind.i64 (0 : Int), AV.int Go.IntKind.i64 (1 : Int)] [] (AV.bool b8) [] ∧
          ifK (!b8)
            (∃ b9 xs10 b11 xs12 b13 xs14 n15,
              Good PG nG G0 f_greatsealref_Happened_c1 [AV.int Go.IntKind.i64 (5 : Int)] [] (AV.tup [AV.agg [AV.sl (2 : Nat) b9 none xs10, AV.sl (2 : Nat) b11 none xs12, AV.sl (4 : Nat) b13 none xs14], AV.int Go.IntKind.i64 n15]) [] ∧
                R (AV.tup [AV.agg [AV.sl (2 : Nat) b9 none xs10, AV.sl (2 : Nat) b11 none xs12, AV.sl (4 : Nat) b13 none xs14], AV.int Go.IntKind.i64 n15]) [])
            (∃ b16,
              Good PG nG G0 f_greatsealref_in [AV.int Go.IntKind.i64 xw, AV.int Go.IntKind.i64 (0 : Int), AV.int Go.IntKind.i64 (2 : Int)] [] (AV.bool b16) [] ∧
                ifK (!b16)
                  (∃ b17 xs18 b19 xs20 b21 xs22 n23,
                    Good PG nG G0 f_greatsealref_Happened_c1 [AV.int Go.IntKind.i64 (5 : Int)] [] (AV.tup [AV.agg [AV.sl (2 : Nat) b17 none xs18, AV.sl (2 : Nat) b19 none xs20, AV.sl (4 : Nat) b21 none xs22], AV.int Go.IntKind.i64 n23]) [] ∧
                      R (AV.tup [AV.agg [AV.sl (2 : Nat) b17 none xs18, AV.sl (2 : Nat) b19 none xs20, AV.sl (4 : Nat) b21 none xs22], AV.int Go.IntKind.i64 n23]) [])
                  (∃ b24,
                    Good PG nG G0 f_greatsealref_in [AV.int Go.IntKind.i64 xo, AV.int Go.IntKind.i64 (0 : Int), AV.int Go.IntKind.i64 (2 : Int)] [] (AV.bool b24) [] ∧
                      ifK (!b24)
                        (∃ b25 xs26 b27 xs28 b29 xs30 n31,
                          Good PG nG G0 f_greatsealref_Happened_c1 [AV.int Go.IntKind.i64 (5 : Int)] [] (AV.tup [AV.agg [AV.sl (2 : Nat) b25 none xs26, AV.sl (2 : Nat) b27 none xs28, AV.sl (4 : Nat) b29 none xs30], AV.int Go.IntKind.i64 n31]) [] ∧
                            R (AV.tup [AV.agg [AV.sl (2 : Nat) b25 none xs26, AV.sl (2 : Nat) b27 none xs28, AV.sl (4 : Nat) b29 none xs30], AV.int Go.IntKind.i64 n31]) [])
                        (∃ b32 xs33,
                          b32 = false ∧
                            Good PG nG G0 f_slices_Clone_Client [AV.sl (4 : Nat) n2 none c] [] (AV.rsl (4 : Nat) (0 : Nat) (0 : Nat) (List.length xs33)) [some (Blk.arr (4 : Nat) xs33)] ∧
                              (0 : Int) ≤ xs ∧
                                xs < (2 : Int) ∧
                                  ifK (xs == (0 : Int))
                                    ((0 : Int) ≤ xw ∧
                                      xw < (↑(List.length xs33) : Int) ∧
                                        ∃ n34 s35 s36 b37, (∃ xs38, xs33[(0 : Nat) + Int.toNat xw]? = some xs38 ∧ List.take (4 : Nat) (List.drop (0 : Nat) xs38) = [AV.int Go.IntKind.i64 n34, AV.str s35, AV.str s36, AV.bool b37]) ∧ False)
                                    ((0 : Int) ≤ xw ∧
                                      xw < (↑(List.length xs33) : Int) ∧
                                        ∃ n39 s40 s41 b42,
                                          (∃ xs43, xs33[(0 : Nat) + Int.toNat xw]? = some xs43 ∧ List.take (4 : Nat) (List.drop (0 : Nat) xs43) = [AV.int Go.IntKind.i64 n39, AV.str s40, AV.str s41, AV.bool b42]) ∧ False)))))) :
  Hold (runN (20 : Nat) PG ty nG G0 an_greatsealref_Happened_bad f_greatsealref_Happened
  [AV.agg [AV.sl (2 : Nat) n0 none b0, AV.sl (2 : Nat) n1 none b1, AV.sl (4 : Nat) n2 none c],
    AV.agg [AV.int Go.IntKind.i64 xk, AV.int Go.IntKind.i64 xs, AV.int Go.IntKind.i64 xw, AV.int Go.IntKind.i64 xo, AV.int Go.IntKind.i64 ek, AV.str ev]]
  [] R) := kshow h (by kernel_rfl)

theorem greatsealref_Happened_k1s0_run (n0 : Bool) (b0 : List (List AV)) (n1 : Bool) (b1 : List (List AV)) (n2 : Bool) (c : List (List AV)) (xw : Int) (xo : Int) (ek : Int) (ev : List UInt8) (G0 : Nat → Option Go.Obj) (R : AV → List (Option Blk) → Prop) (h :
  ∃ b0_1,
  Good PG nG G0 f_greatsealref_in [AV.int Go.IntKind.i64 (1 : Int), AV.int Go.IntKind.i64 (1 : Int), AV.int Go.IntKind.i64 (5 : Int)] [] (AV.bool b0_1) [] ∧
    ifK (!b0_1)
      (∃ b1 xs2 b3 xs4 b5 xs6 n7,
        Good PG nG G0 f_greatsealref_Happened_c1 [AV.int Go.IntKind.i64 (4 : Int)] [] (AV.tup [AV.agg [AV.sl (2 : Nat) b1 none xs2, AV.sl (2 : Nat) b3 none xs4, AV.sl (4 : Nat) b5 none xs6], AV.int Go.IntKind.i64 n7]) [] ∧
          R (AV.tup [AV.agg [AV.sl (2 : Nat) b1 none xs2, AV.sl (2 : Nat) b3 none xs4, AV.sl (4 : Nat) b5 none xs6], AV.int Go.IntKind.i64 n7]) [])
      (∃ b8,
        Good PG nG G0 f_greatsealref_in [AV.int Go.IntKind.i64 (0 : Int), AV.int Go.IntKind.i64 (0 : Int), AV.int Go.IntKind.i64 (1 : Int)] [] (AV.bool b8) [] ∧
          ifK (!b8)
            (∃ b9 xs10 b11 xs12 b13 xs14 n15,
              Good PG nG G0 f_greatsealref_Happened_c1 [AV.int Go.IntKind.i64 (5 : Int)] [] (AV.tup [AV.agg [AV.sl (2 : Nat) b9 none xs10, AV.sl (2 : Nat) b11 none xs12, AV.sl (4 : Nat) b13 none xs14], AV.int Go.IntKind.i64 n15]) [] ∧
                R (AV.tup [AV.agg [AV.sl (2 : Nat) b9 none xs10, AV.sl (2 : Nat) b11 none xs12, AV.sl (4 : Nat) b13 none xs14], AV.int Go.IntKind.i64 n15]) [])
            (∃ b16,
              Good PG nG G0 f_greatsealref_in [AV.int Go.IntKind.i64 xw, AV.int Go.IntKind.i64 (0 : Int), AV.int Go.IntKind.i64 (2 : Int)] [] (AV.bool b16) [] ∧
                ifK (!b16)
                  (∃ b17 xs18 b19 xs20 b21 xs22 n23,
                    Good PG nG G0 f_greatsealref_Happened_c1 [AV.int Go.IntKind.i64 (5 : Int)] [] (AV.tup [AV.agg [AV.sl (2 : Nat) b17 none xs18, AV.sl (2 : Nat) b19 none xs20, AV.sl (4 : Nat) b21 none xs22], AV.int Go.IntKind.i64 n23]) [] ∧
                      R (AV.tup [AV.agg [AV.sl (2 : Nat) b17 none xs18, AV.sl (2 : Nat) b19 none xs20, AV.sl (4 : Nat) b21 none xs22], AV.int Go.IntKind.i64 n23]) [])
                  (∃ b24,
                    Good PG nG G0 f_greatsealref_in [AV.int Go.IntKind.i64 xo, AV.int Go.IntKind.i64 (0 : Int), AV.int Go.IntKind.i64 (2 : Int)] [] (AV.bool b24) [] ∧
                      ifK (!b24)
                        (∃ b25 xs26 b27 xs28 b29 xs30 n31,
                          Good PG nG G0 f_greatsealref_Happened_c1 [AV.int Go.IntKind.i64 (5 : Int)] [] (AV.tup [AV.agg [AV.sl (2 : Nat) b25 none xs26, AV.sl (2 : Nat) b27 none xs28, AV.sl (4 : Nat) b29 none xs30], AV.int Go.IntKind.i64 n31]) [] ∧
                            R (AV.tup [AV.agg [AV.sl (2 : Nat) b25 none xs26, AV.sl (2 : Nat) b27 none xs28, AV.sl (4 : Nat) b29 none xs30], AV.int Go.IntKind.i64 n31]) [])
                        (∃ b32 xs33,
                          b32 = false ∧
                            Good PG nG G0 f_slices_Clone_Client [AV.sl (4 : Nat) n2 none c] [] (AV.rsl (4 : Nat) (0 : Nat) (0 : Nat) (List.length xs33)) [some (Blk.arr (4 : Nat) xs33)] ∧
                              (0 : Int) ≤ (0 : Int) ∧
                                (0 : Int) < (2 : Int) ∧
                                  (0 : Int) ≤ xw ∧
                                    xw < (↑(List.length xs33) : Int) ∧
                                      ∃ n34 s35 s36 b37,
                                        (∃ xs38, xs33[(0 : Nat) + Int.toNat xw]? = some xs38 ∧ List.take (4 : Nat) (List.drop (0 : Nat) xs38) = [AV.int Go.IntKind.i64 n34, AV.str s35, AV.str s36, AV.bool b37]) ∧
                                          ∃ b39 xs40,
                                            Good PG nG G0 f_slices_Clone_Entry [AV.sl (2 : Nat) n0 none b0] [] (AV.sl (2 : Nat) b39 (some (0 : Nat)) xs40) [some (Blk.grow (2 : Nat) (List.length xs40))] ∧
                                              (List.length xs40 + List.length [[AV.int Go.IntKind.i64 ek, AV.str ev]]) * (24 : Nat) ≤ (140737488355328 : Nat) ∧
                                                List.length xs40 = List.length xs40 ∧
                                                  (0 : Int) ≤ (0 : Int) ∧
                                                    (0 : Int) < (2 : Int) ∧
                                                      (0 : Int) ≤ (0 : Int) ∧
                                                        (0 : Int) < (2 : Int) ∧
                                                          ∃ n41,
                                                            Good PG nG G0 f_greatsealref_CheckBook [AV.agg [AV.sl (2 : Nat) (b39 && List.isEmpty [[AV.int Go.IntKind.i64 ek, AV.str ev]]) none (xs40 ++ [[AV.int Go.IntKind.i64 ek, AV.str ev]])]] []
                                                                (AV.int Go.IntKind.i64 n41) [] ∧
                                                              ifK (n41 != (0 : Int))
                                                                (∃ b42 xs43 b44 xs45 b46 xs47 n48,
                                                                  Good PG nG G0 f_greatsealref_Happened_c1 [AV.int Go.IntKind.i64 n41] []
                                                                      (AV.tup [AV.agg [AV.sl (2 : Nat) b42 none xs43, AV.sl (2 : Nat) b44 none xs45, AV.sl (4 : Nat) b46 none xs47], AV.int Go.IntKind.i64 n48]) [] ∧
                                                                    R (AV.tup [AV.agg [AV.sl (2 : Nat) b42 none xs43, AV.sl (2 : Nat) b44 none xs45, AV.sl (4 : Nat) b46 none xs47], AV.int Go.IntKind.i64 n48]) [])
                                                                (R
                                                                  (AV.tup
                                                                    [AV.agg
                                                                        [AV.sl (2 : Nat) (b39 && List.isEmpty [[AV.int Go.IntKind.i64 ek, AV.str ev]]) none (xs40 ++ [[AV.int Go.IntKind.i64 ek, AV.str ev]]), AV.sl (2 : Nat) n1 none b1,
                                                                          AV.sl (4 : Nat) false none (List.take (List.length xs33) (List.drop (0 : Nat) xs33))],
                                                                      AV.int Go.IntKind.i64 (0 : Int)])
                                                                  [])))))) :
  Hold (runF PG ty nG G0 an_greatsealref_Happened_k1s0 f_greatsealref_Happened
  [AV.agg [AV.sl (2 : Nat) n0 none b0, AV.sl (2 : Nat) n1 none b1, AV.sl (4 : Nat) n2 none c],
    AV.agg [AV.int Go.IntKind.i64 (1 : Int), AV.int Go.IntKind.i64 (0 : Int), AV.int Go.IntKind.i64 xw, AV.int Go.IntKind.i64 xo, AV.int Go.IntKind.i64 ek, AV.str ev]]
  [] R) := kshow h (by kernel_rfl)

theorem greatsealref_Happened_k1s1_run (n0 : Bool) (b0 : List (List AV)) (n1 : Bool) (b1 : List (List AV)) (n2 : Bool) (c : List (List AV)) (xw : Int) (xo : Int) (ek : Int) (ev : List UInt8) (G0 : Nat → Option Go.Obj) (R : AV → List (Option Blk) → Prop) (h :
  ∃ b0_1,
  Good PG nG G0 f_greatsealref_in [AV.int Go.IntKind.i64 (1 : Int), AV.int Go.IntKind.i64 (1 : Int), AV.int Go.IntKind.i64 (5 : Int)] [] (AV.bool b0_1) [] ∧
    ifK (!b0_1)
      (∃ b1 xs2 b3 xs4 b5 xs6 n7,
        Good PG nG G0 f_greatsealref_Happened_c1 [AV.int Go.IntKind.i64 (4 : Int)] [] (AV.tup [AV.agg [AV.sl (2 : Nat) b1 none xs2, AV.sl (2 : Nat) b3 none xs4, AV.sl (4 : Nat) b5 none xs6], AV.int Go.IntKind.i64 n7]) [] ∧
          R (AV.tup [AV.agg [AV.sl (2 : Nat) b1 none xs2, AV.sl (2 : Nat) b3 none xs4, AV.sl (4 : Nat) b5 none xs6], AV.int Go.IntKind.i64 n7]) [])
      (∃ b8,
        Good PG nG G0 f_greatsealref_in [AV.int Go.IntKind.i64 (1 : Int), AV.int Go.IntKind.i64 (0 : Int), AV.int Go.IntKind.i64 (1 : Int)] [] (AV.bool b8) [] ∧
          ifK (!b8)
            (∃ b9 xs10 b11 xs12 b13 xs14 n15,
              Good PG nG G0 f_greatsealref_Happened_c1 [AV.int Go.IntKind.i64 (5 : Int)] [] (AV.tup [AV.agg [AV.sl (2 : Nat) b9 none xs10, AV.sl (2 : Nat) b11 none xs12, AV.sl (4 : Nat) b13 none xs14], AV.int Go.IntKind.i64 n15]) [] ∧
                R (AV.tup [AV.agg [AV.sl (2 : Nat) b9 none xs10, AV.sl (2 : Nat) b11 none xs12, AV.sl (4 : Nat) b13 none xs14], AV.int Go.IntKind.i64 n15]) [])
            (∃ b16,
              Good PG nG G0 f_greatsealref_in [AV.int Go.IntKind.i64 xw, AV.int Go.IntKind.i64 (0 : Int), AV.int Go.IntKind.i64 (2 : Int)] [] (AV.bool b16) [] ∧
                ifK (!b16)
                  (∃ b17 xs18 b19 xs20 b21 xs22 n23,
                    Good PG nG G0 f_greatsealref_Happened_c1 [AV.int Go.IntKind.i64 (5 : Int)] [] (AV.tup [AV.agg [AV.sl (2 : Nat) b17 none xs18, AV.sl (2 : Nat) b19 none xs20, AV.sl (4 : Nat) b21 none xs22], AV.int Go.IntKind.i64 n23]) [] ∧
                      R (AV.tup [AV.agg [AV.sl (2 : Nat) b17 none xs18, AV.sl (2 : Nat) b19 none xs20, AV.sl (4 : Nat) b21 none xs22], AV.int Go.IntKind.i64 n23]) [])
                  (∃ b24,
                    Good PG nG G0 f_greatsealref_in [AV.int Go.IntKind.i64 xo, AV.int Go.IntKind.i64 (0 : Int), AV.int Go.IntKind.i64 (2 : Int)] [] (AV.bool b24) [] ∧
                      ifK (!b24)
                        (∃ b25 xs26 b27 xs28 b29 xs30 n31,
                          Good PG nG G0 f_greatsealref_Happened_c1 [AV.int Go.IntKind.i64 (5 : Int)] [] (AV.tup [AV.agg [AV.sl (2 : Nat) b25 none xs26, AV.sl (2 : Nat) b27 none xs28, AV.sl (4 : Nat) b29 none xs30], AV.int Go.IntKind.i64 n31]) [] ∧
                            R (AV.tup [AV.agg [AV.sl (2 : Nat) b25 none xs26, AV.sl (2 : Nat) b27 none xs28, AV.sl (4 : Nat) b29 none xs30], AV.int Go.IntKind.i64 n31]) [])
                        (∃ b32 xs33,
                          b32 = false ∧
                            Good PG nG G0 f_slices_Clone_Client [AV.sl (4 : Nat) n2 none c] [] (AV.rsl (4 : Nat) (0 : Nat) (0 : Nat) (List.length xs33)) [some (Blk.arr (4 : Nat) xs33)] ∧
                              (0 : Int) ≤ (1 : Int) ∧
                                (1 : Int) < (2 : Int) ∧
                                  (0 : Int) ≤ xw ∧
                                    xw < (↑(List.length xs33) : Int) ∧
                                      ∃ n34 s35 s36 b37,
                                        (∃ xs38, xs33[(0 : Nat) + Int.toNat xw]? = some xs38 ∧ List.take (4 : Nat) (List.drop (0 : Nat) xs38) = [AV.int Go.IntKind.i64 n34, AV.str s35, AV.str s36, AV.bool b37]) ∧
                                          ∃ b39 xs40,
                                            Good PG nG G0 f_slices_Clone_Entry [AV.sl (2 : Nat) n1 none b1] [] (AV.sl (2 : Nat) b39 (some (0 : Nat)) xs40) [some (Blk.grow (2 : Nat) (List.length xs40))] ∧
                                              (List.length xs40 + List.length [[AV.int Go.IntKind.i64 ek, AV.str ev]]) * (24 : Nat) ≤ (140737488355328 : Nat) ∧
                                                List.length xs40 = List.length xs40 ∧
                                                  (0 : Int) ≤ (1 : Int) ∧
                                                    (1 : Int) < (2 : Int) ∧
                                                      (0 : Int) ≤ (1 : Int) ∧
                                                        (1 : Int) < (2 : Int) ∧
                                                          ∃ n41,
                                                            Good PG nG G0 f_greatsealref_CheckBook [AV.agg [AV.sl (2 : Nat) (b39 && List.isEmpty [[AV.int Go.IntKind.i64 ek, AV.str ev]]) none (xs40 ++ [[AV.int Go.IntKind.i64 ek, AV.str ev]])]] []
                                                                (AV.int Go.IntKind.i64 n41) [] ∧
                                                              ifK (n41 != (0 : Int))
                                                                (∃ b42 xs43 b44 xs45 b46 xs47 n48,
                                                                  Good PG nG G0 f_greatsealref_Happened_c1 [AV.int Go.IntKind.i64 n41] []
                                                                      (AV.tup [AV.agg [AV.sl (2 : Nat) b42 none xs43, AV.sl (2 : Nat) b44 none xs45, AV.sl (4 : Nat) b46 none xs47], AV.int Go.IntKind.i64 n48]) [] ∧
                                                                    R (AV.tup [AV.agg [AV.sl (2 : Nat) b42 none xs43, AV.sl (2 : Nat) b44 none xs45, AV.sl (4 : Nat) b46 none xs47], AV.int Go.IntKind.i64 n48]) [])
                                                                (R
                                                                  (AV.tup
                                                                    [AV.agg
                                                                        [AV.sl (2 : Nat) n0 none b0, AV.sl (2 : Nat) (b39 && List.isEmpty [[AV.int Go.IntKind.i64 ek, AV.str ev]]) none (xs40 ++ [[AV.int Go.IntKind.i64 ek, AV.str ev]]),
                                                                          AV.sl (4 : Nat) false none (List.take (List.length xs33) (List.drop (0 : Nat) xs33))],
                                                                      AV.int Go.IntKind.i64 (0 : Int)])
                                                                  [])))))) :
  Hold (runF PG ty nG G0 an_greatsealref_Happened_k1s1 f_greatsealref_Happened
  [AV.agg [AV.sl (2 : Nat) n0 none b0, AV.sl (2 : Nat) n1 none b1, AV.sl (4 : Nat) n2 none c],
    AV.agg [AV.int Go.IntKind.i64 (1 : Int), AV.int Go.IntKind.i64 (1 : Int), AV.int Go.IntKind.i64 xw, AV.int Go.IntKind.i64 xo, AV.int Go.IntKind.i64 ek, AV.str ev]]
  [] R) := kshow h (by kernel_rfl)

theorem greatsealref_Happened_k2s0_run (n0 : Bool) (b0 : List (List AV)) (n1 : Bool) (b1 : List (List AV)) (n2 : Bool) (c : List (List AV)) (xw : Int) (xo : Int) (ek : Int) (ev : List UInt8) (G0 : Nat → Option Go.Obj) (R : AV → List (Option Blk) → Prop) (h :
  ∃ b0_1,
  Good PG nG G0 f_greatsealref_in [AV.int Go.IntKind.i64 (2 : Int), AV.int Go.IntKind.i64 (1 : Int), AV.int Go.IntKind.i64 (5 : Int)] [] (AV.bool b0_1) [] ∧
    ifK (!b0_1)
      (∃ b1 xs2 b3 xs4 b5 xs6 n7,
        Good PG nG G0 f_greatsealref_Happened_c1 [AV.int Go.IntKind.i64 (4 : Int)] [] (AV.tup [AV.agg [AV.sl (2 : Nat) b1 none xs2, AV.sl (2 : Nat) b3 none xs4, AV.sl (4 : Nat) b5 none xs6], AV.int Go.IntKind.i64 n7]) [] ∧
          R (AV.tup [AV.agg [AV.sl (2 : Nat) b1 none xs2, AV.sl (2 : Nat) b3 none xs4, AV.sl (4 : Nat) b5 none xs6], AV.int Go.IntKind.i64 n7]) [])
      (∃ b8,
        Good PG nG G0 f_greatsealref_in [AV.int Go.IntKind.i64 (0 : Int), AV.int Go.IntKind.i64 (0 : Int), AV.int Go.IntKind.i64 (1 : Int)] [] (AV.bool b8) [] ∧
          ifK (!b8)
            (∃ b9 xs10 b11 xs12 b13 xs14 n15,
              Good PG nG G0 f_greatsealref_Happened_c1 [AV.int Go.IntKind.i64 (5 : Int)] [] (AV.tup [AV.agg [AV.sl (2 : Nat) b9 none xs10, AV.sl (2 : Nat) b11 none xs12, AV.sl (4 : Nat) b13 none xs14], AV.int Go.IntKind.i64 n15]) [] ∧
                R (AV.tup [AV.agg [AV.sl (2 : Nat) b9 none xs10, AV.sl (2 : Nat) b11 none xs12, AV.sl (4 : Nat) b13 none xs14], AV.int Go.IntKind.i64 n15]) [])
            (∃ b16,
              Good PG nG G0 f_greatsealref_in [AV.int Go.IntKind.i64 xw, AV.int Go.IntKind.i64 (0 : Int), AV.int Go.IntKind.i64 (2 : Int)] [] (AV.bool b16) [] ∧
                ifK (!b16)
                  (∃ b17 xs18 b19 xs20 b21 xs22 n23,
                    Good PG nG G0 f_greatsealref_Happened_c1 [AV.int Go.IntKind.i64 (5 : Int)] [] (AV.tup [AV.agg [AV.sl (2 : Nat) b17 none xs18, AV.sl (2 : Nat) b19 none xs20, AV.sl (4 : Nat) b21 none xs22], AV.int Go.IntKind.i64 n23]) [] ∧
                      R (AV.tup [AV.agg [AV.sl (2 : Nat) b17 none xs18, AV.sl (2 : Nat) b19 none xs20, AV.sl (4 : Nat) b21 none xs22], AV.int Go.IntKind.i64 n23]) [])
                  (∃ b24,
                    Good PG nG G0 f_greatsealref_in [AV.int Go.IntKind.i64 xo, AV.int Go.IntKind.i64 (0 : Int), AV.int Go.IntKind.i64 (2 : Int)] [] (AV.bool b24) [] ∧
                      ifK (!b24)
                        (∃ b25 xs26 b27 xs28 b29 xs30 n31,
                          Good PG nG G0 f_greatsealref_Happened_c1 [AV.int Go.IntKind.i64 (5 : Int)] [] (AV.tup [AV.agg [AV.sl (2 : Nat) b25 none xs26, AV.sl (2 : Nat) b27 none xs28, AV.sl (4 : Nat) b29 none xs30], AV.int Go.IntKind.i64 n31]) [] ∧
                            R (AV.tup [AV.agg [AV.sl (2 : Nat) b25 none xs26, AV.sl (2 : Nat) b27 none xs28, AV.sl (4 : Nat) b29 none xs30], AV.int Go.IntKind.i64 n31]) [])
                        (∃ b32 xs33,
                          b32 = false ∧
                            Good PG nG G0 f_slices_Clone_Client [AV.sl (4 : Nat) n2 none c] [] (AV.rsl (4 : Nat) (0 : Nat) (0 : Nat) (List.length xs33)) [some (Blk.arr (4 : Nat) xs33)] ∧
                              (0 : Int) ≤ (0 : Int) ∧
                                (0 : Int) < (2 : Int) ∧
                                  (0 : Int) ≤ xw ∧
                                    xw < (↑(List.length xs33) : Int) ∧
                                      ∃ n34 s35 s36 b37,
                                        (∃ xs38, xs33[(0 : Nat) + Int.toNat xw]? = some xs38 ∧ List.take (4 : Nat) (List.drop (0 : Nat) xs38) = [AV.int Go.IntKind.i64 n34, AV.str s35, AV.str s36, AV.bool b37]) ∧
                                          (0 : Int) ≤ (0 : Int) ∧
                                            (0 : Int) < (2 : Int) ∧
                                              ∃ b39 xs40,
                                                Good PG nG G0 f_slices_Clone_Entry [AV.sl (2 : Nat) n0 none b0] [] (AV.sl (2 : Nat) b39 none xs40) [] ∧
                                                  (0 : Int) ≤ (1 : Int) ∧
                                                    (1 : Int) < (2 : Int) ∧
                                                      R
                                                        (AV.tup
                                                          [AV.agg [AV.sl (2 : Nat) n0 none b0, AV.sl (2 : Nat) b39 none xs40, AV.sl (4 : Nat) false none (List.take (List.length xs33) (List.drop (0 : Nat) xs33))],
                                                            AV.int Go.IntKind.i64 (0 : Int)])
                                                        []))))) :
  Hold (runF PG ty nG G0 an_greatsealref_Happened_k2s0 f_greatsealref_Happened
  [AV.agg [AV.sl (2 : Nat) n0 none b0, AV.sl (2 : Nat) n1 none b1, AV.sl (4 : Nat) n2 none c],
    AV.agg [AV.int Go.IntKind.i64 (2 : Int), AV.int Go.IntKind.i64 (0 : Int), AV.int Go.IntKind.i64 xw, AV.int Go.IntKind.i64 xo, AV.int Go.IntKind.i64 ek, AV.str ev]]
  [] R) := kshow h (by kernel_rfl)

theorem greatsealref_Happened_k2s1_run (n0 : Bool) (b0 : List (List AV)) (n1 : Bool) (b1 : List (List AV)) (n2 : Bool) (c : List (List AV)) (xw : Int) (xo : Int) (ek : Int) (ev : List UInt8) (G0 : Nat → Option Go.Obj) (R : AV → List (Option Blk) → Prop) (h :
  ∃ b0_1,
  Good PG nG G0 f_greatsealref_in [AV.int Go.IntKind.i64 (2 : Int), AV.int Go.IntKind.i64 (1 : Int), AV.int Go.IntKind.i64 (5 : Int)] [] (AV.bool b0_1) [] ∧
    ifK (!b0_1)
      (∃ b1 xs2 b3 xs4 b5 xs6 n7,
        Good PG nG G0 f_greatsealref_Happened_c1 [AV.int Go.IntKind.i64 (4 : Int)] [] (AV.tup [AV.agg [AV.sl (2 : Nat) b1 none xs2, AV.sl (2 : Nat) b3 none xs4, AV.sl (4 : Nat) b5 none xs6], AV.int Go.IntKind.i64 n7]) [] ∧
          R (AV.tup [AV.agg [AV.sl (2 : Nat) b1 none xs2, AV.sl (2 : Nat) b3 none xs4, AV.sl (4 : Nat) b5 none xs6], AV.int Go.IntKind.i64 n7]) [])
      (∃ b8,
        Good PG nG G0 f_greatsealref_in [AV.int Go.IntKind.i64 (1 : Int), AV.int Go.IntKind.i64 (0 : Int), AV.int Go.IntKind.i64 (1 : Int)] [] (AV.bool b8) [] ∧
          ifK (!b8)
            (∃ b9 xs10 b11 xs12 b13 xs14 n15,
              Good PG nG G0 f_greatsealref_Happened_c1 [AV.int Go.IntKind.i64 (5 : Int)] [] (AV.tup [AV.agg [AV.sl (2 : Nat) b9 none xs10, AV.sl (2 : Nat) b11 none xs12, AV.sl (4 : Nat) b13 none xs14], AV.int Go.IntKind.i64 n15]) [] ∧
                R (AV.tup [AV.agg [AV.sl (2 : Nat) b9 none xs10, AV.sl (2 : Nat) b11 none xs12, AV.sl (4 : Nat) b13 none xs14], AV.int Go.IntKind.i64 n15]) [])
            (∃ b16,
              Good PG nG G0 f_greatsealref_in [AV.int Go.IntKind.i64 xw, AV.int Go.IntKind.i64 (0 : Int), AV.int Go.IntKind.i64 (2 : Int)] [] (AV.bool b16) [] ∧
                ifK (!b16)
                  (∃ b17 xs18 b19 xs20 b21 xs22 n23,
                    Good PG nG G0 f_greatsealref_Happened_c1 [AV.int Go.IntKind.i64 (5 : Int)] [] (AV.tup [AV.agg [AV.sl (2 : Nat) b17 none xs18, AV.sl (2 : Nat) b19 none xs20, AV.sl (4 : Nat) b21 none xs22], AV.int Go.IntKind.i64 n23]) [] ∧
                      R (AV.tup [AV.agg [AV.sl (2 : Nat) b17 none xs18, AV.sl (2 : Nat) b19 none xs20, AV.sl (4 : Nat) b21 none xs22], AV.int Go.IntKind.i64 n23]) [])
                  (∃ b24,
                    Good PG nG G0 f_greatsealref_in [AV.int Go.IntKind.i64 xo, AV.int Go.IntKind.i64 (0 : Int), AV.int Go.IntKind.i64 (2 : Int)] [] (AV.bool b24) [] ∧
                      ifK (!b24)
                        (∃ b25 xs26 b27 xs28 b29 xs30 n31,
                          Good PG nG G0 f_greatsealref_Happened_c1 [AV.int Go.IntKind.i64 (5 : Int)] [] (AV.tup [AV.agg [AV.sl (2 : Nat) b25 none xs26, AV.sl (2 : Nat) b27 none xs28, AV.sl (4 : Nat) b29 none xs30], AV.int Go.IntKind.i64 n31]) [] ∧
                            R (AV.tup [AV.agg [AV.sl (2 : Nat) b25 none xs26, AV.sl (2 : Nat) b27 none xs28, AV.sl (4 : Nat) b29 none xs30], AV.int Go.IntKind.i64 n31]) [])
                        (∃ b32 xs33,
                          b32 = false ∧
                            Good PG nG G0 f_slices_Clone_Client [AV.sl (4 : Nat) n2 none c] [] (AV.rsl (4 : Nat) (0 : Nat) (0 : Nat) (List.length xs33)) [some (Blk.arr (4 : Nat) xs33)] ∧
                              (0 : Int) ≤ (1 : Int) ∧
                                (1 : Int) < (2 : Int) ∧
                                  (0 : Int) ≤ xw ∧
                                    xw < (↑(List.length xs33) : Int) ∧
                                      ∃ n34 s35 s36 b37,
                                        (∃ xs38, xs33[(0 : Nat) + Int.toNat xw]? = some xs38 ∧ List.take (4 : Nat) (List.drop (0 : Nat) xs38) = [AV.int Go.IntKind.i64 n34, AV.str s35, AV.str s36, AV.bool b37]) ∧
                                          (0 : Int) ≤ (0 : Int) ∧
                                            (0 : Int) < (2 : Int) ∧
                                              ∃ b39 xs40,
                                                Good PG nG G0 f_slices_Clone_Entry [AV.sl (2 : Nat) n0 none b0] [] (AV.sl (2 : Nat) b39 none xs40) [] ∧
                                                  (0 : Int) ≤ (1 : Int) ∧
                                                    (1 : Int) < (2 : Int) ∧
                                                      R
                                                        (AV.tup
                                                          [AV.agg [AV.sl (2 : Nat) n0 none b0, AV.sl (2 : Nat) b39 none xs40, AV.sl (4 : Nat) false none (List.take (List.length xs33) (List.drop (0 : Nat) xs33))],
                                                            AV.int Go.IntKind.i64 (0 : Int)])
                                                        []))))) :
  Hold (runF PG ty nG G0 an_greatsealref_Happened_k2s1 f_greatsealref_Happened
  [AV.agg [AV.sl (2 : Nat) n0 none b0, AV.sl (2 : Nat) n1 none b1, AV.sl (4 : Nat) n2 none c],
    AV.agg [AV.int Go.IntKind.i64 (2 : Int), AV.int Go.IntKind.i64 (1 : Int), AV.int Go.IntKind.i64 xw, AV.int Go.IntKind.i64 xo, AV.int Go.IntKind.i64 ek, AV.str ev]]
  [] R) := kshow h (by kernel_rfl)

theorem greatsealref_Happened_k3s0_run (n0 : Bool) (b0 : List (List AV)) (n1 : Bool) (b1 : List (List AV)) (n2 : Bool) (c : List (List AV)) (xw : Int) (xo : Int) (ek : Int) (ev : List UInt8) (G0 : Nat → Option Go.Obj) (R : AV → List (Option Blk) → Prop) (h :
  ∃ b0_1,
  Good PG nG G0 f_greatsealref_in [AV.int Go.IntKind.i64 (3 : Int), AV.int Go.IntKind.i64 (1 : Int), AV.int Go.IntKind.i64 (5 : Int)] [] (AV.bool b0_1) [] ∧
    ifK (!b0_1)
      (∃ b1 xs2 b3 xs4 b5 xs6 n7,
        Good PG nG G0 f_greatsealref_Happened_c1 [AV.int Go.IntKind.i64 (4 : Int)] [] (AV.tup [AV.agg [AV.sl (2 : Nat) b1 none xs2, AV.sl (2 : Nat) b3 none xs4, AV.sl (4 : Nat) b5 none xs6], AV.int Go.IntKind.i64 n7]) [] ∧
          R (AV.tup [AV.agg [AV.sl (2 : Nat) b1 none xs2, AV.sl (2 : Nat) b3 none xs4, AV.sl (4 : Nat) b5 none xs6], AV.int Go.IntKind.i64 n7]) [])
      (∃ b8,
        Good PG nG G0 f_greatsealref_in [AV.int Go.IntKind.i64 (0 : Int), AV.int Go.IntKind.i64 (0 : Int), AV.int Go.IntKind.i64 (1 : Int)] [] (AV.bool b8) [] ∧
          ifK (!b8)
            (∃ b9 xs10 b11 xs12 b13 xs14 n15,
              Good PG nG G0 f_greatsealref_Happened_c1 [AV.int Go.IntKind.i64 (5 : Int)] [] (AV.tup [AV.agg [AV.sl (2 : Nat) b9 none xs10, AV.sl (2 : Nat) b11 none xs12, AV.sl (4 : Nat) b13 none xs14], AV.int Go.IntKind.i64 n15]) [] ∧
                R (AV.tup [AV.agg [AV.sl (2 : Nat) b9 none xs10, AV.sl (2 : Nat) b11 none xs12, AV.sl (4 : Nat) b13 none xs14], AV.int Go.IntKind.i64 n15]) [])
            (∃ b16,
              Good PG nG G0 f_greatsealref_in [AV.int Go.IntKind.i64 xw, AV.int Go.IntKind.i64 (0 : Int), AV.int Go.IntKind.i64 (2 : Int)] [] (AV.bool b16) [] ∧
                ifK (!b16)
                  (∃ b17 xs18 b19 xs20 b21 xs22 n23,
                    Good PG nG G0 f_greatsealref_Happened_c1 [AV.int Go.IntKind.i64 (5 : Int)] [] (AV.tup [AV.agg [AV.sl (2 : Nat) b17 none xs18, AV.sl (2 : Nat) b19 none xs20, AV.sl (4 : Nat) b21 none xs22], AV.int Go.IntKind.i64 n23]) [] ∧
                      R (AV.tup [AV.agg [AV.sl (2 : Nat) b17 none xs18, AV.sl (2 : Nat) b19 none xs20, AV.sl (4 : Nat) b21 none xs22], AV.int Go.IntKind.i64 n23]) [])
                  (∃ b24,
                    Good PG nG G0 f_greatsealref_in [AV.int Go.IntKind.i64 xo, AV.int Go.IntKind.i64 (0 : Int), AV.int Go.IntKind.i64 (2 : Int)] [] (AV.bool b24) [] ∧
                      ifK (!b24)
                        (∃ b25 xs26 b27 xs28 b29 xs30 n31,
                          Good PG nG G0 f_greatsealref_Happened_c1 [AV.int Go.IntKind.i64 (5 : Int)] [] (AV.tup [AV.agg [AV.sl (2 : Nat) b25 none xs26, AV.sl (2 : Nat) b27 none xs28, AV.sl (4 : Nat) b29 none xs30], AV.int Go.IntKind.i64 n31]) [] ∧
                            R (AV.tup [AV.agg [AV.sl (2 : Nat) b25 none xs26, AV.sl (2 : Nat) b27 none xs28, AV.sl (4 : Nat) b29 none xs30], AV.int Go.IntKind.i64 n31]) [])
                        (∃ b32 xs33,
                          b32 = false ∧
                            Good PG nG G0 f_slices_Clone_Client [AV.sl (4 : Nat) n2 none c] [] (AV.rsl (4 : Nat) (0 : Nat) (0 : Nat) (List.length xs33)) [some (Blk.arr (4 : Nat) xs33)] ∧
                              (0 : Int) ≤ (0 : Int) ∧
                                (0 : Int) < (2 : Int) ∧
                                  (0 : Int) ≤ xw ∧
                                    xw < (↑(List.length xs33) : Int) ∧
                                      ∃ n34 s35 s36 b37,
                                        (∃ xs38, xs33[(0 : Nat) + Int.toNat xw]? = some xs38 ∧ List.take (4 : Nat) (List.drop (0 : Nat) xs38) = [AV.int Go.IntKind.i64 n34, AV.str s35, AV.str s36, AV.bool b37]) ∧
                                          ∃ n39 s40 s41 n42,
                                            Good PG nG G0 f_greatsealref_HeadOf [AV.agg [AV.sl (2 : Nat) n0 none b0]] [] (AV.tup [AV.agg [AV.int Go.IntKind.i64 n39, AV.str s40, AV.str s41], AV.int Go.IntKind.i64 n42]) [] ∧
                                              ifK (n42 != (0 : Int))
                                                (∃ b43 xs44 b45 xs46 b47 xs48 n49,
                                                  Good PG nG G0 f_greatsealref_Happened_c1 [AV.int Go.IntKind.i64 n42] []
                                                      (AV.tup [AV.agg [AV.sl (2 : Nat) b43 none xs44, AV.sl (2 : Nat) b45 none xs46, AV.sl (4 : Nat) b47 none xs48], AV.int Go.IntKind.i64 n49]) [] ∧
                                                    R (AV.tup [AV.agg [AV.sl (2 : Nat) b43 none xs44, AV.sl (2 : Nat) b45 none xs46, AV.sl (4 : Nat) b47 none xs48], AV.int Go.IntKind.i64 n49]) [])
                                                (∃ b50 xs51,
                                                  Good PG nG G0 f_greatsealref_growth [AV.sl (2 : Nat) n0 none b0, AV.int Go.IntKind.i64 n34] [] (AV.sl (1 : Nat) b50 none xs51) [] ∧
                                                    ∃ n52 s53 s54 b55 n56,
                                                      Good PG nG G0 f_greatsealref_Follows
                                                          [AV.agg [AV.int Go.IntKind.i64 n34, AV.str s35, AV.str s36, AV.bool b37], AV.agg [AV.int Go.IntKind.i64 n39, AV.str s40, AV.str s41], AV.sl (1 : Nat) b50 none xs51] []
                                                          (AV.tup [AV.agg [AV.int Go.IntKind.i64 n52, AV.str s53, AV.str s54, AV.bool b55], AV.int Go.IntKind.i64 n56]) [] ∧
                                                        ifK (n56 != (0 : Int))
                                                          (ifK (n56 != (7 : Int))
                                                            (∃ b57 xs58 b59 xs60 b61 xs62 n63,
                                                              Good PG nG G0 f_greatsealref_Happened_c1 [AV.int Go.IntKind.i64 n56] []
                                                                  (AV.tup [AV.agg [AV.sl (2 : Nat) b57 none xs58, AV.sl (2 : Nat) b59 none xs60, AV.sl (4 : Nat) b61 none xs62], AV.int Go.IntKind.i64 n63]) [] ∧
                                                                R (AV.tup [AV.agg [AV.sl (2 : Nat) b57 none xs58, AV.sl (2 : Nat) b59 none xs60, AV.sl (4 : Nat) b61 none xs62], AV.int Go.IntKind.i64 n63]) [])
                                                            ((0 : Int) ≤ xw ∧
                                                              xw < (↑(List.length xs33) : Int) ∧
                                                                R
                                                                  (AV.tup
                                                                    [AV.agg
                                                                        [AV.sl (2 : Nat) n0 none b0, AV.sl (2 : Nat) n1 none b1,
                                                                          AV.sl (4 : Nat) false none
                                                                            (List.take (List.length xs33)
                                                                              (List.drop (0 : Nat)
                                                                                (List.set xs33 ((0 : Nat) + Int.toNat xw)
                                                                                  (setR (List.getD xs33 ((0 : Nat) + Int.toNat xw) []) (0 : Nat) [AV.int Go.IntKind.i64 n52, AV.str s53, AV.str s54, AV.bool b55]))))],
                                                                      AV.int Go.IntKind.i64 (0 : Int)])
                                                                  []))
                                                          ((0 : Int) ≤ xw ∧
                                                            xw < (↑(List.length xs33) : Int) ∧
                                                              R
                                                                (AV.tup
                                                                  [AV.agg
                                                                      [AV.sl (2 : Nat) n0 none b0, AV.sl (2 : Nat) n1 none b1,
                                                                        AV.sl (4 : Nat) false none
                                                                          (List.take (List.length xs33)
                                                                            (List.drop (0 : Nat)
                                                                              (List.set xs33 ((0 : Nat) + Int.toNat xw)
                                                                                (setR (List.getD xs33 ((0 : Nat) + Int.toNat xw) []) (0 : Nat) [AV.int Go.IntKind.i64 n52, AV.str s53, AV.str s54, AV.bool b55]))))],
                                                                    AV.int Go.IntKind.i64 (0 : Int)])
                                                                []))))))) :
  Hold (runF PG ty nG G0 an_greatsealref_Happened_k3s0 f_greatsealref_Happened
  [AV.agg [AV.sl (2 : Nat) n0 none b0, AV.sl (2 : Nat) n1 none b1, AV.sl (4 : Nat) n2 none c],
    AV.agg [AV.int Go.IntKind.i64 (3 : Int), AV.int Go.IntKind.i64 (0 : Int), AV.int Go.IntKind.i64 xw, AV.int Go.IntKind.i64 xo, AV.int Go.IntKind.i64 ek, AV.str ev]]
  [] R) := kshow h (by kernel_rfl)

theorem greatsealref_Happened_k3s1_run (n0 : Bool) (b0 : List (List AV)) (n1 : Bool) (b1 : List (List AV)) (n2 : Bool) (c : List (List AV)) (xw : Int) (xo : Int) (ek : Int) (ev : List UInt8) (G0 : Nat → Option Go.Obj) (R : AV → List (Option Blk) → Prop) (h :
  ∃ b0_1,
  Good PG nG G0 f_greatsealref_in [AV.int Go.IntKind.i64 (3 : Int), AV.int Go.IntKind.i64 (1 : Int), AV.int Go.IntKind.i64 (5 : Int)] [] (AV.bool b0_1) [] ∧
    ifK (!b0_1)
      (∃ b1 xs2 b3 xs4 b5 xs6 n7,
        Good PG nG G0 f_greatsealref_Happened_c1 [AV.int Go.IntKind.i64 (4 : Int)] [] (AV.tup [AV.agg [AV.sl (2 : Nat) b1 none xs2, AV.sl (2 : Nat) b3 none xs4, AV.sl (4 : Nat) b5 none xs6], AV.int Go.IntKind.i64 n7]) [] ∧
          R (AV.tup [AV.agg [AV.sl (2 : Nat) b1 none xs2, AV.sl (2 : Nat) b3 none xs4, AV.sl (4 : Nat) b5 none xs6], AV.int Go.IntKind.i64 n7]) [])
      (∃ b8,
        Good PG nG G0 f_greatsealref_in [AV.int Go.IntKind.i64 (1 : Int), AV.int Go.IntKind.i64 (0 : Int), AV.int Go.IntKind.i64 (1 : Int)] [] (AV.bool b8) [] ∧
          ifK (!b8)
            (∃ b9 xs10 b11 xs12 b13 xs14 n15,
              Good PG nG G0 f_greatsealref_Happened_c1 [AV.int Go.IntKind.i64 (5 : Int)] [] (AV.tup [AV.agg [AV.sl (2 : Nat) b9 none xs10, AV.sl (2 : Nat) b11 none xs12, AV.sl (4 : Nat) b13 none xs14], AV.int Go.IntKind.i64 n15]) [] ∧
                R (AV.tup [AV.agg [AV.sl (2 : Nat) b9 none xs10, AV.sl (2 : Nat) b11 none xs12, AV.sl (4 : Nat) b13 none xs14], AV.int Go.IntKind.i64 n15]) [])
            (∃ b16,
              Good PG nG G0 f_greatsealref_in [AV.int Go.IntKind.i64 xw, AV.int Go.IntKind.i64 (0 : Int), AV.int Go.IntKind.i64 (2 : Int)] [] (AV.bool b16) [] ∧
                ifK (!b16)
                  (∃ b17 xs18 b19 xs20 b21 xs22 n23,
                    Good PG nG G0 f_greatsealref_Happened_c1 [AV.int Go.IntKind.i64 (5 : Int)] [] (AV.tup [AV.agg [AV.sl (2 : Nat) b17 none xs18, AV.sl (2 : Nat) b19 none xs20, AV.sl (4 : Nat) b21 none xs22], AV.int Go.IntKind.i64 n23]) [] ∧
                      R (AV.tup [AV.agg [AV.sl (2 : Nat) b17 none xs18, AV.sl (2 : Nat) b19 none xs20, AV.sl (4 : Nat) b21 none xs22], AV.int Go.IntKind.i64 n23]) [])
                  (∃ b24,
                    Good PG nG G0 f_greatsealref_in [AV.int Go.IntKind.i64 xo, AV.int Go.IntKind.i64 (0 : Int), AV.int Go.IntKind.i64 (2 : Int)] [] (AV.bool b24) [] ∧
                      ifK (!b24)
                        (∃ b25 xs26 b27 xs28 b29 xs30 n31,
                          Good PG nG G0 f_greatsealref_Happened_c1 [AV.int Go.IntKind.i64 (5 : Int)] [] (AV.tup [AV.agg [AV.sl (2 : Nat) b25 none xs26, AV.sl (2 : Nat) b27 none xs28, AV.sl (4 : Nat) b29 none xs30], AV.int Go.IntKind.i64 n31]) [] ∧
                            R (AV.tup [AV.agg [AV.sl (2 : Nat) b25 none xs26, AV.sl (2 : Nat) b27 none xs28, AV.sl (4 : Nat) b29 none xs30], AV.int Go.IntKind.i64 n31]) [])
                        (∃ b32 xs33,
                          b32 = false ∧
                            Good PG nG G0 f_slices_Clone_Client [AV.sl (4 : Nat) n2 none c] [] (AV.rsl (4 : Nat) (0 : Nat) (0 : Nat) (List.length xs33)) [some (Blk.arr (4 : Nat) xs33)] ∧
                              (0 : Int) ≤ (1 : Int) ∧
                                (1 : Int) < (2 : Int) ∧
                                  (0 : Int) ≤ xw ∧
                                    xw < (↑(List.length xs33) : Int) ∧
                                      ∃ n34 s35 s36 b37,
                                        (∃ xs38, xs33[(0 : Nat) + Int.toNat xw]? = some xs38 ∧ List.take (4 : Nat) (List.drop (0 : Nat) xs38) = [AV.int Go.IntKind.i64 n34, AV.str s35, AV.str s36, AV.bool b37]) ∧
                                          ∃ n39 s40 s41 n42,
                                            Good PG nG G0 f_greatsealref_HeadOf [AV.agg [AV.sl (2 : Nat) n1 none b1]] [] (AV.tup [AV.agg [AV.int Go.IntKind.i64 n39, AV.str s40, AV.str s41], AV.int Go.IntKind.i64 n42]) [] ∧
                                              ifK (n42 != (0 : Int))
                                                (∃ b43 xs44 b45 xs46 b47 xs48 n49,
                                                  Good PG nG G0 f_greatsealref_Happened_c1 [AV.int Go.IntKind.i64 n42] []
                                                      (AV.tup [AV.agg [AV.sl (2 : Nat) b43 none xs44, AV.sl (2 : Nat) b45 none xs46, AV.sl (4 : Nat) b47 none xs48], AV.int Go.IntKind.i64 n49]) [] ∧
                                                    R (AV.tup [AV.agg [AV.sl (2 : Nat) b43 none xs44, AV.sl (2 : Nat) b45 none xs46, AV.sl (4 : Nat) b47 none xs48], AV.int Go.IntKind.i64 n49]) [])
                                                (∃ b50 xs51,
                                                  Good PG nG G0 f_greatsealref_growth [AV.sl (2 : Nat) n1 none b1, AV.int Go.IntKind.i64 n34] [] (AV.sl (1 : Nat) b50 none xs51) [] ∧
                                                    ∃ n52 s53 s54 b55 n56,
                                                      Good PG nG G0 f_greatsealref_Follows
                                                          [AV.agg [AV.int Go.IntKind.i64 n34, AV.str s35, AV.str s36, AV.bool b37], AV.agg [AV.int Go.IntKind.i64 n39, AV.str s40, AV.str s41], AV.sl (1 : Nat) b50 none xs51] []
                                                          (AV.tup [AV.agg [AV.int Go.IntKind.i64 n52, AV.str s53, AV.str s54, AV.bool b55], AV.int Go.IntKind.i64 n56]) [] ∧
                                                        ifK (n56 != (0 : Int))
                                                          (ifK (n56 != (7 : Int))
                                                            (∃ b57 xs58 b59 xs60 b61 xs62 n63,
                                                              Good PG nG G0 f_greatsealref_Happened_c1 [AV.int Go.IntKind.i64 n56] []
                                                                  (AV.tup [AV.agg [AV.sl (2 : Nat) b57 none xs58, AV.sl (2 : Nat) b59 none xs60, AV.sl (4 : Nat) b61 none xs62], AV.int Go.IntKind.i64 n63]) [] ∧
                                                                R (AV.tup [AV.agg [AV.sl (2 : Nat) b57 none xs58, AV.sl (2 : Nat) b59 none xs60, AV.sl (4 : Nat) b61 none xs62], AV.int Go.IntKind.i64 n63]) [])
                                                            ((0 : Int) ≤ xw ∧
                                                              xw < (↑(List.length xs33) : Int) ∧
                                                                R
                                                                  (AV.tup
                                                                    [AV.agg
                                                                        [AV.sl (2 : Nat) n0 none b0, AV.sl (2 : Nat) n1 none b1,
                                                                          AV.sl (4 : Nat) false none
                                                                            (List.take (List.length xs33)
                                                                              (List.drop (0 : Nat)
                                                                                (List.set xs33 ((0 : Nat) + Int.toNat xw)
                                                                                  (setR (List.getD xs33 ((0 : Nat) + Int.toNat xw) []) (0 : Nat) [AV.int Go.IntKind.i64 n52, AV.str s53, AV.str s54, AV.bool b55]))))],
                                                                      AV.int Go.IntKind.i64 (0 : Int)])
                                                                  []))
                                                          ((0 : Int) ≤ xw ∧
                                                            xw < (↑(List.length xs33) : Int) ∧
                                                              R
                                                                (AV.tup
                                                                  [AV.agg
                                                                      [AV.sl (2 : Nat) n0 none b0, AV.sl (2 : Nat) n1 none b1,
                                                                        AV.sl (4 : Nat) false none
                                                                          (List.take (List.length xs33)
                                                                            (List.drop (0 : Nat)
                                                                              (List.set xs33 ((0 : Nat) + Int.toNat xw)
                                                                                (setR (List.getD xs33 ((0 : Nat) + Int.toNat xw) []) (0 : Nat) [AV.int Go.IntKind.i64 n52, AV.str s53, AV.str s54, AV.bool b55]))))],
                                                                    AV.int Go.IntKind.i64 (0 : Int)])
                                                                []))))))) :
  Hold (runF PG ty nG G0 an_greatsealref_Happened_k3s1 f_greatsealref_Happened
  [AV.agg [AV.sl (2 : Nat) n0 none b0, AV.sl (2 : Nat) n1 none b1, AV.sl (4 : Nat) n2 none c],
    AV.agg [AV.int Go.IntKind.i64 (3 : Int), AV.int Go.IntKind.i64 (1 : Int), AV.int Go.IntKind.i64 xw, AV.int Go.IntKind.i64 xo, AV.int Go.IntKind.i64 ek, AV.str ev]]
  [] R) := kshow h (by kernel_rfl)

theorem greatsealref_Happened_k4s0_run (n0 : Bool) (b0 : List (List AV)) (n1 : Bool) (b1 : List (List AV)) (n2 : Bool) (c : List (List AV)) (xw : Int) (xo : Int) (ek : Int) (ev : List UInt8) (G0 : Nat → Option Go.Obj) (R : AV → List (Option Blk) → Prop) (h :
  ∃ b0_1,
  Good PG nG G0 f_greatsealref_in [AV.int Go.IntKind.i64 (4 : Int), AV.int Go.IntKind.i64 (1 : Int), AV.int Go.IntKind.i64 (5 : Int)] [] (AV.bool b0_1) [] ∧
    ifK (!b0_1)
      (∃ b1 xs2 b3 xs4 b5 xs6 n7,
        Good PG nG G0 f_greatsealref_Happened_c1 [AV.int Go.IntKind.i64 (4 : Int)] [] (AV.tup [AV.agg [AV.sl (2 : Nat) b1 none xs2, AV.sl (2 : Nat) b3 none xs4, AV.sl (4 : Nat) b5 none xs6], AV.int Go.IntKind.i64 n7]) [] ∧
          R (AV.tup [AV.agg [AV.sl (2 : Nat) b1 none xs2, AV.sl (2 : Nat) b3 none xs4, AV.sl (4 : Nat) b5 none xs6], AV.int Go.IntKind.i64 n7]) [])
      (∃ b8,
        Good PG nG G0 f_greatsealref_in [AV.int Go.IntKind.i64 (0 : Int), AV.int Go.IntKind.i64 (0 : Int), AV.int Go.IntKind.i64 (1 : Int)] [] (AV.bool b8) [] ∧
          ifK (!b8)
            (∃ b9 xs10 b11 xs12 b13 xs14 n15,
              Good PG nG G0 f_greatsealref_Happened_c1 [AV.int Go.IntKind.i64 (5 : Int)] [] (AV.tup [AV.agg [AV.sl (2 : Nat) b9 none xs10, AV.sl (2 : Nat) b11 none xs12, AV.sl (4 : Nat) b13 none xs14], AV.int Go.IntKind.i64 n15]) [] ∧
                R (AV.tup [AV.agg [AV.sl (2 : Nat) b9 none xs10, AV.sl (2 : Nat) b11 none xs12, AV.sl (4 : Nat) b13 none xs14], AV.int Go.IntKind.i64 n15]) [])
            (∃ b16,
              Good PG nG G0 f_greatsealref_in [AV.int Go.IntKind.i64 xw, AV.int Go.IntKind.i64 (0 : Int), AV.int Go.IntKind.i64 (2 : Int)] [] (AV.bool b16) [] ∧
                ifK (!b16)
                  (∃ b17 xs18 b19 xs20 b21 xs22 n23,
                    Good PG nG G0 f_greatsealref_Happened_c1 [AV.int Go.IntKind.i64 (5 : Int)] [] (AV.tup [AV.agg [AV.sl (2 : Nat) b17 none xs18, AV.sl (2 : Nat) b19 none xs20, AV.sl (4 : Nat) b21 none xs22], AV.int Go.IntKind.i64 n23]) [] ∧
                      R (AV.tup [AV.agg [AV.sl (2 : Nat) b17 none xs18, AV.sl (2 : Nat) b19 none xs20, AV.sl (4 : Nat) b21 none xs22], AV.int Go.IntKind.i64 n23]) [])
                  (∃ b24,
                    Good PG nG G0 f_greatsealref_in [AV.int Go.IntKind.i64 xo, AV.int Go.IntKind.i64 (0 : Int), AV.int Go.IntKind.i64 (2 : Int)] [] (AV.bool b24) [] ∧
                      ifK (!b24)
                        (∃ b25 xs26 b27 xs28 b29 xs30 n31,
                          Good PG nG G0 f_greatsealref_Happened_c1 [AV.int Go.IntKind.i64 (5 : Int)] [] (AV.tup [AV.agg [AV.sl (2 : Nat) b25 none xs26, AV.sl (2 : Nat) b27 none xs28, AV.sl (4 : Nat) b29 none xs30], AV.int Go.IntKind.i64 n31]) [] ∧
                            R (AV.tup [AV.agg [AV.sl (2 : Nat) b25 none xs26, AV.sl (2 : Nat) b27 none xs28, AV.sl (4 : Nat) b29 none xs30], AV.int Go.IntKind.i64 n31]) [])
                        (∃ b32 xs33,
                          b32 = false ∧
                            Good PG nG G0 f_slices_Clone_Client [AV.sl (4 : Nat) n2 none c] [] (AV.rsl (4 : Nat) (0 : Nat) (0 : Nat) (List.length xs33)) [some (Blk.arr (4 : Nat) xs33)] ∧
                              (0 : Int) ≤ (0 : Int) ∧
                                (0 : Int) < (2 : Int) ∧
                                  (0 : Int) ≤ xw ∧
                                    xw < (↑(List.length xs33) : Int) ∧
                                      ∃ n34 s35 s36 b37,
                                        (∃ xs38, xs33[(0 : Nat) + Int.toNat xw]? = some xs38 ∧ List.take (4 : Nat) (List.drop (0 : Nat) xs38) = [AV.int Go.IntKind.i64 n34, AV.str s35, AV.str s36, AV.bool b37]) ∧
                                          (0 : Int) ≤ xo ∧
                                            xo < (↑(List.length xs33) : Int) ∧
                                              ∃ n39 s40 s41,
                                                (∃ xs42, xs33[(0 : Nat) + Int.toNat xo]? = some xs42 ∧ List.take (3 : Nat) (List.drop (0 : Nat) xs42) = [AV.int Go.IntKind.i64 n39, AV.str s40, AV.str s41]) ∧
                                                  ∃ n43,
                                                    Good PG nG G0 f_greatsealref_Meets [AV.agg [AV.int Go.IntKind.i64 n34, AV.str s35, AV.str s36], AV.agg [AV.int Go.IntKind.i64 n39, AV.str s40, AV.str s41], AV.sl (1 : Nat) true none []] []
                                                        (AV.int Go.IntKind.i64 n43) [] ∧
                                                      Does PG nG G0 (fnOf PG f_greatsealref_Happened) (0 : Nat) (lp PG f_greatsealref_Happened (0 : Nat))
                                                        (mkT (252 : Nat)
                                                          [((2 : Nat), AV.ref (0 : Nat) (0 : Nat)), ((3 : Nat), AV.ref (1 : Nat) (0 : Nat)), ((4 : Nat), AV.ref (2 : Nat) (0 : Nat)), ((13 : Nat), AV.ref (3 : Nat) (0 : Nat)),
                                                            ((14 : Nat), AV.ref (4 : Nat) (0 : Nat)), ((15 : Nat), AV.bool (n43 == (0 : Int))), ((164 : Nat), AV.agg [AV.sl (2 : Nat) n0 none b0, AV.sl (2 : Nat) n1 none b1]),
                                                            ((165 : Nat), AV.int Go.IntKind.i64 (0 : Int))])
                                                        [some (Blk.var [AV.sl (2 : Nat) n0 none b0, AV.sl (2 : Nat) n1 none b1, AV.rsl (4 : Nat) (5 : Nat) (0 : Nat) (List.length xs33)]),
                                                          some (Blk.var [AV.int Go.IntKind.i64 (4 : Int), AV.int Go.IntKind.i64 (0 : Int), AV.int Go.IntKind.i64 xw, AV.int Go.IntKind.i64 xo, AV.int Go.IntKind.i64 ek, AV.str ev]),
                                                          some (Blk.var [AV.sl (2 : Nat) true none [], AV.sl (2 : Nat) true none [], AV.sl (4 : Nat) true none []]), some (Blk.var [AV.int Go.IntKind.i64 n34, AV.str s35, AV.str s36]),
                                                          some (Blk.var [AV.int Go.IntKind.i64 n39, AV.str s40, AV.str s41]), some (Blk.arr (4 : Nat) xs33)]
                                                        R))))) :
  Hold (runF PG ty nG G0 an_greatsealref_Happened_k4s0 f_greatsealref_Happened
  [AV.agg [AV.sl (2 : Nat) n0 none b0, AV.sl (2 : Nat) n1 none b1, AV.sl (4 : Nat) n2 none c],
    AV.agg [AV.int Go.IntKind.i64 (4 : Int), AV.int Go.IntKind.i64 (0 : Int), AV.int Go.IntKind.i64 xw, AV.int Go.IntKind.i64 xo, AV.int Go.IntKind.i64 ek, AV.str ev]]
  [] R) := kshow h (by kernel_rfl)

theorem greatsealref_Happened_k4s0_l0_run (G0 : Nat → Option Obj) (b44 : Bool) (b45 : Bool) (xs46 : List (List AV)) (b47 : Bool) (xs48 : List (List AV)) (n49 : Int) (b50 : Bool) (xs51 : List (List AV)) (b52 : Bool) (xs53 : List (List AV)) (m54 : Nat) (m55 : Nat) (n56 : Int) (n57 : Int) (n58 : Int) (n59 : Int) (n60 : Int) (s61 : List UInt8) (b62 : Bool) (xs63 : List (List AV)) (b64 : Bool) (xs65 : List (List AV)) (b66 : Bool) (xs67 : List (List AV)) (n68 : Int) (s69 : List UInt8) (s70 : List UInt8) (n71 : Int) (s72 : List UInt8) (s73 : List UInt8) (xs74 : List (List AV)) (R : AV → List (Option Blk) → Prop) (h :
  ifK (decide (n49 < (2 : Int)))
  ((0 : Int) ≤ n49 ∧
    n49 < (2 : Int) ∧
      ifK (n49 == (0 : Int))
        (ifK (decide ((if n71 > n68 then n71 else n68) ≤ (↑(List.length xs46) : Int)))
          ((0 : Int) ≤ (0 : Int) ∧
            ((0 : Int) ≤ if n71 > n68 then n71 else n68) ∧
              (if n71 > n68 then n71 else n68) ≤ (↑(List.length xs46) : Int) ∧
                ∃ b75 xs76,
                  Good PG nG G0 f_greatsealref_growth [AV.sl (2 : Nat) b45 none (List.drop (0 : Nat) (List.take (Int.toNat (if n71 > n68 then n71 else n68)) xs46)), AV.int Go.IntKind.i64 (if n71 < n68 then n71 else n68)] []
                      (AV.sl (1 : Nat) b75 none xs76) [] ∧
                    ∃ n77,
                      Good PG nG G0 f_greatsealref_Meets [AV.agg [AV.int Go.IntKind.i64 n68, AV.str s69, AV.str s70], AV.agg [AV.int Go.IntKind.i64 n71, AV.str s72, AV.str s73], AV.sl (1 : Nat) b75 none xs76] [] (AV.int Go.IntKind.i64 n77)
                          [] ∧
                        ifK (n77 == (0 : Int))
                          (Does PG nG G0 (fnOf PG f_greatsealref_Happened) (0 : Nat) (lp PG f_greatsealref_Happened (0 : Nat))
                            (mkT (252 : Nat)
                              [((2 : Nat), AV.ref (0 : Nat) (0 : Nat)), ((3 : Nat), AV.ref (1 : Nat) (0 : Nat)), ((4 : Nat), AV.ref (2 : Nat) (0 : Nat)), ((13 : Nat), AV.ref (3 : Nat) (0 : Nat)), ((14 : Nat), AV.ref (4 : Nat) (0 : Nat)),
                                ((15 : Nat), AV.bool true), ((164 : Nat), AV.agg [AV.sl (2 : Nat) b45 none xs46, AV.sl (2 : Nat) b47 none xs48]), ((165 : Nat), AV.int Go.IntKind.i64 (Go.IntKind.wrap Go.IntKind.i64 (n49 + (1 : Int))))])
                            [some (Blk.var [AV.sl (2 : Nat) b50 none xs51, AV.sl (2 : Nat) b52 none xs53, AV.rsl (4 : Nat) (5 : Nat) m54 m55]),
                              some (Blk.var [AV.int Go.IntKind.i64 n56, AV.int Go.IntKind.i64 n57, AV.int Go.IntKind.i64 n58, AV.int Go.IntKind.i64 n59, AV.int Go.IntKind.i64 n60, AV.str s61]),
                              some (Blk.var [AV.sl (2 : Nat) b62 none xs63, AV.sl (2 : Nat) b64 none xs65, AV.sl (4 : Nat) b66 none xs67]), some (Blk.var [AV.int Go.IntKind.i64 n68, AV.str s69, AV.str s70]),
                              some (Blk.var [AV.int Go.IntKind.i64 n71, AV.str s72, AV.str s73]), some (Blk.arr (4 : Nat) xs74)]
                            R)
                          (Does PG nG G0 (fnOf PG f_greatsealref_Happened) (0 : Nat) (lp PG f_greatsealref_Happened (0 : Nat))
                            (mkT (252 : Nat)
                              [((2 : Nat), AV.ref (0 : Nat) (0 : Nat)), ((3 : Nat), AV.ref (1 : Nat) (0 : Nat)), ((4 : Nat), AV.ref (2 : Nat) (0 : Nat)), ((13 : Nat), AV.ref (3 : Nat) (0 : Nat)), ((14 : Nat), AV.ref (4 : Nat) (0 : Nat)),
                                ((15 : Nat), AV.bool b44), ((164 : Nat), AV.agg [AV.sl (2 : Nat) b45 none xs46, AV.sl (2 : Nat) b47 none xs48]), ((165 : Nat), AV.int Go.IntKind.i64 (Go.IntKind.wrap Go.IntKind.i64 (n49 + (1 : Int))))])
                            [some (Blk.var [AV.sl (2 : Nat) b50 none xs51, AV.sl (2 : Nat) b52 none xs53, AV.rsl (4 : Nat) (5 : Nat) m54 m55]),
                              some (Blk.var [AV.int Go.IntKind.i64 n56, AV.int Go.IntKind.i64 n57, AV.int Go.IntKind.i64 n58, AV.int Go.IntKind.i64 n59, AV.int Go.IntKind.i64 n60, AV.str s61]),
                              some (Blk.var [AV.sl (2 : Nat) b62 none xs63, AV.sl (2 : Nat) b64 none xs65, AV.sl (4 : Nat) b66 none xs67]), some (Blk.var [AV.int Go.IntKind.i64 n68, AV.str s69, AV.str s70]),
                              some (Blk.var [AV.int Go.IntKind.i64 n71, AV.str s72, AV.str s73]), some (Blk.arr (4 : Nat) xs74)]
                            R))
          (Does PG nG G0 (fnOf PG f_greatsealref_Happened) (0 : Nat) (lp PG f_greatsealref_Happened (0 : Nat))
            (mkT (252 : Nat)
              [((2 : Nat), AV.ref (0 : Nat) (0 : Nat)), ((3 : Nat), AV.ref (1 : Nat) (0 : Nat)), ((4 : Nat), AV.ref (2 : Nat) (0 : Nat)), ((13 : Nat), AV.ref (3 : Nat) (0 : Nat)), ((14 : Nat), AV.ref (4 : Nat) (0 : Nat)),
                ((15 : Nat), AV.bool b44), ((164 : Nat), AV.agg [AV.sl (2 : Nat) b45 none xs46, AV.sl (2 : Nat) b47 none xs48]), ((165 : Nat), AV.int Go.IntKind.i64 (Go.IntKind.wrap Go.IntKind.i64 (n49 + (1 : Int))))])
            [some (Blk.var [AV.sl (2 : Nat) b50 none xs51, AV.sl (2 : Nat) b52 none xs53, AV.rsl (4 : Nat) (5 : Nat) m54 m55]),
              some (Blk.var [AV.int Go.IntKind.i64 n56, AV.int Go.IntKind.i64 n57, AV.int Go.IntKind.i64 n58, AV.int Go.IntKind.i64 n59, AV.int Go.IntKind.i64 n60, AV.str s61]),
              some (Blk.var [AV.sl (2 : Nat) b62 none xs63, AV.sl (2 : Nat) b64 none xs65, AV.sl (4 : Nat) b66 none xs67]), some (Blk.var [AV.int Go.IntKind.i64 n68, AV.str s69, AV.str s70]),
              some (Blk.var [AV.int Go.IntKind.i64 n71, AV.str s72, AV.str s73]), some (Blk.arr (4 : Nat) xs74)]
            R))
        (ifK (decide ((if n71 > n68 then n71 else n68) ≤ (↑(List.length xs48) : Int)))
          ((0 : Int) ≤ (0 : Int) ∧
            ((0 : Int) ≤ if n71 > n68 then n71 else n68) ∧
              (if n71 > n68 then n71 else n68) ≤ (↑(List.length xs48) : Int) ∧
                ∃ b78 xs79,
                  Good PG nG G0 f_greatsealref_growth [AV.sl (2 : Nat) b47 none (List.drop (0 : Nat) (List.take (Int.toNat (if n71 > n68 then n71 else n68)) xs48)), AV.int Go.IntKind.i64 (if n71 < n68 then n71 else n68)] []
                      (AV.sl (1 : Nat) b78 none xs79) [] ∧
                    ∃ n80,
                      Good PG nG G0 f_greatsealref_Meets [AV.agg [AV.int Go.IntKind.i64 n68, AV.str s69, AV.str s70], AV.agg [AV.int Go.IntKind.i64 n71, AV.str s72, AV.str s73], AV.sl (1 : Nat) b78 none xs79] [] (AV.int Go.IntKind.i64 n80)
                          [] ∧
                        ifK (n80 == (0 : Int))
                          (Does PG nG G0 (fnOf PG f_greatsealref_Happened) (0 : Nat) (lp PG f_greatsealref_Happened (0 : Nat))
                            (mkT (252 : Nat)
                              [((2 : Nat), AV.ref (0 : Nat) (0 : Nat)), ((3 : Nat), AV.ref (1 : Nat) (0 : Nat)), ((4 : Nat), AV.ref (2 : Nat) (0 : Nat)), ((13 : Nat), AV.ref (3 : Nat) (0 : Nat)), ((14 : Nat), AV.ref (4 : Nat) (0 : Nat)),
                                ((15 : Nat), AV.bool true), ((164 : Nat), AV.agg [AV.sl (2 : Nat) b45 none xs46, AV.sl (2 : Nat) b47 none xs48]), ((165 : Nat), AV.int Go.IntKind.i64 (Go.IntKind.wrap Go.IntKind.i64 (n49 + (1 : Int))))])
                            [some (Blk.var [AV.sl (2 : Nat) b50 none xs51, AV.sl (2 : Nat) b52 none xs53, AV.rsl (4 : Nat) (5 : Nat) m54 m55]),
                              some (Blk.var [AV.int Go.IntKind.i64 n56, AV.int Go.IntKind.i64 n57, AV.int Go.IntKind.i64 n58, AV.int Go.IntKind.i64 n59, AV.int Go.IntKind.i64 n60, AV.str s61]),
                              some (Blk.var [AV.sl (2 : Nat) b62 none xs63, AV.sl (2 : Nat) b64 none xs65, AV.sl (4 : Nat) b66 none xs67]), some (Blk.var [AV.int Go.IntKind.i64 n68, AV.str s69, AV.str s70]),
                              some (Blk.var [AV.int Go.IntKind.i64 n71, AV.str s72, AV.str s73]), some (Blk.arr (4 : Nat) xs74)]
                            R)
                          (Does PG nG G0 (fnOf PG f_greatsealref_Happened) (0 : Nat) (lp PG f_greatsealref_Happened (0 : Nat))
                            (mkT (252 : Nat)
                              [((2 : Nat), AV.ref (0 : Nat) (0 : Nat)), ((3 : Nat), AV.ref (1 : Nat) (0 : Nat)), ((4 : Nat), AV.ref (2 : Nat) (0 : Nat)), ((13 : Nat), AV.ref (3 : Nat) (0 : Nat)), ((14 : Nat), AV.ref (4 : Nat) (0 : Nat)),
                                ((15 : Nat), AV.bool b44), ((164 : Nat), AV.agg [AV.sl (2 : Nat) b45 none xs46, AV.sl (2 : Nat) b47 none xs48]), ((165 : Nat), AV.int Go.IntKind.i64 (Go.IntKind.wrap Go.IntKind.i64 (n49 + (1 : Int))))])
                            [some (Blk.var [AV.sl (2 : Nat) b50 none xs51, AV.sl (2 : Nat) b52 none xs53, AV.rsl (4 : Nat) (5 : Nat) m54 m55]),
                              some (Blk.var [AV.int Go.IntKind.i64 n56, AV.int Go.IntKind.i64 n57, AV.int Go.IntKind.i64 n58, AV.int Go.IntKind.i64 n59, AV.int Go.IntKind.i64 n60, AV.str s61]),
                              some (Blk.var [AV.sl (2 : Nat) b62 none xs63, AV.sl (2 : Nat) b64 none xs65, AV.sl (4 : Nat) b66 none xs67]), some (Blk.var [AV.int Go.IntKind.i64 n68, AV.str s69, AV.str s70]),
                              some (Blk.var [AV.int Go.IntKind.i64 n71, AV.str s72, AV.str s73]), some (Blk.arr (4 : Nat) xs74)]
                            R))
          (Does PG nG G0 (fnOf PG f_greatsealref_Happened) (0 : Nat) (lp PG f_greatsealref_Happened (0 : Nat))
            (mkT (252 : Nat)
              [((2 : Nat), AV.ref (0 : Nat) (0 : Nat)), ((3 : Nat), AV.ref (1 : Nat) (0 : Nat)), ((4 : Nat), AV.ref (2 : Nat) (0 : Nat)), ((13 : Nat), AV.ref (3 : Nat) (0 : Nat)), ((14 : Nat), AV.ref (4 : Nat) (0 : Nat)),
                ((15 : Nat), AV.bool b44), ((164 : Nat), AV.agg [AV.sl (2 : Nat) b45 none xs46, AV.sl (2 : Nat) b47 none xs48]), ((165 : Nat), AV.int Go.IntKind.i64 (Go.IntKind.wrap Go.IntKind.i64 (n49 + (1 : Int))))])
            [some (Blk.var [AV.sl (2 : Nat) b50 none xs51, AV.sl (2 : Nat) b52 none xs53, AV.rsl (4 : Nat) (5 : Nat) m54 m55]),
              some (Blk.var [AV.int Go.IntKind.i64 n56, AV.int Go.IntKind.i64 n57, AV.int Go.IntKind.i64 n58, AV.int Go.IntKind.i64 n59, AV.int Go.IntKind.i64 n60, AV.str s61]),
              some (Blk.var [AV.sl (2 : Nat) b62 none xs63, AV.sl (2 : Nat) b64 none xs65, AV.sl (4 : Nat) b66 none xs67]), some (Blk.var [AV.int Go.IntKind.i64 n68, AV.str s69, AV.str s70]),
              some (Blk.var [AV.int Go.IntKind.i64 n71, AV.str s72, AV.str s73]), some (Blk.arr (4 : Nat) xs74)]
            R)))
  (ifK (!b44)
    ((0 : Int) ≤ n58 ∧
      n58 < (↑m55 : Int) ∧
        (0 : Int) ≤ n59 ∧
          n59 < (↑m55 : Int) ∧
            R
              (AV.tup
                [AV.agg
                    [AV.sl (2 : Nat) b50 none xs51, AV.sl (2 : Nat) b52 none xs53,
                      AV.sl (4 : Nat) false none
                        (List.take m55
                          (List.drop m54
                            (List.set (List.set xs74 (m54 + Int.toNat n58) (setR (List.getD xs74 (m54 + Int.toNat n58) []) (3 : Nat) [AV.bool true])) (m54 + Int.toNat n59)
                              (setR (List.getD (List.set xs74 (m54 + Int.toNat n58) (setR (List.getD xs74 (m54 + Int.toNat n58) []) (3 : Nat) [AV.bool true])) (m54 + Int.toNat n59) []) (3 : Nat) [AV.bool true]))))],
                  AV.int Go.IntKind.i64 (0 : Int)])
              [])
    (R (AV.tup [AV.agg [AV.sl (2 : Nat) b50 none xs51, AV.sl (2 : Nat) b52 none xs53, AV.sl (4 : Nat) false none (List.take m55 (List.drop m54 xs74))], AV.int Go.IntKind.i64 (0 : Int)]) []))) :
  Hold (runL PG ty nG G0 an_greatsealref_Happened_k4s0 f_greatsealref_Happened (0 : Nat) (0 : Nat)
  (mkT (252 : Nat)
    [((2 : Nat), AV.ref (0 : Nat) (0 : Nat)), ((3 : Nat), AV.ref (1 : Nat) (0 : Nat)), ((4 : Nat), AV.ref (2 : Nat) (0 : Nat)), ((13 : Nat), AV.ref (3 : Nat) (0 : Nat)), ((14 : Nat), AV.ref (4 : Nat) (0 : Nat)), ((15 : Nat), AV.bool b44),
      ((164 : Nat), AV.agg [AV.sl (2 : Nat) b45 none xs46, AV.sl (2 : Nat) b47 none xs48]), ((165 : Nat), AV.int Go.IntKind.i64 n49)])
  [some (Blk.var [AV.sl (2 : Nat) b50 none xs51, AV.sl (2 : Nat) b52 none xs53, AV.rsl (4 : Nat) (5 : Nat) m54 m55]),
    some (Blk.var [AV.int Go.IntKind.i64 n56, AV.int Go.IntKind.i64 n57, AV.int Go.IntKind.i64 n58, AV.int Go.IntKind.i64 n59, AV.int Go.IntKind.i64 n60, AV.str s61]),
    some (Blk.var [AV.sl (2 : Nat) b62 none xs63, AV.sl (2 : Nat) b64 none xs65, AV.sl (4 : Nat) b66 none xs67]), some (Blk.var [AV.int Go.IntKind.i64 n68, AV.str s69, AV.str s70]),
    some (Blk.var [AV.int Go.IntKind.i64 n71, AV.str s72, AV.str s73]), some (Blk.arr (4 : Nat) xs74)]
  R) := kshow h (by kernel_rfl)

theorem greatsealref_Happened_k4s1_run (n0 : Bool) (b0 : List (List AV)) (n1 : Bool) (b1 : List (List AV)) (n2 : Bool) (c : List (List AV)) (xw : Int) (xo : Int) (ek : Int) (ev : List UInt8) (G0 : Nat → Option Go.Obj) (R : AV → List (Option Blk) → Prop) (h :
  ∃ b0_1,
  Good PG nG G0 f_greatsealref_in [AV.int Go.IntKind.i64 (4 : Int), AV.int Go.IntKind.i64 (1 : Int), AV.int Go.IntKind.i64 (5 : Int)] [] (AV.bool b0_1) [] ∧
    ifK (!b0_1)
      (∃ b1 xs2 b3 xs4 b5 xs6 n7,
        Good PG nG G0 f_greatsealref_Happened_c1 [AV.int Go.IntKind.i64 (4 : Int)] [] (AV.tup [AV.agg [AV.sl (2 : Nat) b1 none xs2, AV.sl (2 : Nat) b3 none xs4, AV.sl (4 : Nat) b5 none xs6], AV.int Go.IntKind.i64 n7]) [] ∧
          R (AV.tup [AV.agg [AV.sl (2 : Nat) b1 none xs2, AV.sl (2 : Nat) b3 none xs4, AV.sl (4 : Nat) b5 none xs6], AV.int Go.IntKind.i64 n7]) [])
      (∃ b8,
        Good PG nG G0 f_greatsealref_in [AV.int Go.IntKind.i64 (1 : Int), AV.int Go.IntKind.i64 (0 : Int), AV.int Go.IntKind.i64 (1 : Int)] [] (AV.bool b8) [] ∧
          ifK (!b8)
            (∃ b9 xs10 b11 xs12 b13 xs14 n15,
              Good PG nG G0 f_greatsealref_Happened_c1 [AV.int Go.IntKind.i64 (5 : Int)] [] (AV.tup [AV.agg [AV.sl (2 : Nat) b9 none xs10, AV.sl (2 : Nat) b11 none xs12, AV.sl (4 : Nat) b13 none xs14], AV.int Go.IntKind.i64 n15]) [] ∧
                R (AV.tup [AV.agg [AV.sl (2 : Nat) b9 none xs10, AV.sl (2 : Nat) b11 none xs12, AV.sl (4 : Nat) b13 none xs14], AV.int Go.IntKind.i64 n15]) [])
            (∃ b16,
              Good PG nG G0 f_greatsealref_in [AV.int Go.IntKind.i64 xw, AV.int Go.IntKind.i64 (0 : Int), AV.int Go.IntKind.i64 (2 : Int)] [] (AV.bool b16) [] ∧
                ifK (!b16)
                  (∃ b17 xs18 b19 xs20 b21 xs22 n23,
                    Good PG nG G0 f_greatsealref_Happened_c1 [AV.int Go.IntKind.i64 (5 : Int)] [] (AV.tup [AV.agg [AV.sl (2 : Nat) b17 none xs18, AV.sl (2 : Nat) b19 none xs20, AV.sl (4 : Nat) b21 none xs22], AV.int Go.IntKind.i64 n23]) [] ∧
                      R (AV.tup [AV.agg [AV.sl (2 : Nat) b17 none xs18, AV.sl (2 : Nat) b19 none xs20, AV.sl (4 : Nat) b21 none xs22], AV.int Go.IntKind.i64 n23]) [])
                  (∃ b24,
                    Good PG nG G0 f_greatsealref_in [AV.int Go.IntKind.i64 xo, AV.int Go.IntKind.i64 (0 : Int), AV.int Go.IntKind.i64 (2 : Int)] [] (AV.bool b24) [] ∧
                      ifK (!b24)
                        (∃ b25 xs26 b27 xs28 b29 xs30 n31,
                          Good PG nG G0 f_greatsealref_Happened_c1 [AV.int Go.IntKind.i64 (5 : Int)] [] (AV.tup [AV.agg [AV.sl (2 : Nat) b25 none xs26, AV.sl (2 : Nat) b27 none xs28, AV.sl (4 : Nat) b29 none xs30], AV.int Go.IntKind.i64 n31]) [] ∧
                            R (AV.tup [AV.agg [AV.sl (2 : Nat) b25 none xs26, AV.sl (2 : Nat) b27 none xs28, AV.sl (4 : Nat) b29 none xs30], AV.int Go.IntKind.i64 n31]) [])
                        (∃ b32 xs33,
                          b32 = false ∧
                            Good PG nG G0 f_slices_Clone_Client [AV.sl (4 : Nat) n2 none c] [] (AV.rsl (4 : Nat) (0 : Nat) (0 : Nat) (List.length xs33)) [some (Blk.arr (4 : Nat) xs33)] ∧
                              (0 : Int) ≤ (1 : Int) ∧
                                (1 : Int) < (2 : Int) ∧
                                  (0 : Int) ≤ xw ∧
                                    xw < (↑(List.length xs33) : Int) ∧
                                      ∃ n34 s35 s36 b37,
                                        (∃ xs38, xs33[(0 : Nat) + Int.toNat xw]? = some xs38 ∧ List.take (4 : Nat) (List.drop (0 : Nat) xs38) = [AV.int Go.IntKind.i64 n34, AV.str s35, AV.str s36, AV.bool b37]) ∧
                                          (0 : Int) ≤ xo ∧
                                            xo < (↑(List.length xs33) : Int) ∧
                                              ∃ n39 s40 s41,
                                                (∃ xs42, xs33[(0 : Nat) + Int.toNat xo]? = some xs42 ∧ List.take (3 : Nat) (List.drop (0 : Nat) xs42) = [AV.int Go.IntKind.i64 n39, AV.str s40, AV.str s41]) ∧
                                                  ∃ n43,
                                                    Good PG nG G0 f_greatsealref_Meets [AV.agg [AV.int Go.IntKind.i64 n34, AV.str s35, AV.str s36], AV.agg [AV.int Go.IntKind.i64 n39, AV.str s40, AV.str s41], AV.sl (1 : Nat) true none []] []
                                                        (AV.int Go.IntKind.i64 n43) [] ∧
                                                      Does PG nG G0 (fnOf PG f_greatsealref_Happened) (0 : Nat) (lp PG f_greatsealref_Happened (0 : Nat))
                                                        (mkT (252 : Nat)
                                                          [((2 : Nat), AV.ref (0 : Nat) (0 : Nat)), ((3 : Nat), AV.ref (1 : Nat) (0 : Nat)), ((4 : Nat), AV.ref (2 : Nat) (0 : Nat)), ((13 : Nat), AV.ref (3 : Nat) (0 : Nat)),
                                                            ((14 : Nat), AV.ref (4 : Nat) (0 : Nat)), ((15 : Nat), AV.bool (n43 == (0 : Int))), ((164 : Nat), AV.agg [AV.sl (2 : Nat) n0 none b0, AV.sl (2 : Nat) n1 none b1]),
                                                            ((165 : Nat), AV.int Go.IntKind.i64 (0 : Int))])
                                                        [some (Blk.var [AV.sl (2 : Nat) n0 none b0, AV.sl (2 : Nat) n1 none b1, AV.rsl (4 : Nat) (5 : Nat) (0 : Nat) (List.length xs33)]),
                                                          some (Blk.var [AV.int Go.IntKind.i64 (4 : Int), AV.int Go.IntKind.i64 (1 : Int), AV.int Go.IntKind.i64 xw, AV.int Go.IntKind.i64 xo, AV.int Go.IntKind.i64 ek, AV.str ev]),
                                                          some (Blk.var [AV.sl (2 : Nat) true none [], AV.sl (2 : Nat) true none [], AV.sl (4 : Nat) true none []]), some (Blk.var [AV.int Go.IntKind.i64 n34, AV.str s35, AV.str s36]),
                                                          some (Blk.var [AV.int Go.IntKind.i64 n39, AV.str s40, AV.str s41]), some (Blk.arr (4 : Nat) xs33)]
                                                        R))))) :
  Hold (runF PG ty nG G0 an_greatsealref_Happened_k4s1 f_greatsealref_Happened
  [AV.agg [AV.sl (2 : Nat) n0 none b0, AV.sl (2 : Nat) n1 none b1, AV.sl (4 : Nat) n2 none c],
    AV.agg [AV.int Go.IntKind.i64 (4 : Int), AV.int Go.IntKind.i64 (1 : Int), AV.int Go.IntKind.i64 xw, AV.int Go.IntKind.i64 xo, AV.int Go.IntKind.i64 ek, AV.str ev]]
  [] R) := kshow h (by kernel_rfl)

theorem greatsealref_Happened_k4s1_l0_run (G0 : Nat → Option Obj) (b44 : Bool) (b45 : Bool) (xs46 : List (List AV)) (b47 : Bool) (xs48 : List (List AV)) (n49 : Int) (b50 : Bool) (xs51 : List (List AV)) (b52 : Bool) (xs53 : List (List AV)) (m54 : Nat) (m55 : Nat) (n56 : Int) (n57 : Int) (n58 : Int) (n59 : Int) (n60 : Int) (s61 : List UInt8) (b62 : Bool) (xs63 : List (List AV)) (b64 : Bool) (xs65 : List (List AV)) (b66 : Bool) (xs67 : List (List AV)) (n68 : Int) (s69 : List UInt8) (s70 : List UInt8) (n71 : Int) (s72 : List UInt8) (s73 : List UInt8) (xs74 : List (List AV)) (R : AV → List (Option Blk) → Prop) (h :
  ifK (decide (n49 < (2 : Int)))
  ((0 : Int) ≤ n49 ∧
    n49 < (2 : Int) ∧
      ifK (n49 == (0 : Int))
        (ifK (decide ((if n71 > n68 then n71 else n68) ≤ (↑(List.length xs46) : Int)))
          ((0 : Int) ≤ (0 : Int) ∧
            ((0 : Int) ≤ if n71 > n68 then n71 else n68) ∧
              (if n71 > n68 then n71 else n68) ≤ (↑(List.length xs46) : Int) ∧
                ∃ b75 xs76,
                  Good PG nG G0 f_greatsealref_growth [AV.sl (2 : Nat) b45 none (List.drop (0 : Nat) (List.take (Int.toNat (if n71 > n68 then n71 else n68)) xs46)), AV.int Go.IntKind.i64 (if n71 < n68 then n71 else n68)] []
                      (AV.sl (1 : Nat) b75 none xs76) [] ∧
                    ∃ n77,
                      Good PG nG G0 f_greatsealref_Meets [AV.agg [AV.int Go.IntKind.i64 n68, AV.str s69, AV.str s70], AV.agg [AV.int Go.IntKind.i64 n71, AV.str s72, AV.str s73], AV.sl (1 : Nat) b75 none xs76] [] (AV.int Go.IntKind.i64 n77)
                          [] ∧
                        ifK (n77 == (0 : Int))
                          (Does PG nG G0 (fnOf PG f_greatsealref_Happened) (0 : Nat) (lp PG f_greatsealref_Happened (0 : Nat))
                            (mkT (252 : Nat)
                              [((2 : Nat), AV.ref (0 : Nat) (0 : Nat)), ((3 : Nat), AV.ref (1 : Nat) (0 : Nat)), ((4 : Nat), AV.ref (2 : Nat) (0 : Nat)), ((13 : Nat), AV.ref (3 : Nat) (0 : Nat)), ((14 : Nat), AV.ref (4 : Nat) (0 : Nat)),
                                ((15 : Nat), AV.bool true), ((164 : Nat), AV.agg [AV.sl (2 : Nat) b45 none xs46, AV.sl (2 : Nat) b47 none xs48]), ((165 : Nat), AV.int Go.IntKind.i64 (Go.IntKind.wrap Go.IntKind.i64 (n49 + (1 : Int))))])
                            [some (Blk.var [AV.sl (2 : Nat) b50 none xs51, AV.sl (2 : Nat) b52 none xs53, AV.rsl (4 : Nat) (5 : Nat) m54 m55]),
                              some (Blk.var [AV.int Go.IntKind.i64 n56, AV.int Go.IntKind.i64 n57, AV.int Go.IntKind.i64 n58, AV.int Go.IntKind.i64 n59, AV.int Go.IntKind.i64 n60, AV.str s61]),
                              some (Blk.var [AV.sl (2 : Nat) b62 none xs63, AV.sl (2 : Nat) b64 none xs65, AV.sl (4 : Nat) b66 none xs67]), some (Blk.var [AV.int Go.IntKind.i64 n68, AV.str s69, AV.str s70]),
                              some (Blk.var [AV.int Go.IntKind.i64 n71, AV.str s72, AV.str s73]), some (Blk.arr (4 : Nat) xs74)]
                            R)
                          (Does PG nG G0 (fnOf PG f_greatsealref_Happened) (0 : Nat) (lp PG f_greatsealref_Happened (0 : Nat))
                            (mkT (252 : Nat)
                              [((2 : Nat), AV.ref (0 : Nat) (0 : Nat)), ((3 : Nat), AV.ref (1 : Nat) (0 : Nat)), ((4 : Nat), AV.ref (2 : Nat) (0 : Nat)), ((13 : Nat), AV.ref (3 : Nat) (0 : Nat)), ((14 : Nat), AV.ref (4 : Nat) (0 : Nat)),
                                ((15 : Nat), AV.bool b44), ((164 : Nat), AV.agg [AV.sl (2 : Nat) b45 none xs46, AV.sl (2 : Nat) b47 none xs48]), ((165 : Nat), AV.int Go.IntKind.i64 (Go.IntKind.wrap Go.IntKind.i64 (n49 + (1 : Int))))])
                            [some (Blk.var [AV.sl (2 : Nat) b50 none xs51, AV.sl (2 : Nat) b52 none xs53, AV.rsl (4 : Nat) (5 : Nat) m54 m55]),
                              some (Blk.var [AV.int Go.IntKind.i64 n56, AV.int Go.IntKind.i64 n57, AV.int Go.IntKind.i64 n58, AV.int Go.IntKind.i64 n59, AV.int Go.IntKind.i64 n60, AV.str s61]),
                              some (Blk.var [AV.sl (2 : Nat) b62 none xs63, AV.sl (2 : Nat) b64 none xs65, AV.sl (4 : Nat) b66 none xs67]), some (Blk.var [AV.int Go.IntKind.i64 n68, AV.str s69, AV.str s70]),
                              some (Blk.var [AV.int Go.IntKind.i64 n71, AV.str s72, AV.str s73]), some (Blk.arr (4 : Nat) xs74)]
                            R))
          (Does PG nG G0 (fnOf PG f_greatsealref_Happened) (0 : Nat) (lp PG f_greatsealref_Happened (0 : Nat))
            (mkT (252 : Nat)
              [((2 : Nat), AV.ref (0 : Nat) (0 : Nat)), ((3 : Nat), AV.ref (1 : Nat) (0 : Nat)), ((4 : Nat), AV.ref (2 : Nat) (0 : Nat)), ((13 : Nat), AV.ref (3 : Nat) (0 : Nat)), ((14 : Nat), AV.ref (4 : Nat) (0 : Nat)),
                ((15 : Nat), AV.bool b44), ((164 : Nat), AV.agg [AV.sl (2 : Nat) b45 none xs46, AV.sl (2 : Nat) b47 none xs48]), ((165 : Nat), AV.int Go.IntKind.i64 (Go.IntKind.wrap Go.IntKind.i64 (n49 + (1 : Int))))])
            [some (Blk.var [AV.sl (2 : Nat) b50 none xs51, AV.sl (2 : Nat) b52 none xs53, AV.rsl (4 : Nat) (5 : Nat) m54 m55]),
              some (Blk.var [AV.int Go.IntKind.i64 n56, AV.int Go.IntKind.i64 n57, AV.int Go.IntKind.i64 n58, AV.int Go.IntKind.i64 n59, AV.int Go.IntKind.i64 n60, AV.str s61]),
              some (Blk.var [AV.sl (2 : Nat) b62 none xs63, AV.sl (2 : Nat) b64 none xs65, AV.sl (4 : Nat) b66 none xs67]), some (Blk.var [AV.int Go.IntKind.i64 n68, AV.str s69, AV.str s70]),
              some (Blk.var [AV.int Go.IntKind.i64 n71, AV.str s72, AV.str s73]), some (Blk.arr (4 : Nat) xs74)]
            R))
        (ifK (decide ((if n71 > n68 then n71 else n68) ≤ (↑(List.length xs48) : Int)))
          ((0 : Int) ≤ (0 : Int) ∧
            ((0 : Int) ≤ if n71 > n68 then n71 else n68) ∧
              (if n71 > n68 then n71 else n68) ≤ (↑(List.length xs48) : Int) ∧
                ∃ b78 xs79,
                  Good PG nG G0 f_greatsealref_growth [AV.sl (2 : Nat) b47 none (List.drop (0 : Nat) (List.take (Int.toNat (if n71 > n68 then n71 else n68)) xs48)), AV.int Go.IntKind.i64 (if n71 < n68 then n71 else n68)] []
                      (AV.sl (1 : Nat) b78 none xs79) [] ∧
                    ∃ n80,
                      Good PG nG G0 f_greatsealref_Meets [AV.agg [AV.int Go.IntKind.i64 n68, AV.str s69, AV.str s70], AV.agg [AV.int Go.IntKind.i64 n71, AV.str s72, AV.str s73], AV.sl (1 : Nat) b78 none xs79] [] (AV.int Go.IntKind.i64 n80)
                          [] ∧
                        ifK (n80 == (0 : Int))
                          (Does PG nG G0 (fnOf PG f_greatsealref_Happened) (0 : Nat) (lp PG f_greatsealref_Happened (0 : Nat))
                            (mkT (252 : Nat)
                              [((2 : Nat), AV.ref (0 : Nat) (0 : Nat)), ((3 : Nat), AV.ref (1 : Nat) (0 : Nat)), ((4 : Nat), AV.ref (2 : Nat) (0 : Nat)), ((13 : Nat), AV.ref (3 : Nat) (0 : Nat)), ((14 : Nat), AV.ref (4 : Nat) (0 : Nat)),
                                ((15 : Nat), AV.bool true), ((164 : Nat), AV.agg [AV.sl (2 : Nat) b45 none xs46, AV.sl (2 : Nat) b47 none xs48]), ((165 : Nat), AV.int Go.IntKind.i64 (Go.IntKind.wrap Go.IntKind.i64 (n49 + (1 : Int))))])
                            [some (Blk.var [AV.sl (2 : Nat) b50 none xs51, AV.sl (2 : Nat) b52 none xs53, AV.rsl (4 : Nat) (5 : Nat) m54 m55]),
                              some (Blk.var [AV.int Go.IntKind.i64 n56, AV.int Go.IntKind.i64 n57, AV.int Go.IntKind.i64 n58, AV.int Go.IntKind.i64 n59, AV.int Go.IntKind.i64 n60, AV.str s61]),
                              some (Blk.var [AV.sl (2 : Nat) b62 none xs63, AV.sl (2 : Nat) b64 none xs65, AV.sl (4 : Nat) b66 none xs67]), some (Blk.var [AV.int Go.IntKind.i64 n68, AV.str s69, AV.str s70]),
                              some (Blk.var [AV.int Go.IntKind.i64 n71, AV.str s72, AV.str s73]), some (Blk.arr (4 : Nat) xs74)]
                            R)
                          (Does PG nG G0 (fnOf PG f_greatsealref_Happened) (0 : Nat) (lp PG f_greatsealref_Happened (0 : Nat))
                            (mkT (252 : Nat)
                              [((2 : Nat), AV.ref (0 : Nat) (0 : Nat)), ((3 : Nat), AV.ref (1 : Nat) (0 : Nat)), ((4 : Nat), AV.ref (2 : Nat) (0 : Nat)), ((13 : Nat), AV.ref (3 : Nat) (0 : Nat)), ((14 : Nat), AV.ref (4 : Nat) (0 : Nat)),
                                ((15 : Nat), AV.bool b44), ((164 : Nat), AV.agg [AV.sl (2 : Nat) b45 none xs46, AV.sl (2 : Nat) b47 none xs48]), ((165 : Nat), AV.int Go.IntKind.i64 (Go.IntKind.wrap Go.IntKind.i64 (n49 + (1 : Int))))])
                            [some (Blk.var [AV.sl (2 : Nat) b50 none xs51, AV.sl (2 : Nat) b52 none xs53, AV.rsl (4 : Nat) (5 : Nat) m54 m55]),
                              some (Blk.var [AV.int Go.IntKind.i64 n56, AV.int Go.IntKind.i64 n57, AV.int Go.IntKind.i64 n58, AV.int Go.IntKind.i64 n59, AV.int Go.IntKind.i64 n60, AV.str s61]),
                              some (Blk.var [AV.sl (2 : Nat) b62 none xs63, AV.sl (2 : Nat) b64 none xs65, AV.sl (4 : Nat) b66 none xs67]), some (Blk.var [AV.int Go.IntKind.i64 n68, AV.str s69, AV.str s70]),
                              some (Blk.var [AV.int Go.IntKind.i64 n71, AV.str s72, AV.str s73]), some (Blk.arr (4 : Nat) xs74)]
                            R))
          (Does PG nG G0 (fnOf PG f_greatsealref_Happened) (0 : Nat) (lp PG f_greatsealref_Happened (0 : Nat))
            (mkT (252 : Nat)
              [((2 : Nat), AV.ref (0 : Nat) (0 : Nat)), ((3 : Nat), AV.ref (1 : Nat) (0 : Nat)), ((4 : Nat), AV.ref (2 : Nat) (0 : Nat)), ((13 : Nat), AV.ref (3 : Nat) (0 : Nat)), ((14 : Nat), AV.ref (4 : Nat) (0 : Nat)),
                ((15 : Nat), AV.bool b44), ((164 : Nat), AV.agg [AV.sl (2 : Nat) b45 none xs46, AV.sl (2 : Nat) b47 none xs48]), ((165 : Nat), AV.int Go.IntKind.i64 (Go.IntKind.wrap Go.IntKind.i64 (n49 + (1 : Int))))])
            [some (Blk.var [AV.sl (2 : Nat) b50 none xs51, AV.sl (2 : Nat) b52 none xs53, AV.rsl (4 : Nat) (5 : Nat) m54 m55]),
              some (Blk.var [AV.int Go.IntKind.i64 n56, AV.int Go.IntKind.i64 n57, AV.int Go.IntKind.i64 n58, AV.int Go.IntKind.i64 n59, AV.int Go.IntKind.i64 n60, AV.str s61]),
              some (Blk.var [AV.sl (2 : Nat) b62 none xs63, AV.sl (2 : Nat) b64 none xs65, AV.sl (4 : Nat) b66 none xs67]), some (Blk.var [AV.int Go.IntKind.i64 n68, AV.str s69, AV.str s70]),
              some (Blk.var [AV.int Go.IntKind.i64 n71, AV.str s72, AV.str s73]), some (Blk.arr (4 : Nat) xs74)]
            R)))
  (ifK (!b44)
    ((0 : Int) ≤ n58 ∧
      n58 < (↑m55 : Int) ∧
        (0 : Int) ≤ n59 ∧
          n59 < (↑m55 : Int) ∧
            R
              (AV.tup
                [AV.agg
                    [AV.sl (2 : Nat) b50 none xs51, AV.sl (2 : Nat) b52 none xs53,
                      AV.sl (4 : Nat) false none
                        (List.take m55
                          (List.drop m54
                            (List.set (List.set xs74 (m54 + Int.toNat n58) (setR (List.getD xs74 (m54 + Int.toNat n58) []) (3 : Nat) [AV.bool true])) (m54 + Int.toNat n59)
                              (setR (List.getD (List.set xs74 (m54 + Int.toNat n58) (setR (List.getD xs74 (m54 + Int.toNat n58) []) (3 : Nat) [AV.bool true])) (m54 + Int.toNat n59) []) (3 : Nat) [AV.bool true]))))],
                  AV.int Go.IntKind.i64 (0 : Int)])
              [])
    (R (AV.tup [AV.agg [AV.sl (2 : Nat) b50 none xs51, AV.sl (2 : Nat) b52 none xs53, AV.sl (4 : Nat) false none (List.take m55 (List.drop m54 xs74))], AV.int Go.IntKind.i64 (0 : Int)]) []))) :
  Hold (runL PG ty nG G0 an_greatsealref_Happened_k4s1 f_greatsealref_Happened (0 : Nat) (0 : Nat)
  (mkT (252 : Nat)
    [((2 : Nat), AV.ref (0 : Nat) (0 : Nat)), ((3 : Nat), AV.ref (1 : Nat) (0 : Nat)), ((4 : Nat), AV.ref (2 : Nat) (0 : Nat)), ((13 : Nat), AV.ref (3 : Nat) (0 : Nat)), ((14 : Nat), AV.ref (4 : Nat) (0 : Nat)), ((15 : Nat), AV.bool b44),
      ((164 : Nat), AV.agg [AV.sl (2 : Nat) b45 none xs46, AV.sl (2 : Nat) b47 none xs48]), ((165 : Nat), AV.int Go.IntKind.i64 n49)])
  [some (Blk.var [AV.sl (2 : Nat) b50 none xs51, AV.sl (2 : Nat) b52 none xs53, AV.rsl (4 : Nat) (5 : Nat) m54 m55]),
    some (Blk.var [AV.int Go.IntKind.i64 n56, AV.int Go.IntKind.i64 n57, AV.int Go.IntKind.i64 n58, AV.int Go.IntKind.i64 n59, AV.int Go.IntKind.i64 n60, AV.str s61]),
    some (Blk.var [AV.sl (2 : Nat) b62 none xs63, AV.sl (2 : Nat) b64 none xs65, AV.sl (4 : Nat) b66 none xs67]), some (Blk.var [AV.int Go.IntKind.i64 n68, AV.str s69, AV.str s70]),
    some (Blk.var [AV.int Go.IntKind.i64 n71, AV.str s72, AV.str s73]), some (Blk.arr (4 : Nat) xs74)]
  R) := kshow h (by kernel_rfl)

theorem greatsealref_Happened_k5s0_run (n0 : Bool) (b0 : List (List AV)) (n1 : Bool) (b1 : List (List AV)) (n2 : Bool) (c : List (List AV)) (xw : Int) (xo : Int) (ek : Int) (ev : List UInt8) (G0 : Nat → Option Go.Obj) (R : AV → List (Option Blk) → Prop) (h :
  ∃ b0_1,
  Good PG nG G0 f_greatsealref_in [AV.int Go.IntKind.i64 (5 : Int), AV.int Go.IntKind.i64 (1 : Int), AV.int Go.IntKind.i64 (5 : Int)] [] (AV.bool b0_1) [] ∧
    ifK (!b0_1)
      (∃ b1 xs2 b3 xs4 b5 xs6 n7,
        Good PG nG G0 f_greatsealref_Happened_c1 [AV.int Go.IntKind.i64 (4 : Int)] [] (AV.tup [AV.agg [AV.sl (2 : Nat) b1 none xs2, AV.sl (2 : Nat) b3 none xs4, AV.sl (4 : Nat) b5 none xs6], AV.int Go.IntKind.i64 n7]) [] ∧
          R (AV.tup [AV.agg [AV.sl (2 : Nat) b1 none xs2, AV.sl (2 : Nat) b3 none xs4, AV.sl (4 : Nat) b5 none xs6], AV.int Go.IntKind.i64 n7]) [])
      (∃ b8,
        Good PG nG G0 f_greatsealref_in [AV.int Go.IntKind.i64 (0 : Int), AV.int Go.IntKind.i64 (0 : Int), AV.int Go.IntKind.i64 (1 : Int)] [] (AV.bool b8) [] ∧
          ifK (!b8)
            (∃ b9 xs10 b11 xs12 b13 xs14 n15,
              Good PG nG G0 f_greatsealref_Happened_c1 [AV.int Go.IntKind.i64 (5 : Int)] [] (AV.tup [AV.agg [AV.sl (2 : Nat) b9 none xs10, AV.sl (2 : Nat) b11 none xs12, AV.sl (4 : Nat) b13 none xs14], AV.int Go.IntKind.i64 n15]) [] ∧
                R (AV.tup [AV.agg [AV.sl (2 : Nat) b9 none xs10, AV.sl (2 : Nat) b11 none xs12, AV.sl (4 : Nat) b13 none xs14], AV.int Go.IntKind.i64 n15]) [])
            (∃ b16,
              Good PG nG G0 f_greatsealref_in [AV.int Go.IntKind.i64 xw, AV.int Go.IntKind.i64 (0 : Int), AV.int Go.IntKind.i64 (2 : Int)] [] (AV.bool b16) [] ∧
                ifK (!b16)
                  (∃ b17 xs18 b19 xs20 b21 xs22 n23,
                    Good PG nG G0 f_greatsealref_Happened_c1 [AV.int Go.IntKind.i64 (5 : Int)] [] (AV.tup [AV.agg [AV.sl (2 : Nat) b17 none xs18, AV.sl (2 : Nat) b19 none xs20, AV.sl (4 : Nat) b21 none xs22], AV.int Go.IntKind.i64 n23]) [] ∧
                      R (AV.tup [AV.agg [AV.sl (2 : Nat) b17 none xs18, AV.sl (2 : Nat) b19 none xs20, AV.sl (4 : Nat) b21 none xs22], AV.int Go.IntKind.i64 n23]) [])
                  (∃ b24,
                    Good PG nG G0 f_greatsealref_in [AV.int Go.IntKind.i64 xo, AV.int Go.IntKind.i64 (0 : Int), AV.int Go.IntKind.i64 (2 : Int)] [] (AV.bool b24) [] ∧
                      ifK (!b24)
                        (∃ b25 xs26 b27 xs28 b29 xs30 n31,
                          Good PG nG G0 f_greatsealref_Happened_c1 [AV.int Go.IntKind.i64 (5 : Int)] [] (AV.tup [AV.agg [AV.sl (2 : Nat) b25 none xs26, AV.sl (2 : Nat) b27 none xs28, AV.sl (4 : Nat) b29 none xs30], AV.int Go.IntKind.i64 n31]) [] ∧
                            R (AV.tup [AV.agg [AV.sl (2 : Nat) b25 none xs26, AV.sl (2 : Nat) b27 none xs28, AV.sl (4 : Nat) b29 none xs30], AV.int Go.IntKind.i64 n31]) [])
                        (∃ b32 xs33,
                          b32 = false ∧
                            Good PG nG G0 f_slices_Clone_Client [AV.sl (4 : Nat) n2 none c] [] (AV.rsl (4 : Nat) (0 : Nat) (0 : Nat) (List.length xs33)) [some (Blk.arr (4 : Nat) xs33)] ∧
                              (0 : Int) ≤ (0 : Int) ∧
                                (0 : Int) < (2 : Int) ∧
                                  (0 : Int) ≤ xw ∧
                                    xw < (↑(List.length xs33) : Int) ∧
                                      ∃ n34 s35 s36 b37,
                                        (∃ xs38, xs33[(0 : Nat) + Int.toNat xw]? = some xs38 ∧ List.take (4 : Nat) (List.drop (0 : Nat) xs38) = [AV.int Go.IntKind.i64 n34, AV.str s35, AV.str s36, AV.bool b37]) ∧
                                          ∃ b39 xs40,
                                            Good PG nG G0 f_greatsealref_ValuesOf [AV.agg [AV.sl (2 : Nat) n0 none b0]] [] (AV.mp b39 xs40) [] ∧
                                              ∃ b41,
                                                Good PG nG G0 f_greatsealref_in [AV.int Go.IntKind.i64 ek, AV.int Go.IntKind.i64 (0 : Int), AV.int Go.IntKind.i64 (15 : Int)] [] (AV.bool b41) [] ∧
                                                  ifK (!b41)
                                                    (∃ b42 xs43 b44 xs45 b46 xs47 n48,
                                                      Good PG nG G0 f_greatsealref_Happened_c1 [AV.int Go.IntKind.i64 (5 : Int)] []
                                                          (AV.tup [AV.agg [AV.sl (2 : Nat) b42 none xs43, AV.sl (2 : Nat) b44 none xs45, AV.sl (4 : Nat) b46 none xs47], AV.int Go.IntKind.i64 n48]) [] ∧
                                                        R (AV.tup [AV.agg [AV.sl (2 : Nat) b42 none xs43, AV.sl (2 : Nat) b44 none xs45, AV.sl (4 : Nat) b46 none xs47], AV.int Go.IntKind.i64 n48]) [])
                                                    (∃ s49 b50,
                                                      mlookD Go.IntKind.i64 ek (AV.str []) xs40 = some (AV.str s49, b50) ∧
                                                        ∃ b51 xs52,
                                                          Good PG nG G0 f_greatsealref_MapPath [AV.mp b39 xs40, AV.int Go.IntKind.i64 ek] [] (AV.sl (1 : Nat) b51 none xs52) [] ∧
                                                            ∃ n53,
                                                              Good PG nG G0 f_greatsealref_MapShows [AV.str s36, AV.int Go.IntKind.i64 ek, AV.str s49, AV.bool b50, AV.sl (1 : Nat) b51 none xs52] [] (AV.int Go.IntKind.i64 n53) [] ∧
                                                                ifK (n53 != (0 : Int))
                                                                  (∃ b54 xs55 b56 xs57 b58 xs59 n60,
                                                                    Good PG nG G0 f_greatsealref_Happened_c1 [AV.int Go.IntKind.i64 n53] []
                                                                        (AV.tup [AV.agg [AV.sl (2 : Nat) b54 none xs55, AV.sl (2 : Nat) b56 none xs57, AV.sl (4 : Nat) b58 none xs59], AV.int Go.IntKind.i64 n60]) [] ∧
                                                                      R (AV.tup [AV.agg [AV.sl (2 : Nat) b54 none xs55, AV.sl (2 : Nat) b56 none xs57, AV.sl (4 : Nat) b58 none xs59], AV.int Go.IntKind.i64 n60]) [])
                                                                  (R
                                                                    (AV.tup
                                                                      [AV.agg [AV.sl (2 : Nat) n0 none b0, AV.sl (2 : Nat) n1 none b1, AV.sl (4 : Nat) false none (List.take (List.length xs33) (List.drop (0 : Nat) xs33))],
                                                                        AV.int Go.IntKind.i64 (0 : Int)])
                                                                    []))))))) :
  Hold (runF PG ty nG G0 an_greatsealref_Happened_k5s0 f_greatsealref_Happened
  [AV.agg [AV.sl (2 : Nat) n0 none b0, AV.sl (2 : Nat) n1 none b1, AV.sl (4 : Nat) n2 none c],
    AV.agg [AV.int Go.IntKind.i64 (5 : Int), AV.int Go.IntKind.i64 (0 : Int), AV.int Go.IntKind.i64 xw, AV.int Go.IntKind.i64 xo, AV.int Go.IntKind.i64 ek, AV.str ev]]
  [] R) := kshow h (by kernel_rfl)

theorem greatsealref_Happened_k5s1_run (n0 : Bool) (b0 : List (List AV)) (n1 : Bool) (b1 : List (List AV)) (n2 : Bool) (c : List (List AV)) (xw : Int) (xo : Int) (ek : Int) (ev : List UInt8) (G0 : Nat → Option Go.Obj) (R : AV → List (Option Blk) → Prop) (h :
  ∃ b0_1,
  Good PG nG G0 f_greatsealref_in [AV.int Go.IntKind.i64 (5 : Int), AV.int Go.IntKind.i64 (1 : Int), AV.int Go.IntKind.i64 (5 : Int)] [] (AV.bool b0_1) [] ∧
    ifK (!b0_1)
      (∃ b1 xs2 b3 xs4 b5 xs6 n7,
        Good PG nG G0 f_greatsealref_Happened_c1 [AV.int Go.IntKind.i64 (4 : Int)] [] (AV.tup [AV.agg [AV.sl (2 : Nat) b1 none xs2, AV.sl (2 : Nat) b3 none xs4, AV.sl (4 : Nat) b5 none xs6], AV.int Go.IntKind.i64 n7]) [] ∧
          R (AV.tup [AV.agg [AV.sl (2 : Nat) b1 none xs2, AV.sl (2 : Nat) b3 none xs4, AV.sl (4 : Nat) b5 none xs6], AV.int Go.IntKind.i64 n7]) [])
      (∃ b8,
        Good PG nG G0 f_greatsealref_in [AV.int Go.IntKind.i64 (1 : Int), AV.int Go.IntKind.i64 (0 : Int), AV.int Go.IntKind.i64 (1 : Int)] [] (AV.bool b8) [] ∧
          ifK (!b8)
            (∃ b9 xs10 b11 xs12 b13 xs14 n15,
              Good PG nG G0 f_greatsealref_Happened_c1 [AV.int Go.IntKind.i64 (5 : Int)] [] (AV.tup [AV.agg [AV.sl (2 : Nat) b9 none xs10, AV.sl (2 : Nat) b11 none xs12, AV.sl (4 : Nat) b13 none xs14], AV.int Go.IntKind.i64 n15]) [] ∧
                R (AV.tup [AV.agg [AV.sl (2 : Nat) b9 none xs10, AV.sl (2 : Nat) b11 none xs12, AV.sl (4 : Nat) b13 none xs14], AV.int Go.IntKind.i64 n15]) [])
            (∃ b16,
              Good PG nG G0 f_greatsealref_in [AV.int Go.IntKind.i64 xw, AV.int Go.IntKind.i64 (0 : Int), AV.int Go.IntKind.i64 (2 : Int)] [] (AV.bool b16) [] ∧
                ifK (!b16)
                  (∃ b17 xs18 b19 xs20 b21 xs22 n23,
                    Good PG nG G0 f_greatsealref_Happened_c1 [AV.int Go.IntKind.i64 (5 : Int)] [] (AV.tup [AV.agg [AV.sl (2 : Nat) b17 none xs18, AV.sl (2 : Nat) b19 none xs20, AV.sl (4 : Nat) b21 none xs22], AV.int Go.IntKind.i64 n23]) [] ∧
                      R (AV.tup [AV.agg [AV.sl (2 : Nat) b17 none xs18, AV.sl (2 : Nat) b19 none xs20, AV.sl (4 : Nat) b21 none xs22], AV.int Go.IntKind.i64 n23]) [])
                  (∃ b24,
                    Good PG nG G0 f_greatsealref_in [AV.int Go.IntKind.i64 xo, AV.int Go.IntKind.i64 (0 : Int), AV.int Go.IntKind.i64 (2 : Int)] [] (AV.bool b24) [] ∧
                      ifK (!b24)
                        (∃ b25 xs26 b27 xs28 b29 xs30 n31,
                          Good PG nG G0 f_greatsealref_Happened_c1 [AV.int Go.IntKind.i64 (5 : Int)] [] (AV.tup [AV.agg [AV.sl (2 : Nat) b25 none xs26, AV.sl (2 : Nat) b27 none xs28, AV.sl (4 : Nat) b29 none xs30], AV.int Go.IntKind.i64 n31]) [] ∧
                            R (AV.tup [AV.agg [AV.sl (2 : Nat) b25 none xs26, AV.sl (2 : Nat) b27 none xs28, AV.sl (4 : Nat) b29 none xs30], AV.int Go.IntKind.i64 n31]) [])
                        (∃ b32 xs33,
                          b32 = false ∧
                            Good PG nG G0 f_slices_Clone_Client [AV.sl (4 : Nat) n2 none c] [] (AV.rsl (4 : Nat) (0 : Nat) (0 : Nat) (List.length xs33)) [some (Blk.arr (4 : Nat) xs33)] ∧
                              (0 : Int) ≤ (1 : Int) ∧
                                (1 : Int) < (2 : Int) ∧
                                  (0 : Int) ≤ xw ∧
                                    xw < (↑(List.length xs33) : Int) ∧
                                      ∃ n34 s35 s36 b37,
                                        (∃ xs38, xs33[(0 : Nat) + Int.toNat xw]? = some xs38 ∧ List.take (4 : Nat) (List.drop (0 : Nat) xs38) = [AV.int Go.IntKind.i64 n34, AV.str s35, AV.str s36, AV.bool b37]) ∧
                                          ∃ b39 xs40,
                                            Good PG nG G0 f_greatsealref_ValuesOf [AV.agg [AV.sl (2 : Nat) n1 none b1]] [] (AV.mp b39 xs40) [] ∧
                                              ∃ b41,
                                                Good PG nG G0 f_greatsealref_in [AV.int Go.IntKind.i64 ek, AV.int Go.IntKind.i64 (0 : Int), AV.int Go.IntKind.i64 (15 : Int)] [] (AV.bool b41) [] ∧
                                                  ifK (!b41)
                                                    (∃ b42 xs43 b44 xs45 b46 xs47 n48,
                                                      Good PG nG G0 f_greatsealref_Happened_c1 [AV.int Go.IntKind.i64 (5 : Int)] []
                                                          (AV.tup [AV.agg [AV.sl (2 : Nat) b42 none xs43, AV.sl (2 : Nat) b44 none xs45, AV.sl (4 : Nat) b46 none xs47], AV.int Go.IntKind.i64 n48]) [] ∧
                                                        R (AV.tup [AV.agg [AV.sl (2 : Nat) b42 none xs43, AV.sl (2 : Nat) b44 none xs45, AV.sl (4 : Nat) b46 none xs47], AV.int Go.IntKind.i64 n48]) [])
                                                    (∃ s49 b50,
                                                      mlookD Go.IntKind.i64 ek (AV.str []) xs40 = some (AV.str s49, b50) ∧
                                                        ∃ b51 xs52,
                                                          Good PG nG G0 f_greatsealref_MapPath [AV.mp b39 xs40, AV.int Go.IntKind.i64 ek] [] (AV.sl (1 : Nat) b51 none xs52) [] ∧
                                                            ∃ n53,
                                                              Good PG nG G0 f_greatsealref_MapShows [AV.str s36, AV.int Go.IntKind.i64 ek, AV.str s49, AV.bool b50, AV.sl (1 : Nat) b51 none xs52] [] (AV.int Go.IntKind.i64 n53) [] ∧
                                                                ifK (n53 != (0 : Int))
                                                                  (∃ b54 xs55 b56 xs57 b58 xs59 n60,
                                                                    Good PG nG G0 f_greatsealref_Happened_c1 [AV.int Go.IntKind.i64 n53] []
                                                                        (AV.tup [AV.agg [AV.sl (2 : Nat) b54 none xs55, AV.sl (2 : Nat) b56 none xs57, AV.sl (4 : Nat) b58 none xs59], AV.int Go.IntKind.i64 n60]) [] ∧
                                                                      R (AV.tup [AV.agg [AV.sl (2 : Nat) b54 none xs55, AV.sl (2 : Nat) b56 none xs57, AV.sl (4 : Nat) b58 none xs59], AV.int Go.IntKind.i64 n60]) [])
                                                                  (R
                                                                    (AV.tup
                                                                      [AV.agg [AV.sl (2 : Nat) n0 none b0, AV.sl (2 : Nat) n1 none b1, AV.sl (4 : Nat) false none (List.take (List.length xs33) (List.drop (0 : Nat) xs33))],
                                                                        AV.int Go.IntKind.i64 (0 : Int)])
                                                                    []))))))) :
  Hold (runF PG ty nG G0 an_greatsealref_Happened_k5s1 f_greatsealref_Happened
  [AV.agg [AV.sl (2 : Nat) n0 none b0, AV.sl (2 : Nat) n1 none b1, AV.sl (4 : Nat) n2 none c],
    AV.agg [AV.int Go.IntKind.i64 (5 : Int), AV.int Go.IntKind.i64 (1 : Int), AV.int Go.IntKind.i64 xw, AV.int Go.IntKind.i64 xo, AV.int Go.IntKind.i64 ek, AV.str ev]]
  [] R) := kshow h (by kernel_rfl)

end Go.Ab

namespace Go.Ab
open Go.Proofs Go.Gs
variable {G0 : Nat → Option Obj}

theorem good_CheckWorld (w : Wd) : Good PG nG G0 f_greatsealref_CheckWorld [wV w] [] (.int .i64 (checkW w)) [] := by
  suffices main : ∀ R : AV → List (Option Blk) → Prop, R (.int .i64 (checkW w)) [] → Hold (runF PG ty nG G0 an_greatsealref_CheckWorld f_greatsealref_CheckWorld [wV w] [] R) from
    good_of_run prOk (by kernel_rfl) (main _ ⟨rfl, rfl⟩)
  intro R hR
  unfold checkW at hR
  refine greatsealref_CheckWorld_run _ _ _ _ _ _ G0 R ⟨by decide, by decide, _, good_CheckBook w.b0 w.n0, ifK_ne0 (fun h => by rw [if_pos h] at hR; exact hR) fun h => ?_⟩
  rw [if_neg (by simpa using h)] at hR
  refine ⟨by decide, by decide, _, good_CheckBook w.b1 w.n1, ifK_ne0 (fun h => by rw [if_pos h] at hR; exact hR) fun h => ?_⟩
  rw [if_neg (by simpa using h)] at hR
  rw [List.length_map, ifK_iff]
  refine ⟨fun h => ?_, fun h => ?_⟩
  · rw [if_pos (by simp at h; omega)] at hR; exact hR
  have h3 : w.c.length = 3 := by simp at h; omega
  rw [if_neg (by omega)] at hR
  refine loop_down (D := fun i : Nat => badC (w.c.drop i) = badC w.c → Does PG nG G0 (fnOf PG f_greatsealref_CheckWorld) 0 (lp PG f_greatsealref_CheckWorld 0) (mkT 40 [(27, .sl 4 w.n2 none (w.c.map CX)), (28, .int .i64 w.c.length), (29, .int .i64 i)]) [] R) w.c.length (fun h1 => ?_) (fun i hi ih h1 => ?_) rfl
  · refine does_of_run prOk (greatsealref_CheckWorld_l0_run G0 _ _ _ _ R ?_)
    simp only [ifK_iff, decide_eq_true_eq, decide_eq_false_iff_not]
    refine ⟨fun h => by omega, fun _ => ?_⟩
    rw [← h1, List.drop_length] at hR
    exact hR
  · refine does_of_run prOk (greatsealref_CheckWorld_l0_run G0 _ _ _ _ R ?_)
    rw [decide_eq_true (show (i : Int) < w.c.length by omega), ifT, Int.toNat_natCast, wrapI (by omega) (by omega)]
    rw [badC_drop hi] at h1
    refine ⟨by omega, _, _, _, _, getX hi, _, good_CheckHead w.c[i].1, ifK_ne0 (fun h2 => ?_) fun h2 => ?_⟩
    · rw [if_pos h2] at h1; rw [← h1] at hR; exact hR
    · rw [if_neg (by simpa using h2)] at h1; exact ih h1

theorem good_SameWorld (w v : Wd) (h0 : w.b0.length ≤ 1000000000000000000) (h1 : w.b1.length ≤ 1000000000000000000) (h2 : w.c.length ≤ 1000000000000000000) : Good PG nG G0 f_greatsealref_SameWorld [wV w, wV v] [] (.bool (sameW w v)) [] := by
  refine good_of_run prOk (by kernel_rfl) (greatsealref_SameWorld_run _ _ _ _ _ _ _ _ _ _ _ _ G0 _ ⟨_, good_EqualClient w.c v.c w.n2 v.n2 (by omega), ?_⟩)
  unfold sameW
  by_cases e2 : w.c = v.c
  · rw [decide_eq_true e2, ifT]
    refine ⟨by decide, by decide, by decide, by decide, _, good_EqualEntry w.b0 v.b0 w.n0 v.n0 (by omega), ?_⟩
    by_cases e0 : w.b0 = v.b0
    · rw [decide_eq_true e0, ifT]
      refine ⟨by decide, by decide, by decide, by decide, _, good_EqualEntry w.b1 v.b1 w.n1 v.n1 (by omega), ?_, rfl⟩
      simp [e0, e2]
    · rw [decide_eq_false e0, ifF]
      exact ⟨by simp [e0], rfl⟩
  · rw [decide_eq_false e2, ifF]
    exact ⟨by simp [e2], rfl⟩

theorem good_Fresh : Good PG nG G0 f_greatsealref_Fresh [] [] (wV newW) [] :=
  good_of_run prOk (by kernel_rfl) (greatsealref_Fresh_run G0 _ ⟨rfl, by decide, by decide, by decide, rfl, rfl⟩)

/-- The seals that a growth shows are no long ones. -/
theorem growOf_short : ∀ (N : Nat) (l : List By) (m : Nat) (known : Bool), l.length ≤ N → N ≤ 24 → (∀ s ∈ l, s.length ≤ 15) → ∀ s ∈ growOf l m known, s.length ≤ 552 := by
  have root : ∀ l : List By, l.length ≤ 24 → (∀ s ∈ l, s.length ≤ 15) → (tRoot l).1.length ≤ 552 := fun l hl hs => by
    have := (tRoot_short 24 l hl (Nat.le_refl _) hs).2
    omega
  intro N
  induction N with
  | zero =>
    intro l m known h _ hs
    rw [growOf, dif_pos (by omega)]
    split
    · simp
    · intro s hm
      have : s = (tRoot l).1 := by simpa using hm
      rw [this]; exact root l (by omega) hs
  | succ N ih =>
    intro l m known h hN hs
    by_cases hc : l.length ≤ m ∨ l.length ≤ 1
    · rw [growOf, dif_pos hc]
      split
      · simp
      · intro s hm
        have : s = (tRoot l).1 := by simpa using hm
        rw [this]; exact root l (by omega) hs
    · have hk1 := halfN_pos l.length
      have hk2 := halfN_lt (n := l.length) (by omega)
      have ht : ∀ k, ∀ s ∈ l.take k, s.length ≤ 15 := fun k s h => hs s (List.mem_of_mem_take h)
      have hd : ∀ k, ∀ s ∈ l.drop k, s.length ≤ 15 := fun k s h => hs s (List.mem_of_mem_drop h)
      rw [growOf, dif_neg hc]
      split
      · intro s hm
        rcases List.mem_append.1 hm with hm | hm
        · exact ih _ m known (by simp only [List.length_take]; omega) (by omega) (ht _) s hm
        · have : s = (tRoot (l.drop (halfN l.length))).1 := by simpa using hm
          rw [this]; exact root _ (by simp only [List.length_drop]; omega) (hd _)
      · intro s hm
        rcases List.mem_append.1 hm with hm | hm
        · exact ih _ _ false (by simp only [List.length_drop]; omega) (by omega) (hd _) s hm
        · have : s = (tRoot (l.take (halfN l.length))).1 := by simpa using hm
          rw [this]; exact root _ (by simp only [List.length_take]; omega) (ht _)

theorem growthR_short (b : Bk) (m : Int) : ∀ s ∈ growthR b m, s.length ≤ 4611686018427387903 := by
  rcases growthR_cases b m with h | ⟨h, _, _, _, h2⟩
  · rw [h]; simp
  · have hb := checkB_ok h
    rw [h2]
    intro s hs
    have := growOf_short 24 (textsOf b) m.toNat true (by rw [texts_len]; exact hb.1) (Nat.le_refl _) (fun t ht => by
      obtain ⟨e, he, rfl⟩ := List.mem_map.1 ht
      exact textE_len (hb.2 e he)) s hs
    omega

theorem good_refGrowth (hG : GlobOk G0) {b : Bk} (hb : checkB b = 0) (nl : Bool) (m : Int) : Good PG nG G0 f_greatsealref_growth [.sl 2 nl none (b.map E2), .int .i64 m] [] (.sl 1 (growthR b m).isEmpty none ((growthR b m).map S1)) [] := by
  have h24 := (checkB_ok hb).1
  refine good_of_run prOk (by kernel_rfl) (greatsealref_growth_run nl _ m G0 _ ⟨_, _, good_TextsOf hG b nl (BkR_of_check hb) (by omega), _, _, _, good_GrowthOf hG (textsOf b) false m, ?_⟩)
  unfold growthR
  rw [showG_good hb]
  refine ifK_ne0 (fun h => ?_) fun h => ?_
  · rw [if_pos h]; exact ⟨rfl, rfl⟩
  · rw [if_neg (by simpa using h)]; exact ⟨rfl, rfl⟩

theorem good_Happened1 (e : Int) : Good PG nG G0 f_greatsealref_Happened_c1 [.int .i64 e] [] (.tup [wV W0, .int .i64 e]) [] :=
  good_of_run prOk (by kernel_rfl) (greatsealref_Happened_c1_run e G0 _ ⟨rfl, rfl⟩)

theorem ifK_in {p : Prop} [Decidable p] {A B : Prop} (hp : p) (h : B) : ifK (!decide p) A B := by rw [decide_eq_true hp]; exact h
theorem ifK_out {p : Prop} [Decidable p] {A B : Prop} (hp : ¬ p) (h : A) : ifK (!decide p) A B := by rw [decide_eq_false hp]; exact h

theorem triePath_short {f : Nat → Option By} (hf : GoodV f) (key : Nat) : ∀ s ∈ triePath f key 4, s.length ≤ 4611686018427387903 := by
  intro s hs
  unfold triePath at hs
  obtain ⟨k, hk, rfl⟩ := List.mem_map.1 hs
  have hk4 : k < 4 := by simpa using hk
  have h1 := (tTrie_good hf k (sib k key) (by omega)).2
  have h2 : bnd k ≤ 1173 := by
    have : k = 0 ∨ k = 1 ∨ k = 2 ∨ k = 3 := by omega
    rcases this with rfl | rfl | rfl | rfl <;> decide
  omega

theorem putBk_two {b : Bk} (hb : checkB b = 0) (e : En) : (putBk b e).2 = checkB (b ++ [e]) := by
  unfold putBk
  rw [if_neg (by simpa using hb)]
  split
  · rfl
  · rename_i h; simpa using (by simpa using h : checkB (b ++ [e]) = 0).symm

theorem asks_ok {w : Wd} (h : checkW w = 0) (who side : Int) {key : Int} (hk : 0 ≤ key ∧ key ≤ 15) : asksR w who side key = trieShows (w.cl who).1.mp key ((mGet (valsOf (w.bk side)) key).getD []) (mGet (valsOf (w.bk side)) key).isSome (triePath (fM (valsOf (w.bk side))) key.toNat 4) := by
  obtain ⟨k, rfl⟩ : ∃ k : Nat, key = k := ⟨key.toNat, by omega⟩
  unfold asksR
  rw [showV_ok (checkW_bk h side) (by omega), if_neg (by simp)]
  unfold findsR
  rw [if_neg (by simpa using checkW_cl h who), Int.toNat_natCast]

theorem asks_bad {w : Wd} (h : checkW w = 0) (who side : Int) {key : Int} (hk : ¬ (0 ≤ key ∧ key ≤ 15)) : asksR w who side key = 5 := by
  have e : (showV (w.bk side) key).2 = 5 := by
    unfold showV
    rw [if_neg (by simpa using checkW_bk h side)]
    have : pathM (valsOf (w.bk side)) key = ([], 5) := by
      unfold pathM
      rw [if_neg (by simpa using valsOf_check (checkW_bk h side)), if_pos (by omega)]
    rw [this]; rfl
  unfold asksR
  rw [e, if_pos (by decide)]

/-- The loop over both books where clients meet. -/
theorem happened_loop (hG : GlobOk G0) {w : Wd} (hw : WOk w) {xw xo : Int} (hwho : 0 ≤ xw ∧ xw ≤ 2) (hoth : 0 ≤ xo ∧ xo ≤ 2) (b1 : List AV) (xk xs ek : Int) (ev : By) (hb1 : b1 = [.int .i64 xk, .int .i64 xs, .int .i64 xw, .int .i64 xo, .int .i64 ek, .str ev])
    {R : AV → List (Option Blk) → Prop} (hR : R (.tup [wV (meetsR w xw xo), .int .i64 0]) []) :
    Does PG nG G0 (fnOf PG f_greatsealref_Happened) 0 (lp PG f_greatsealref_Happened 0)
      (mkT 252 [(2, .ref 0 0), (3, .ref 1 0), (4, .ref 2 0), (13, .ref 3 0), (14, .ref 4 0), (15, .bool (meetR (w.cl xw).1 (w.cl xo).1 [] == (0 : Int))), (164, .agg [.sl 2 w.n0 none (w.b0.map E2), .sl 2 w.n1 none (w.b1.map E2)]), (165, .int .i64 0)])
      [some (.var [.sl 2 w.n0 none (w.b0.map E2), .sl 2 w.n1 none (w.b1.map E2), .rsl 4 5 0 (w.c.map CX).length]), some (.var b1), some (.var [.sl 2 true none [], .sl 2 true none [], .sl 4 true none []]),
        some (.var [.int .i64 (w.cl xw).1.n, .str (w.cl xw).1.log, .str (w.cl xw).1.mp]), some (.var [.int .i64 (w.cl xo).1.n, .str (w.cl xo).1.log, .str (w.cl xo).1.mp]), some (.arr 4 (w.c.map CX))] R := by
  subst hb1
  have c3 := hw.c3
  have hck := hw.check
  have e10 : ((1 : Int) == 0) = false := rfl
  have hx := checkH_ok (checkW_cl hck xw)
  have hy := checkH_ok (checkW_cl hck xo)
  have hmx : 0 ≤ maxI (w.cl xw).1.n (w.cl xo).1.n := by unfold maxI; split <;> omega
  have hl : (w.c.map CX).length = w.c.length := List.length_map ..
  have book : ∀ (bk : Bk) (nb : Bool), checkB bk = 0 → ∀ (A B : Prop), (meetsB (w.cl xw).1 (w.cl xo).1 bk = true → A) → (meetsB (w.cl xw).1 (w.cl xo).1 bk = false → B) →
      ifK (decide ((if (w.cl xo).1.n > (w.cl xw).1.n then (w.cl xo).1.n else (w.cl xw).1.n) ≤ ((bk.map E2).length : Int)))
        ((0 : Int) ≤ 0 ∧ ((0 : Int) ≤ if (w.cl xo).1.n > (w.cl xw).1.n then (w.cl xo).1.n else (w.cl xw).1.n) ∧ (if (w.cl xo).1.n > (w.cl xw).1.n then (w.cl xo).1.n else (w.cl xw).1.n) ≤ ((bk.map E2).length : Int) ∧
          ∃ b28 xs29, Good PG nG G0 f_greatsealref_growth [.sl 2 nb none (List.drop 0 (List.take (Int.toNat (if (w.cl xo).1.n > (w.cl xw).1.n then (w.cl xo).1.n else (w.cl xw).1.n)) (bk.map E2))), .int .i64 (if (w.cl xo).1.n < (w.cl xw).1.n then (w.cl xo).1.n else (w.cl xw).1.n)] [] (.sl 1 b28 none xs29) [] ∧
            ∃ n30, Good PG nG G0 f_greatsealref_Meets [.agg [.int .i64 (w.cl xw).1.n, .str (w.cl xw).1.log, .str (w.cl xw).1.mp], .agg [.int .i64 (w.cl xo).1.n, .str (w.cl xo).1.log, .str (w.cl xo).1.mp], .sl 1 b28 none xs29] [] (.int .i64 n30) [] ∧ ifK (n30 == (0 : Int)) A B) B := by
    intro bk nb hbk A B hA hB
    have em : (if (w.cl xo).1.n > (w.cl xw).1.n then (w.cl xo).1.n else (w.cl xw).1.n) = maxI (w.cl xw).1.n (w.cl xo).1.n := rfl
    have en : (if (w.cl xo).1.n < (w.cl xw).1.n then (w.cl xo).1.n else (w.cl xw).1.n) = minI (w.cl xw).1.n (w.cl xo).1.n := rfl
    rw [em, en, take_E2]
    generalize hM : maxI (w.cl xw).1.n (w.cl xo).1.n = M at *
    unfold meetsB at hA hB
    rw [hM] at hA hB
    rw [List.length_map]
    refine ifK_dec (fun h1 => ⟨Int.le_refl _, hmx, by omega, _, _, good_refGrowth hG (checkB_take hbk _) nb _, _, good_Meets hG (w.cl xw).1 (w.cl xo).1 (by omega) (by omega) _ _ (growthR_short _ _) (by have := growthR_len (bk.take M.toNat) (minI (w.cl xw).1.n (w.cl xo).1.n); omega), ifK_eq (fun h2 => hA ?_) fun h2 => hB ?_⟩) fun h1 => hB ?_
    · rw [decide_eq_true (by omega), h2]; rfl
    · rw [decide_eq_true (by omega), beq_eq_false_iff_ne.2 h2]; rfl
    · rw [decide_eq_false (by omega), Bool.false_and]
  have hset : ∀ {v : Wd} {k : Int}, k.toNat < v.c.length → (v.c.map CX).set (0 + k.toNat) (setR ((v.c.map CX).getD (0 + k.toNat) []) 3 [.bool true]) = (v.setC k ((v.cl k).1, true)).c.map CX := fun {v k} hk => by
    have : (v.c.map CX).getD (0 + k.toNat) [] = CX (v.cl k) := by rw [List.getD_eq_getElem?_getD, Nat.zero_add, getX hk, cl_get hk]; rfl
    rw [this, Nat.zero_add]
    unfold Wd.setC
    rw [List.map_set]
    rfl
  have i1 : xw.toNat < w.c.length := by omega
  have i2 : xo.toNat < w.c.length := by omega
  have htk : ∀ v : Wd, v.c.length = w.c.length → ((v.c.map CX).drop 0).take (w.c.map CX).length = v.c.map CX := fun v hv => by
    rw [List.drop_zero, List.take_of_length_le (by rw [hl, List.length_map, hv]; exact Nat.le_refl _)]
  -- the end
  have fin : ∀ o : Bool, o = oneB (w.cl xw).1 (w.cl xo).1 w → Does PG nG G0 (fnOf PG f_greatsealref_Happened) 0 (lp PG f_greatsealref_Happened 0)
      (mkT 252 [(2, .ref 0 0), (3, .ref 1 0), (4, .ref 2 0), (13, .ref 3 0), (14, .ref 4 0), (15, .bool o), (164, .agg [.sl 2 w.n0 none (w.b0.map E2), .sl 2 w.n1 none (w.b1.map E2)]), (165, .int .i64 (1 + 1))])
      [some (.var [.sl 2 w.n0 none (w.b0.map E2), .sl 2 w.n1 none (w.b1.map E2), .rsl 4 5 0 (w.c.map CX).length]), some (.var [.int .i64 xk, .int .i64 xs, .int .i64 xw, .int .i64 xo, .int .i64 ek, .str ev]), some (.var [.sl 2 true none [], .sl 2 true none [], .sl 4 true none []]),
        some (.var [.int .i64 (w.cl xw).1.n, .str (w.cl xw).1.log, .str (w.cl xw).1.mp]), some (.var [.int .i64 (w.cl xo).1.n, .str (w.cl xo).1.log, .str (w.cl xo).1.mp]), some (.arr 4 (w.c.map CX))] R := by
    intro o ho
    refine does_of_run prOk (greatsealref_Happened_k4s0_l0_run G0 _ _ _ _ _ _ _ _ _ _ _ _ _ _ _ _ _ _ _ _ _ _ _ _ _ _ _ _ _ _ _ R ?_)
    rw [decide_eq_false (show ¬ (1 : Int) + 1 < 2 by decide), ifF]
    unfold meetsR at hR
    rw [← ho] at hR
    cases o with
    | true =>
      rw [if_pos rfl] at hR
      rw [Bool.not_true, ifF, htk w rfl]
      rw [wV, wL, hw.n2] at hR
      exact hR
    | false =>
      rw [if_neg (by decide)] at hR
      rw [Bool.not_false, ifT]
      refine ⟨hwho.1, by rw [hl]; omega, hoth.1, by rw [hl]; omega, ?_⟩
      rw [hset i1, hset (v := w.setC xw ((w.cl xw).1, true)) (by simpa [Wd.setC] using i2), htk _ (by simp [Wd.setC])]
      have e2 : (foolW w xw xo).n2 = false := hw.n2
      rw [wV, wL, e2] at hR
      exact hR
  have hW := checkW_iff.1 hck
  refine does_of_run prOk (greatsealref_Happened_k4s0_l0_run G0 _ _ _ _ _ _ _ _ _ _ _ _ _ _ _ _ _ _ _ _ _ _ _ _ _ _ _ _ _ _ _ R ?_)
  rw [decide_eq_true (show (0 : Int) < 2 by decide), ifT]
  simp only [beq_self_eq_true, ifT]
  rw [wrap64 (show -9223372036854775808 ≤ (0 : Int) + 1 by decide) (by decide)]
  have two : ∀ o : Bool, o = (meetsB (w.cl xw).1 (w.cl xo).1 w.b0 || meetR (w.cl xw).1 (w.cl xo).1 [] == 0) → Does PG nG G0 (fnOf PG f_greatsealref_Happened) 0 (lp PG f_greatsealref_Happened 0)
      (mkT 252 [(2, .ref 0 0), (3, .ref 1 0), (4, .ref 2 0), (13, .ref 3 0), (14, .ref 4 0), (15, .bool o), (164, .agg [.sl 2 w.n0 none (w.b0.map E2), .sl 2 w.n1 none (w.b1.map E2)]), (165, .int .i64 (0 + 1))])
      [some (.var [.sl 2 w.n0 none (w.b0.map E2), .sl 2 w.n1 none (w.b1.map E2), .rsl 4 5 0 (w.c.map CX).length]), some (.var [.int .i64 xk, .int .i64 xs, .int .i64 xw, .int .i64 xo, .int .i64 ek, .str ev]), some (.var [.sl 2 true none [], .sl 2 true none [], .sl 4 true none []]),
        some (.var [.int .i64 (w.cl xw).1.n, .str (w.cl xw).1.log, .str (w.cl xw).1.mp]), some (.var [.int .i64 (w.cl xo).1.n, .str (w.cl xo).1.log, .str (w.cl xo).1.mp]), some (.arr 4 (w.c.map CX))] R := by
    intro o ho
    refine does_of_run prOk (greatsealref_Happened_k4s0_l0_run G0 _ _ _ _ _ _ _ _ _ _ _ _ _ _ _ _ _ _ _ _ _ _ _ _ _ _ _ _ _ _ _ R ?_)
    rw [decide_eq_true (show (0 : Int) + 1 < 2 by decide), ifT]
    simp only [Int.zero_add, e10, ifF]
    rw [wrap64 (show -9223372036854775808 ≤ (1 : Int) + 1 by decide) (by decide)]
    refine ⟨by decide, by decide, book w.b1 w.n1 hW.2.1 _ _ (fun h0 => fin true ?_) fun h0 => fin o ?_⟩
    · unfold oneB; rw [h0]; simp
    · unfold oneB; rw [h0, ho]; simp
  refine ⟨by decide, by decide, book w.b0 w.n0 hW.1 _ _ (fun h0 => two true ?_) fun h0 => two _ ?_⟩
  · rw [h0]; simp
  · rw [h0]; simp

theorem good_Happened (hG : GlobOk G0) {w : Wd} (hw : WOk w) (x : Hap) :
    Good PG nG G0 f_greatsealref_Happened [wV w, .agg [.int .i64 x.1, .int .i64 x.2.1, .int .i64 x.2.2.1, .int .i64 x.2.2.2.1, .int .i64 x.2.2.2.2.1, .str x.2.2.2.2.2]] [] (.tup [wV (doR w x).1, .int .i64 (doR w x).2]) [] := by
  obtain ⟨xk, xs, xw, xo, e⟩ := x
  have c3 := hw.c3
  have l0 := hw.l0
  have l1 := hw.l1
  have hl : (w.c.map CX).length = w.c.length := List.length_map ..
  have gc := good_CloneClient_arr (G0 := G0) w.c (by omega)
  rw [← hw.n2] at gc
  have hd : (doR w (xk, xs, xw, xo, e)) = if (happenR w (xk, xs, xw, xo, e)).2 ≠ 0 then (W0, (happenR w (xk, xs, xw, xo, e)).2) else ((happenR w (xk, xs, xw, xo, e)).1, 0) := by
    unfold doR; rw [if_neg (by simpa using hw.check)]
  by_cases hk : 1 ≤ xk ∧ xk ≤ 5
  case neg =>
    refine good_of_runN prOk (by kernel_rfl) (greatsealref_Happened_bad_run _ _ _ _ _ _ xk xs xw xo e.1 e.2 G0 _ ⟨_, good_in _ _ _, ifK_out hk ⟨_, _, _, _, _, _, _, good_Happened1 4, ?_⟩⟩)
    have : happenR w (xk, xs, xw, xo, e) = (w, 4) := by unfold happenR; rw [if_pos (by simp only; omega)]
    rw [hd, this]; exact ⟨rfl, rfl⟩
  by_cases hs : 0 ≤ xs ∧ xs ≤ 1
  case neg =>
    refine good_of_runN prOk (by kernel_rfl) (greatsealref_Happened_bad_run _ _ _ _ _ _ xk xs xw xo e.1 e.2 G0 _ ⟨_, good_in _ _ _, ifK_in hk ⟨_, good_in _ _ _, ifK_out hs ⟨_, _, _, _, _, _, _, good_Happened1 5, ?_⟩⟩⟩)
    have : happenR w (xk, xs, xw, xo, e) = (w, 5) := by unfold happenR; rw [if_neg (by simp only; omega), if_pos (by simp only; omega)]
    rw [hd, this]; exact ⟨rfl, rfl⟩
  by_cases hwho : 0 ≤ xw ∧ xw ≤ 2
  case neg =>
    refine good_of_runN prOk (by kernel_rfl) (greatsealref_Happened_bad_run _ _ _ _ _ _ xk xs xw xo e.1 e.2 G0 _ ⟨_, good_in _ _ _, ifK_in hk ⟨_, good_in _ _ _, ifK_in hs ⟨_, good_in _ _ _, ifK_out hwho ⟨_, _, _, _, _, _, _, good_Happened1 5, ?_⟩⟩⟩⟩)
    have : happenR w (xk, xs, xw, xo, e) = (w, 5) := by unfold happenR; rw [if_neg (by simp only; omega), if_pos (by simp only; omega)]
    rw [hd, this]; exact ⟨rfl, rfl⟩
  by_cases hoth : 0 ≤ xo ∧ xo ≤ 2
  case neg =>
    refine good_of_runN prOk (by kernel_rfl) (greatsealref_Happened_bad_run _ _ _ _ _ _ xk xs xw xo e.1 e.2 G0 _ ⟨_, good_in _ _ _, ifK_in hk ⟨_, good_in _ _ _, ifK_in hs ⟨_, good_in _ _ _, ifK_in hwho ⟨_, good_in _ _ _, ifK_out hoth ⟨_, _, _, _, _, _, _, good_Happened1 5, ?_⟩⟩⟩⟩⟩)
    have : happenR w (xk, xs, xw, xo, e) = (w, 5) := by unfold happenR; rw [if_neg (by simp only; omega), if_pos (by simp only; omega)]
    rw [hd, this]; exact ⟨rfl, rfl⟩
  -- what may happen
  have hin : xw.toNat < w.c.length := by omega
  have hgc : ∀ {k : Int}, 0 ≤ k ∧ k ≤ 2 → (w.c.map CX)[0 + k.toNat]? = some (CX (w.cl k)) := fun {k} h => by rw [Nat.zero_add, getX (by omega), cl_get (by omega)]
  have hxl : xw < ((w.c.map CX).length : Int) := by rw [hl]; omega
  have hol : xo < ((w.c.map CX).length : Int) := by rw [hl]; omega
  have hgd : (w.c.map CX).getD (0 + xw.toNat) [] = CX (w.cl xw) := by rw [List.getD_eq_getElem?_getD, hgc hwho]; rfl
  have hset : ∀ c : Cl, (w.c.map CX).set (0 + xw.toNat) (setR (CX (w.cl xw)) 0 [.int .i64 c.1.n, .str c.1.log, .str c.1.mp, .bool c.2]) = (w.setC xw c).c.map CX := fun c => by
    rw [Nat.zero_add]
    unfold Wd.setC
    rw [List.map_set]
    rfl
  have hbk := checkW_bk hw.check xs
  have hh : happenR w (xk, xs, xw, xo, e) = if xk = 1 then (if (putBk (w.bk xs) e).2 = 0 then (w.put xs (putBk (w.bk xs) e).1, 0) else (w, (putBk (w.bk xs) e).2)) else if xk = 2 then ({ w with n1 := w.n0, b1 := w.b0 }, 0) else if xk = 3 then showsR w xw xs else if xk = 4 then (meetsR w xw xo, 0) else (w, asksR w xw xs e.1) := by
    unfold happenR; rw [if_neg (by simp only; omega), if_neg (by simp only; omega)]
  rw [hh] at hd
  have htk : ∀ v : Wd, v.c.length = w.c.length → ((v.c.map CX).drop 0).take (w.c.map CX).length = v.c.map CX := fun v hv => by
    rw [List.drop_zero, List.take_of_length_le (by rw [hl, List.length_map, hv]; exact Nat.le_refl _)]
  have hdn : ∀ R : AV → List (Option Blk) → Prop, ∀ v : Wd, v.n2 = false → R (.tup [wV v, .int .i64 0]) [] → R (.tup [.agg [.sl 2 v.n0 none (v.b0.map E2), .sl 2 v.n1 none (v.b1.map E2), .sl 4 false none (v.c.map CX)], .int .i64 0]) [] := fun R v hv h => by
    rw [wV, wL, hv] at h; exact h
  have hkk : xk = 1 ∨ xk = 2 ∨ xk = 3 ∨ xk = 4 ∨ xk = 5 := by omega
  have hss : xs = 0 ∨ xs = 1 := by omega
  have hhd : (headOf (w.bk xs)).2 = 0 := by rw [headOf_code]; exact hbk
  have gho := good_HeadOf (G0 := G0) hG (w.bk xs) (w.nb xs)
  rw [hhd] at gho
  have gst : ∀ {A B : Prop}, B → ifK ((0 : Int) != 0) A B := fun h => h
  rcases hkk with rfl | rfl | rfl | rfl | rfl
  · rcases hss with rfl | rfl
    · simp only [↓reduceIte] at hd
      suffices main : ∀ R : AV → List (Option Blk) → Prop, R (.tup [wV (doR w (1, 0, xw, xo, e)).1, .int .i64 (doR w (1, 0, xw, xo, e)).2]) [] → Hold (runF PG ty nG G0 an_greatsealref_Happened_k1s0 f_greatsealref_Happened [wV w, .agg [.int .i64 1, .int .i64 0, .int .i64 xw, .int .i64 xo, .int .i64 e.1, .str e.2]] [] R) from
        good_of_run prOk (by kernel_rfl) (main _ ⟨rfl, rfl⟩)
      intro R hR
      refine greatsealref_Happened_k1s0_run _ _ _ _ _ _ xw xo e.1 e.2 G0 R ⟨_, good_in _ _ _, ifK_in (by decide) ⟨_, good_in _ _ _, ifK_in (by decide) ⟨_, good_in _ _ _, ifK_in hwho ⟨_, good_in _ _ _, ifK_in hoth ⟨false, w.c.map CX, rfl, gc, by decide, by decide, hwho.1, hxl, _, _, _, _, ⟨_, hgc hwho, rfl⟩, ?_⟩⟩⟩⟩⟩
      rw [putBk_two hbk] at hd
      have gcb := good_CheckBook (G0 := G0) (w.b0 ++ [e]) (w.n0 && List.isEmpty [E2 e])
      rw [List.map_append] at gcb
      refine ⟨_, _, good_CloneEntry w.b0 w.n0 hw.n0 (by omega), by simp only [List.length_map, List.length_cons, List.length_nil]; omega, rfl, by decide, by decide, by decide, by decide, _, gcb, ifK_ne0 (fun h => ⟨_, _, _, _, _, _, _, good_Happened1 _, ?_⟩) fun h => ?_⟩
      · have h : checkB (w.bk 0 ++ [e]) ≠ 0 := h
        rw [if_neg h] at hd
        simp only at hd
        rw [if_pos h] at hd
        rw [hd] at hR; exact hR
      · have h : checkB (w.bk 0 ++ [e]) = 0 := h
        have hp : (putBk (w.bk 0) e).1 = w.bk 0 ++ [e] := (putBk_zero (by rw [putBk_two hbk]; exact h)).2.2
        rw [if_pos h, hp] at hd
        simp only [ne_eq, not_true_eq_false, if_false] at hd
        have hd : doR w (1, 0, xw, xo, e) = ({ w with n0 := false, b0 := w.b0 ++ [e] }, 0) := hd
        rw [hd] at hR
        have := hdn R { w with n0 := false, b0 := w.b0 ++ [e] } hw.n2 hR
        simp only [List.map_append] at this
        rw [htk w rfl, show (w.n0 && List.isEmpty [[AV.int .i64 e.1, AV.str e.2]]) = false by cases w.n0 <;> rfl]
        exact this
    · simp only [↓reduceIte] at hd
      suffices main : ∀ R : AV → List (Option Blk) → Prop, R (.tup [wV (doR w (1, 1, xw, xo, e)).1, .int .i64 (doR w (1, 1, xw, xo, e)).2]) [] → Hold (runF PG ty nG G0 an_greatsealref_Happened_k1s1 f_greatsealref_Happened [wV w, .agg [.int .i64 1, .int .i64 1, .int .i64 xw, .int .i64 xo, .int .i64 e.1, .str e.2]] [] R) from
        good_of_run prOk (by kernel_rfl) (main _ ⟨rfl, rfl⟩)
      intro R hR
      refine greatsealref_Happened_k1s1_run _ _ _ _ _ _ xw xo e.1 e.2 G0 R ⟨_, good_in _ _ _, ifK_in (by decide) ⟨_, good_in _ _ _, ifK_in (by decide) ⟨_, good_in _ _ _, ifK_in hwho ⟨_, good_in _ _ _, ifK_in hoth ⟨false, w.c.map CX, rfl, gc, by decide, by decide, hwho.1, hxl, _, _, _, _, ⟨_, hgc hwho, rfl⟩, ?_⟩⟩⟩⟩⟩
      rw [putBk_two hbk] at hd
      have gcb := good_CheckBook (G0 := G0) (w.b1 ++ [e]) (w.n1 && List.isEmpty [E2 e])
      rw [List.map_append] at gcb
      refine ⟨_, _, good_CloneEntry w.b1 w.n1 hw.n1 (by omega), by simp only [List.length_map, List.length_cons, List.length_nil]; omega, rfl, by decide, by decide, by decide, by decide, _, gcb, ifK_ne0 (fun h => ⟨_, _, _, _, _, _, _, good_Happened1 _, ?_⟩) fun h => ?_⟩
      · have h : checkB (w.bk 1 ++ [e]) ≠ 0 := h
        rw [if_neg h] at hd
        simp only at hd
        rw [if_pos h] at hd
        rw [hd] at hR; exact hR
      · have h : checkB (w.bk 1 ++ [e]) = 0 := h
        have hp : (putBk (w.bk 1) e).1 = w.bk 1 ++ [e] := (putBk_zero (by rw [putBk_two hbk]; exact h)).2.2
        rw [if_pos h, hp] at hd
        simp only [ne_eq, not_true_eq_false, if_false] at hd
        have hd : doR w (1, 1, xw, xo, e) = ({ w with n1 := false, b1 := w.b1 ++ [e] }, 0) := hd
        rw [hd] at hR
        have := hdn R { w with n1 := false, b1 := w.b1 ++ [e] } hw.n2 hR
        simp only [List.map_append] at this
        rw [htk w rfl, show (w.n1 && List.isEmpty [[AV.int .i64 e.1, AV.str e.2]]) = false by cases w.n1 <;> rfl]
        exact this
  · rcases hss with rfl | rfl
    · simp only [↓reduceIte, Int.reduceEq] at hd
      suffices main : ∀ R : AV → List (Option Blk) → Prop, R (.tup [wV (doR w (2, 0, xw, xo, e)).1, .int .i64 (doR w (2, 0, xw, xo, e)).2]) [] → Hold (runF PG ty nG G0 an_greatsealref_Happened_k2s0 f_greatsealref_Happened [wV w, .agg [.int .i64 2, .int .i64 0, .int .i64 xw, .int .i64 xo, .int .i64 e.1, .str e.2]] [] R) from
        good_of_run prOk (by kernel_rfl) (main _ ⟨rfl, rfl⟩)
      intro R hR
      refine greatsealref_Happened_k2s0_run _ _ _ _ _ _ xw xo e.1 e.2 G0 R ⟨_, good_in _ _ _, ifK_in (by decide) ⟨_, good_in _ _ _, ifK_in (by decide) ⟨_, good_in _ _ _, ifK_in hwho ⟨_, good_in _ _ _, ifK_in hoth ⟨false, w.c.map CX, rfl, gc, by decide, by decide, hwho.1, hxl, _, _, _, _, ⟨_, hgc hwho, rfl⟩, ?_⟩⟩⟩⟩⟩
      refine ⟨by decide, by decide, _, _, (good_CloneEntry w.b0 w.n0 hw.n0 (by omega)).forget, by decide, by decide, ?_⟩
      simp only [ne_eq, not_true_eq_false, if_false] at hd
      rw [hd] at hR
      rw [htk w rfl]
      exact hdn R { w with n1 := w.n0, b1 := w.b0 } hw.n2 hR
    · simp only [↓reduceIte, Int.reduceEq] at hd
      suffices main : ∀ R : AV → List (Option Blk) → Prop, R (.tup [wV (doR w (2, 1, xw, xo, e)).1, .int .i64 (doR w (2, 1, xw, xo, e)).2]) [] → Hold (runF PG ty nG G0 an_greatsealref_Happened_k2s1 f_greatsealref_Happened [wV w, .agg [.int .i64 2, .int .i64 1, .int .i64 xw, .int .i64 xo, .int .i64 e.1, .str e.2]] [] R) from
        good_of_run prOk (by kernel_rfl) (main _ ⟨rfl, rfl⟩)
      intro R hR
      refine greatsealref_Happened_k2s1_run _ _ _ _ _ _ xw xo e.1 e.2 G0 R ⟨_, good_in _ _ _, ifK_in (by decide) ⟨_, good_in _ _ _, ifK_in (by decide) ⟨_, good_in _ _ _, ifK_in hwho ⟨_, good_in _ _ _, ifK_in hoth ⟨false, w.c.map CX, rfl, gc, by decide, by decide, hwho.1, hxl, _, _, _, _, ⟨_, hgc hwho, rfl⟩, ?_⟩⟩⟩⟩⟩
      refine ⟨by decide, by decide, _, _, (good_CloneEntry w.b0 w.n0 hw.n0 (by omega)).forget, by decide, by decide, ?_⟩
      simp only [ne_eq, not_true_eq_false, if_false] at hd
      rw [hd] at hR
      rw [htk w rfl]
      exact hdn R { w with n1 := w.n0, b1 := w.b0 } hw.n2 hR
  · rcases hss with rfl | rfl
    · simp only [↓reduceIte, Int.reduceEq] at hd
      suffices main : ∀ R : AV → List (Option Blk) → Prop, R (.tup [wV (doR w (3, 0, xw, xo, e)).1, .int .i64 (doR w (3, 0, xw, xo, e)).2]) [] → Hold (runF PG ty nG G0 an_greatsealref_Happened_k3s0 f_greatsealref_Happened [wV w, .agg [.int .i64 3, .int .i64 0, .int .i64 xw, .int .i64 xo, .int .i64 e.1, .str e.2]] [] R) from
        good_of_run prOk (by kernel_rfl) (main _ ⟨rfl, rfl⟩)
      intro R hR
      refine greatsealref_Happened_k3s0_run _ _ _ _ _ _ xw xo e.1 e.2 G0 R ⟨_, good_in _ _ _, ifK_in (by decide) ⟨_, good_in _ _ _, ifK_in (by decide) ⟨_, good_in _ _ _, ifK_in hwho ⟨_, good_in _ _ _, ifK_in hoth ⟨false, w.c.map CX, rfl, gc, by decide, by decide, hwho.1, hxl, _, _, _, _, ⟨_, hgc hwho, rfl⟩, ?_⟩⟩⟩⟩⟩
      have gg := good_refGrowth (G0 := G0) hG hbk (w.nb 0) (w.cl xw).1.n
      have gf := good_Follows (G0 := G0) hG (w.cl xw) (headOf (w.bk 0)).1 (growthR (w.bk 0) (w.cl xw).1.n).isEmpty (growthR (w.bk 0) (w.cl xw).1.n) (growthR_short _ _) (by have := growthR_len (w.bk 0) (w.cl xw).1.n; omega)
      have hsh : showsR w xw 0 = if (followR (w.cl xw) (headOf (w.bk 0)).1 (growthR (w.bk 0) (w.cl xw).1.n)).2 ≠ 0 ∧ (followR (w.cl xw) (headOf (w.bk 0)).1 (growthR (w.bk 0) (w.cl xw).1.n)).2 ≠ 7 then (w, (followR (w.cl xw) (headOf (w.bk 0)).1 (growthR (w.bk 0) (w.cl xw).1.n)).2) else (w.setC xw (followR (w.cl xw) (headOf (w.bk 0)).1 (growthR (w.bk 0) (w.cl xw).1.n)).1, 0) := by
        unfold showsR; rw [if_neg (by simpa using hhd)]
      rw [hsh] at hd
      generalize followR (w.cl xw) (headOf (w.bk 0)).1 (growthR (w.bk 0) (w.cl xw).1.n) = fo at *
      refine ⟨_, _, _, _, gho, gst ⟨_, _, gg, _, _, _, _, _, gf, ifK_ne0 (fun h2 => ifK_ne70 (fun h3 => ⟨_, _, _, _, _, _, _, good_Happened1 _, ?_⟩) fun h3 => ⟨hwho.1, hxl, ?_⟩) fun h2 => ⟨hwho.1, hxl, ?_⟩⟩⟩
      · simp only [if_pos (show fo.2 ≠ 0 ∧ fo.2 ≠ 7 from ⟨h2, h3⟩)] at hd
        rw [if_pos h2] at hd
        rw [hd] at hR; exact hR
      · simp only [if_neg (show ¬ (fo.2 ≠ 0 ∧ fo.2 ≠ 7) from fun h => h.2 h3), ne_eq, not_true_eq_false, if_false] at hd
        rw [hd] at hR
        rw [hgd, hset, htk _ (by simp [Wd.setC])]
        exact hdn R (w.setC xw fo.1) hw.n2 hR
      · simp only [if_neg (show ¬ (fo.2 ≠ 0 ∧ fo.2 ≠ 7) from fun h => h.1 h2), ne_eq, not_true_eq_false, if_false] at hd
        rw [hd] at hR
        rw [hgd, hset, htk _ (by simp [Wd.setC])]
        exact hdn R (w.setC xw fo.1) hw.n2 hR
    · simp only [↓reduceIte, Int.reduceEq] at hd
      suffices main : ∀ R : AV → List (Option Blk) → Prop, R (.tup [wV (doR w (3, 1, xw, xo, e)).1, .int .i64 (doR w (3, 1, xw, xo, e)).2]) [] → Hold (runF PG ty nG G0 an_greatsealref_Happened_k3s1 f_greatsealref_Happened [wV w, .agg [.int .i64 3, .int .i64 1, .int .i64 xw, .int .i64 xo, .int .i64 e.1, .str e.2]] [] R) from
        good_of_run prOk (by kernel_rfl) (main _ ⟨rfl, rfl⟩)
      intro R hR
      refine greatsealref_Happened_k3s1_run _ _ _ _ _ _ xw xo e.1 e.2 G0 R ⟨_, good_in _ _ _, ifK_in (by decide) ⟨_, good_in _ _ _, ifK_in (by decide) ⟨_, good_in _ _ _, ifK_in hwho ⟨_, good_in _ _ _, ifK_in hoth ⟨false, w.c.map CX, rfl, gc, by decide, by decide, hwho.1, hxl, _, _, _, _, ⟨_, hgc hwho, rfl⟩, ?_⟩⟩⟩⟩⟩
      have gg := good_refGrowth (G0 := G0) hG hbk (w.nb 1) (w.cl xw).1.n
      have gf := good_Follows (G0 := G0) hG (w.cl xw) (headOf (w.bk 1)).1 (growthR (w.bk 1) (w.cl xw).1.n).isEmpty (growthR (w.bk 1) (w.cl xw).1.n) (growthR_short _ _) (by have := growthR_len (w.bk 1) (w.cl xw).1.n; omega)
      have hsh : showsR w xw 1 = if (followR (w.cl xw) (headOf (w.bk 1)).1 (growthR (w.bk 1) (w.cl xw).1.n)).2 ≠ 0 ∧ (followR (w.cl xw) (headOf (w.bk 1)).1 (growthR (w.bk 1) (w.cl xw).1.n)).2 ≠ 7 then (w, (followR (w.cl xw) (headOf (w.bk 1)).1 (growthR (w.bk 1) (w.cl xw).1.n)).2) else (w.setC xw (followR (w.cl xw) (headOf (w.bk 1)).1 (growthR (w.bk 1) (w.cl xw).1.n)).1, 0) := by
        unfold showsR; rw [if_neg (by simpa using hhd)]
      rw [hsh] at hd
      generalize followR (w.cl xw) (headOf (w.bk 1)).1 (growthR (w.bk 1) (w.cl xw).1.n) = fo at *
      refine ⟨_, _, _, _, gho, gst ⟨_, _, gg, _, _, _, _, _, gf, ifK_ne0 (fun h2 => ifK_ne70 (fun h3 => ⟨_, _, _, _, _, _, _, good_Happened1 _, ?_⟩) fun h3 => ⟨hwho.1, hxl, ?_⟩) fun h2 => ⟨hwho.1, hxl, ?_⟩⟩⟩
      · simp only [if_pos (show fo.2 ≠ 0 ∧ fo.2 ≠ 7 from ⟨h2, h3⟩)] at hd
        rw [if_pos h2] at hd
        rw [hd] at hR; exact hR
      · simp only [if_neg (show ¬ (fo.2 ≠ 0 ∧ fo.2 ≠ 7) from fun h => h.2 h3), ne_eq, not_true_eq_false, if_false] at hd
        rw [hd] at hR
        rw [hgd, hset, htk _ (by simp [Wd.setC])]
        exact hdn R (w.setC xw fo.1) hw.n2 hR
      · simp only [if_neg (show ¬ (fo.2 ≠ 0 ∧ fo.2 ≠ 7) from fun h => h.1 h2), ne_eq, not_true_eq_false, if_false] at hd
        rw [hd] at hR
        rw [hgd, hset, htk _ (by simp [Wd.setC])]
        exact hdn R (w.setC xw fo.1) hw.n2 hR
  · rcases hss with rfl | rfl
    · simp only [↓reduceIte, Int.reduceEq] at hd
      suffices main : ∀ R : AV → List (Option Blk) → Prop, R (.tup [wV (doR w (4, 0, xw, xo, e)).1, .int .i64 (doR w (4, 0, xw, xo, e)).2]) [] → Hold (runF PG ty nG G0 an_greatsealref_Happened_k4s0 f_greatsealref_Happened [wV w, .agg [.int .i64 4, .int .i64 0, .int .i64 xw, .int .i64 xo, .int .i64 e.1, .str e.2]] [] R) from
        good_of_run prOk (by kernel_rfl) (main _ ⟨rfl, rfl⟩)
      intro R hR
      refine greatsealref_Happened_k4s0_run _ _ _ _ _ _ xw xo e.1 e.2 G0 R ⟨_, good_in _ _ _, ifK_in (by decide) ⟨_, good_in _ _ _, ifK_in (by decide) ⟨_, good_in _ _ _, ifK_in hwho ⟨_, good_in _ _ _, ifK_in hoth ⟨false, w.c.map CX, rfl, gc, by decide, by decide, hwho.1, hxl, _, _, _, _, ⟨_, hgc hwho, rfl⟩, ?_⟩⟩⟩⟩⟩
      have hx := checkH_ok (checkW_cl hw.check xw)
      have hy := checkH_ok (checkW_cl hw.check xo)
      simp only [ne_eq, not_true_eq_false, if_false] at hd
      rw [hd] at hR
      exact ⟨hoth.1, hol, _, _, _, ⟨_, hgc hoth, rfl⟩, _, good_Meets hG (w.cl xw).1 (w.cl xo).1 (by omega) (by omega) true [] (by simp) (by decide), happened_loop hG hw hwho hoth _ 4 0 e.1 e.2 rfl hR⟩
    · simp only [↓reduceIte, Int.reduceEq] at hd
      suffices main : ∀ R : AV → List (Option Blk) → Prop, R (.tup [wV (doR w (4, 1, xw, xo, e)).1, .int .i64 (doR w (4, 1, xw, xo, e)).2]) [] → Hold (runF PG ty nG G0 an_greatsealref_Happened_k4s1 f_greatsealref_Happened [wV w, .agg [.int .i64 4, .int .i64 1, .int .i64 xw, .int .i64 xo, .int .i64 e.1, .str e.2]] [] R) from
        good_of_run prOk (by kernel_rfl) (main _ ⟨rfl, rfl⟩)
      intro R hR
      refine greatsealref_Happened_k4s1_run _ _ _ _ _ _ xw xo e.1 e.2 G0 R ⟨_, good_in _ _ _, ifK_in (by decide) ⟨_, good_in _ _ _, ifK_in (by decide) ⟨_, good_in _ _ _, ifK_in hwho ⟨_, good_in _ _ _, ifK_in hoth ⟨false, w.c.map CX, rfl, gc, by decide, by decide, hwho.1, hxl, _, _, _, _, ⟨_, hgc hwho, rfl⟩, ?_⟩⟩⟩⟩⟩
      have hx := checkH_ok (checkW_cl hw.check xw)
      have hy := checkH_ok (checkW_cl hw.check xo)
      simp only [ne_eq, not_true_eq_false, if_false] at hd
      rw [hd] at hR
      exact ⟨hoth.1, hol, _, _, _, ⟨_, hgc hoth, rfl⟩, _, good_Meets hG (w.cl xw).1 (w.cl xo).1 (by omega) (by omega) true [] (by simp) (by decide), happened_loop hG hw hwho hoth _ 4 1 e.1 e.2 rfl hR⟩
  · rcases hss with rfl | rfl
    · simp only [↓reduceIte, Int.reduceEq] at hd
      suffices main : ∀ R : AV → List (Option Blk) → Prop, R (.tup [wV (doR w (5, 0, xw, xo, e)).1, .int .i64 (doR w (5, 0, xw, xo, e)).2]) [] → Hold (runF PG ty nG G0 an_greatsealref_Happened_k5s0 f_greatsealref_Happened [wV w, .agg [.int .i64 5, .int .i64 0, .int .i64 xw, .int .i64 xo, .int .i64 e.1, .str e.2]] [] R) from
        good_of_run prOk (by kernel_rfl) (main _ ⟨rfl, rfl⟩)
      intro R hR
      refine greatsealref_Happened_k5s0_run _ _ _ _ _ _ xw xo e.1 e.2 G0 R ⟨_, good_in _ _ _, ifK_in (by decide) ⟨_, good_in _ _ _, ifK_in (by decide) ⟨_, good_in _ _ _, ifK_in hwho ⟨_, good_in _ _ _, ifK_in hoth ⟨false, w.c.map CX, rfl, gc, by decide, by decide, hwho.1, hxl, _, _, _, _, ⟨_, hgc hwho, rfl⟩, ?_⟩⟩⟩⟩⟩
      have gv := good_ValuesOf (G0 := G0) (w.bk 0) (w.nb 0) (by have := (checkB_ok hbk).1; omega)
      refine ⟨_, _, gv, _, good_in _ _ _, ?_⟩
      by_cases hke : 0 ≤ e.1 ∧ e.1 ≤ 15
      · rw [asks_ok hw.check xw 0 hke] at hd
        have gm := good_MapPath (G0 := G0) hG (valsRev (w.bk 0)) false (valsRev_check hbk) e.1.toNat (by omega)
        rw [valsRev_fM, show ((e.1.toNat : Nat) : Int) = e.1 by omega] at gm
        have gsh := good_MapShows (G0 := G0) hG (w.cl xw).1.mp e.1 ((mGet (valsOf (w.bk 0)) e.1).getD []) (mGet (valsOf (w.bk 0)) e.1).isSome false (triePath (fM (valsOf (w.bk 0))) e.1.toNat 4) (triePath_short (fM_good (valsOf_check hbk)) _)
        refine ifK_in hke ⟨_, _, mlookD_KV _ _, ?_⟩
        rw [show mGet (valsRev (w.bk 0)) e.1 = mGet (valsOf (w.bk 0)) e.1 by rw [valsRev_get, valsOf_get]]
        refine ⟨_, _, gm, _, gsh, ifK_ne0 (fun h => ⟨_, _, _, _, _, _, _, good_Happened1 _, ?_⟩) fun h => ?_⟩
        · rw [if_pos h] at hd; rw [hd] at hR; exact hR
        · rw [if_neg (by simpa using h)] at hd; rw [hd] at hR
          rw [htk w rfl]; exact hdn R w hw.n2 hR
      · rw [asks_bad hw.check xw 0 hke] at hd
        refine ifK_out hke ⟨_, _, _, _, _, _, _, good_Happened1 5, ?_⟩
        rw [if_pos (by decide)] at hd; rw [hd] at hR; exact hR
    · simp only [↓reduceIte, Int.reduceEq] at hd
      suffices main : ∀ R : AV → List (Option Blk) → Prop, R (.tup [wV (doR w (5, 1, xw, xo, e)).1, .int .i64 (doR w (5, 1, xw, xo, e)).2]) [] → Hold (runF PG ty nG G0 an_greatsealref_Happened_k5s1 f_greatsealref_Happened [wV w, .agg [.int .i64 5, .int .i64 1, .int .i64 xw, .int .i64 xo, .int .i64 e.1, .str e.2]] [] R) from
        good_of_run prOk (by kernel_rfl) (main _ ⟨rfl, rfl⟩)
      intro R hR
      refine greatsealref_Happened_k5s1_run _ _ _ _ _ _ xw xo e.1 e.2 G0 R ⟨_, good_in _ _ _, ifK_in (by decide) ⟨_, good_in _ _ _, ifK_in (by decide) ⟨_, good_in _ _ _, ifK_in hwho ⟨_, good_in _ _ _, ifK_in hoth ⟨false, w.c.map CX, rfl, gc, by decide, by decide, hwho.1, hxl, _, _, _, _, ⟨_, hgc hwho, rfl⟩, ?_⟩⟩⟩⟩⟩
      have gv := good_ValuesOf (G0 := G0) (w.bk 1) (w.nb 1) (by have := (checkB_ok hbk).1; omega)
      refine ⟨_, _, gv, _, good_in _ _ _, ?_⟩
      by_cases hke : 0 ≤ e.1 ∧ e.1 ≤ 15
      · rw [asks_ok hw.check xw 1 hke] at hd
        have gm := good_MapPath (G0 := G0) hG (valsRev (w.bk 1)) false (valsRev_check hbk) e.1.toNat (by omega)
        rw [valsRev_fM, show ((e.1.toNat : Nat) : Int) = e.1 by omega] at gm
        have gsh := good_MapShows (G0 := G0) hG (w.cl xw).1.mp e.1 ((mGet (valsOf (w.bk 1)) e.1).getD []) (mGet (valsOf (w.bk 1)) e.1).isSome false (triePath (fM (valsOf (w.bk 1))) e.1.toNat 4) (triePath_short (fM_good (valsOf_check hbk)) _)
        refine ifK_in hke ⟨_, _, mlookD_KV _ _, ?_⟩
        rw [show mGet (valsRev (w.bk 1)) e.1 = mGet (valsOf (w.bk 1)) e.1 by rw [valsRev_get, valsOf_get]]
        refine ⟨_, _, gm, _, gsh, ifK_ne0 (fun h => ⟨_, _, _, _, _, _, _, good_Happened1 _, ?_⟩) fun h => ?_⟩
        · rw [if_pos h] at hd; rw [hd] at hR; exact hR
        · rw [if_neg (by simpa using h)] at hd; rw [hd] at hR
          rw [htk w rfl]; exact hdn R w hw.n2 hR
      · rw [asks_bad hw.check xw 1 hke] at hd
        refine ifK_out hke ⟨_, _, _, _, _, _, _, good_Happened1 5, ?_⟩
        rw [if_pos (by decide)] at hd; rw [hd] at hR; exact hR
end Go.Ab

namespace Go.Ab
open Go.Proofs Go.Gs
variable {G0 : Nat → Option Obj}

theorem good_EqualErrno (a b : List Int) (na nb : Bool) (hb : (a.length : Int) ≤ 9223372036854775806) : Good PG nG G0 f_slices_Equal_Errno [.sl 1 na none (a.map I1), .sl 1 nb none (b.map I1)] [] (.bool (decide (a = b))) [] := by
  refine good_of_run prOk (by kernel_rfl) (slices_Equal_Errno_run na _ nb _ G0 _ ?_)
  simp only [ifK_iff, bne_iff_ne, ne_eq, List.length_map, bne_eq_false_iff_eq]
  refine ⟨fun h => ⟨?_, trivial⟩, fun h => ?_⟩
  · have : a ≠ b := by rintro rfl; exact h rfl
    simp [this]
  · refine eq_gen (D := fun i : Nat => Does PG nG G0 (fnOf PG f_slices_Equal_Errno) 0 (lp PG f_slices_Equal_Errno 0) (mkT 26 [(0, .sl 1 na none (a.map I1)), (1, .sl 1 nb none (b.map I1)), (12, .int .i64 a.length), (13, .int .i64 i)]) [] fun r' H'' => r' = .bool (decide (a = b)) ∧ H'' = [])
      (Q := fun c => c = decide (a = b)) a b (by omega) (fun i hi h1 h2 => ?_) (fun h1 => ?_) rfl
    · refine does_of_run prOk (slices_Equal_Errno_l0_run G0 na _ nb _ _ _ _ ?_)
      simp only [ifK_iff, decide_eq_true_eq, decide_eq_false_iff_not, Int.toNat_natCast]
      rw [wrapI (by omega) (by omega)]
      refine ⟨fun _ => ⟨by omega, _, getX hi, by omega, _, getX (by omega), fun h4 => ?_, fun h4 => ?_⟩, fun h => by omega⟩
      · exact ⟨by rw [← h1 (by simpa using h4)], trivial⟩
      · exact h2 (by simpa using h4)
    · refine does_of_run prOk (slices_Equal_Errno_l0_run G0 na _ nb _ _ _ _ ?_)
      simp only [ifK_iff, decide_eq_true_eq, decide_eq_false_iff_not]
      exact ⟨fun h => by omega, fun _ => ⟨by rw [← h1], trivial⟩⟩

theorem good_lied1 (s k : Int) (v : By) : Good PG nG G0 f_greatseallaw_lied_c1 [.int .i64 s, .int .i64 k, .str v] [] (.agg [.int .i64 1, .int .i64 s, .int .i64 0, .int .i64 0, .int .i64 k, .str v]) [] :=
  good_of_run prOk (by kernel_rfl) (greatseallaw_lied_c1_run s k v G0 _ ⟨rfl, rfl⟩)
theorem good_lied2 (w s : Int) : Good PG nG G0 f_greatseallaw_lied_c2 [.int .i64 w, .int .i64 s] [] (.agg [.int .i64 3, .int .i64 s, .int .i64 w, .int .i64 0, .int .i64 0, .str []]) [] :=
  good_of_run prOk (by kernel_rfl) (greatseallaw_lied_c2_run w s G0 _ ⟨rfl, rfl⟩)

def lie1 : List Hap := [(1, 0, 0, 0, 5, [120]), (2, 0, 0, 0, 0, []), (3, 0, 0, 0, 0, []), (3, 1, 1, 0, 0, []), (4, 0, 0, 1, 0, []), (1, 0, 0, 0, 5, [121]), (1, 1, 0, 0, 5, [122]), (3, 0, 0, 0, 0, []), (3, 1, 1, 0, 0, []), (5, 0, 0, 0, 5, []), (5, 1, 0, 0, 5, [])]
def lie2 : List Hap := [(4, 0, 0, 1, 0, [])]
def lieW : Wd := (runR newW lie1).1.1
def lieV : Wd := (runR lieW lie2).1.1

theorem lie_runs : (runR newW lie1).2 = 0 ∧ (runR newW lie1).1.2 = [0, 0, 0, 0, 0, 0, 0, 0, 0, 0, 7] ∧ lieW.c.length = 3 ∧ (lieW.cl 0).2 = false ∧ (lieW.cl 1).2 = false ∧
    (runR lieW lie2).2 = 0 ∧ (runR lieW lie2).1.2.length = 1 ∧ lieV.c.length = 3 ∧ (lieV.cl 0).2 = true ∧ (lieV.cl 1).2 = true ∧ (lieV.cl 2).2 = false := by decide +kernel

theorem runR_ok {w : Wd} (h : WOk w) {l : List Hap} (e : (runR w l).2 = 0) : WOk (runR w l).1.1 := by
  unfold runR at e ⊢
  rw [if_neg (by simpa using h.check)] at e ⊢
  split at e
  · cases e
  · rename_i h1
    rw [if_neg h1]
    have key : ∀ (l : List Hap) (v : Wd), WOk v → WOk (runW v l) := by
      intro l
      induction l with
      | nil => intro v hv; exact hv
      | cons x r ih => intro v hv; exact ih _ (hv.step x)
    exact key l w h

set_option maxRecDepth 100000 in
theorem good_lied (hG : GlobOk G0) : Good PG nG G0 f_greatseallaw_lied [] [] (.bool true) [] := by
  obtain ⟨h1, h2, h3, h4, h5, h6, h7, h8, h9, h10, h11⟩ := lie_runs
  have hW : WOk lieW := runR_ok WOk.new h1
  have g1 := good_worldRun (G0 := G0) hG (w := newW) (fun _ => WOk.new) lie1 false
  have g2 := good_worldRun (G0 := G0) hG (w := lieW) (fun _ => hW) lie2 false
  have ge := good_EqualErrno (G0 := G0) (runR newW lie1).1.2 [0, 0, 0, 0, 0, 0, 0, 0, 0, 0, 7] (runR newW lie1).1.2.isEmpty false (by rw [h2]; decide)
  rw [decide_eq_true h2] at ge
  have c : ∀ (v : Wd) (k : Nat), k < v.c.length → (v.c.map CX)[k]? = some (CX (v.cl k)) := fun v k hk => by rw [getX hk, cl_get (by simpa using hk)]; rfl
  refine good_of_run prOk (by kernel_rfl) (greatseallaw_lied_run G0 _ ⟨_, _, _, _, _, _, good_worldNew, _, _, _, _, _, _, good_lied1 0 5 [120], _, _, _, _, _, _, good_lied2 0 0, _, _, _, _, _, _, good_lied2 1 1, _, _, _, _, _, _, good_lied1 0 5 [121], _, _, _, _, _, _, good_lied1 1 5 [122],
    _, _, _, _, _, _, good_lied2 0 0, _, _, _, _, _, _, good_lied2 1 1, _, _, _, _, _, _, _, _, _, g1, ifK_eq (fun _ => ?_) fun h => ?_⟩)
  · refine ⟨by decide, _, _, _, _, c lieW 0 (by rw [h3]; decide), ?_⟩
    rw [show ((0 : Nat) : Int) = 0 from rfl, h4, Bool.not_false, ifT]
    refine ⟨by decide, _, _, _, _, c lieW 1 (by rw [h3]; decide), _, _, _, _, _, _, _, _, _, g2, ifK_eq (fun _ => ifK_eq (fun _ => ?_) fun h => absurd h6 h) fun h => absurd h1 h⟩
    rw [show ((1 : Nat) : Int) = 1 from rfl, h5, Bool.not_false, ifT]
    refine ⟨_, ge, ?_⟩
    rw [ifT]
    refine ifK_eq (fun _ => ⟨by decide, _, _, _, _, c lieV 0 (by rw [h8]; decide), ?_⟩) fun h => ?_
    · rw [show ((0 : Nat) : Int) = 0 from rfl, h9, ifT]
      refine ⟨by decide, _, _, _, _, c lieV 1 (by rw [h8]; decide), ?_⟩
      rw [show ((1 : Nat) : Int) = 1 from rfl, h10, ifT]
      refine ⟨by decide, _, _, _, _, c lieV 2 (by rw [h8]; decide), ?_⟩
      rw [show ((2 : Nat) : Int) = 2 from rfl, h11]
      exact ⟨rfl, rfl⟩
    · exact (h (by rw [List.length_map, h7]; rfl)).elim
  · exact (h (by rw [List.length_map]; exact congrArg Nat.cast h3)).elim

theorem good_storyOf (hG : GlobOk G0) (w : Wd) (who side : Int) : Good PG nG G0 f_story_Of [wV w, .int .i64 who, .int .i64 side] [] (.tup [.bool (ofR w who side).1, .int .i64 (ofR w who side).2]) [] := by
  suffices main : ∀ R : AV → List (Option Blk) → Prop, R (.tup [.bool (ofR w who side).1, .int .i64 (ofR w who side).2]) [] → Hold (runF PG ty nG G0 an_story_Of f_story_Of [wV w, .int .i64 who, .int .i64 side] [] R) from
    good_of_run prOk (by kernel_rfl) (main _ ⟨rfl, rfl⟩)
  intro R hR
  unfold ofR at hR
  refine story_Of_run _ _ _ _ _ _ who side G0 R ⟨_, good_worldCheck w, ifK_ne0 (fun h => by rw [if_pos h] at hR; exact hR) fun hck => ?_⟩
  rw [if_neg (by simpa using hck)] at hR
  have hl : (w.c.map CX).length = w.c.length := List.length_map ..
  rw [hl]
  refine ifK_dec (fun h => by rw [if_pos (by omega)] at hR; exact hR) fun h1 => ifK_dec (fun h => by rw [if_pos (by omega)] at hR; exact hR) fun h2 => ifK_dec (fun h => by rw [if_pos (by omega)] at hR; exact hR) fun h3 => ifK_dec (fun h => by rw [if_pos (by omega)] at hR; exact hR) fun h4 => ?_
  rw [if_neg (by omega)] at hR
  have hin : who.toNat < w.c.length := by omega
  have hgc : (w.c.map CX)[who.toNat]? = some (CX (w.cl who)) := by rw [getX hin, cl_get hin]
  have hk := checkH_ok (checkW_cl hck who)
  have e10 : ((1 : Int) == 0) = false := rfl
  refine ⟨by omega, _, _, _, _, hgc, ?_⟩
  rw [show eqAll [.int .i64 (w.cl who).1.n, .str (w.cl who).1.log, .str (w.cl who).1.mp] [.int .i64 0, .str [], .str []] = decide ((w.cl who).1 = hd0) from eqAll_hd (w.cl who).1 hd0]
  refine ifK_dec (fun h => by rw [if_pos h] at hR; exact hR) fun h5 => ?_
  rw [if_neg h5] at hR
  have hbk := checkW_bk hck side
  have ghd := good_Head (G0 := G0) hG ((w.bk side).take (w.cl who).1.n.toNat) (w.nb side)
  rw [show (headOf ((w.bk side).take (w.cl who).1.n.toNat)).2 = 0 by rw [headOf_code]; exact checkB_take hbk _] at ghd
  have hss : side = 0 ∨ side = 1 := by omega
  have eb : w.bk 0 = w.b0 ∧ w.bk 1 = w.b1 := ⟨rfl, rfl⟩
  rcases hss with rfl | rfl
  all_goals
    simp only [eb.1, eb.2] at hR ghd
    simp only [beq_self_eq_true, e10, ifT, ifF]
    rw [take_E2, List.length_map]
    refine ⟨by decide, by decide, ifK_dec (fun h => by rw [if_pos h] at hR; exact hR) fun h6 => ?_⟩
    rw [if_neg h6] at hR
    refine ⟨by decide, by decide, by decide, hk.1, by omega, _, _, _, _, ghd, ?_⟩
    simp only [beq_self_eq_true, ifT]
    rw [eqAll_hd]
    exact hR

theorem good_storySplit (w : Wd) : Good PG nG G0 f_story_Split [wV w] [] (.tup [.int .i64 (splitW w).1, .int .i64 (splitW w).2]) [] := by
  suffices main : ∀ R : AV → List (Option Blk) → Prop, R (.tup [.int .i64 (splitW w).1, .int .i64 (splitW w).2]) [] → Hold (runF PG ty nG G0 an_story_Split f_story_Split [wV w] [] R) from
    good_of_run prOk (by kernel_rfl) (main _ ⟨rfl, rfl⟩)
  intro R hR
  unfold splitW at hR
  refine story_Split_run _ _ _ _ _ _ G0 R ⟨_, good_worldCheck w, ifK_ne0 (fun h => by rw [if_pos h] at hR; exact hR) fun hck => ?_⟩
  rw [if_neg (by simpa using hck)] at hR
  have hW := checkW_iff.1 hck
  have l0 := (checkB_ok hW.1).1
  have l1 := (checkB_ok hW.2.1).1
  have key : ∀ (m i : Nat), w.b0.length - i ≤ m → i + lcpN (w.b0.drop i) (w.b1.drop i) = lcpN w.b0 w.b1 → i ≤ w.b0.length → Does PG nG G0 (fnOf PG f_story_Split) 0 (lp PG f_story_Split 0) (mkT 47 [(1, .ref 0 0), (5, .int .i64 (i : Int))])
      [some (.var [.sl 2 w.n0 none (w.b0.map E2), .sl 2 w.n1 none (w.b1.map E2), .sl 4 w.n2 none (w.c.map CX)])] R := by
    intro m
    induction m with
    | zero =>
      intro i h1 h2 h3
      refine does_of_run prOk (story_Split_l0_run G0 _ _ _ _ _ _ _ R ⟨by decide, by decide, ?_⟩)
      rw [List.length_map]
      refine ifK_dec (fun h => by omega) fun h => ?_
      have : w.b0.drop i = [] := List.drop_of_length_le (by omega)
      rw [this] at h2
      have h2 : i = lcpN w.b0 w.b1 := by simpa [lcpN] using h2
      rw [h2]; exact hR
    | succ m ih =>
      intro i h1 h2 h3
      refine does_of_run prOk (story_Split_l0_run G0 _ _ _ _ _ _ _ R ⟨by decide, by decide, ?_⟩)
      rw [List.length_map, List.length_map]
      refine ifK_dec (fun h => ⟨by decide, by decide, ifK_dec (fun h' => ?_) fun h' => ?_⟩) fun h => ?_
      · have hi0 : i < w.b0.length := by omega
        have hi1 : i < w.b1.length := by omega
        rw [Int.toNat_natCast]
        refine ⟨by decide, by decide, by omega, _, _, getX hi0, by decide, by decide, by omega, _, _, getX hi1, ?_⟩
        rw [eqAll_E2]
        rw [List.drop_eq_getElem_cons hi0, List.drop_eq_getElem_cons hi1] at h2
        refine ifK_dec (fun he => ?_) fun he => ?_
        · rw [lcpN, if_pos he] at h2
          have := ih (i + 1) (by omega) (by omega) (by omega)
          rw [wrapI (by omega) (by omega)]
          exact this
        · rw [lcpN, if_neg he] at h2
          have h2 : i = lcpN w.b0 w.b1 := by simpa using h2
          rw [h2]; exact hR
      · have : w.b1.drop i = [] := List.drop_of_length_le (by omega)
        rw [this, lcpN_comm] at h2
        have h2 : i = lcpN w.b0 w.b1 := by simpa [lcpN] using h2
        rw [h2]; exact hR
      · have : w.b0.drop i = [] := List.drop_of_length_le (by omega)
        rw [this] at h2
        have h2 : i = lcpN w.b0 w.b1 := by simpa [lcpN] using h2
        rw [h2]; exact hR
  exact key w.b0.length 0 (by omega) (by simp) (Nat.zero_le _)

def tellL : List Hap := [(1, 0, 0, 0, 5, [120]), (2, 0, 0, 0, 0, []), (1, 1, 0, 0, 6, []), (1, 0, 0, 0, 5, [120]), (3, 1, 0, 0, 0, [])]
def tellW : Wd := (runR newW tellL).1.1

theorem tell_runs : (runR newW tellL).2 = 0 ∧ ofR tellW 0 1 = (true, 0) ∧ ofR tellW 0 0 = (false, 0) ∧ splitW tellW = (1, 0) ∧ (ofR tellW 3 0).2 = 5 := by decide +kernel

theorem good_telling (hG : GlobOk G0) : Good PG nG G0 f_greatseallaw_telling [] [] (.bool true) [] := by
  obtain ⟨h1, h2, h3, h4, h5⟩ := tell_runs
  have g1 := good_worldRun (G0 := G0) hG (w := newW) (fun _ => WOk.new) tellL false
  have o1 := good_storyOf (G0 := G0) hG tellW 0 1
  have o2 := good_storyOf (G0 := G0) hG tellW 0 0
  have o3 := good_storySplit (G0 := G0) tellW
  have o4 := good_storyOf (G0 := G0) hG tellW 3 0
  rw [h1] at g1
  rw [h2] at o1
  rw [h3] at o2
  rw [h4] at o3
  rw [h5] at o4
  exact good_of_run prOk (by kernel_rfl) (greatseallaw_telling_run G0 _ ⟨_, _, _, _, _, _, good_worldNew, _, _, _, _, _, _, _, _, _, g1, _, _, o1, _, _, o2, _, _, o3, _, _, o4, rfl, rfl⟩)
end Go.Ab

namespace Go.Ab
open Go.Proofs
set_option maxRecDepth 100000

def an_greatseallaw_WorldRuns : FAnn := ⟨[], [(0, [2, 5, 6, 7, 9, 52, 53, 54], [9])], none, []⟩
def an_greatseallaw_WorldKeeps : FAnn := ⟨[], [(0, [3, 5, 65, 66, 67], [])], none, []⟩
def an_greatseallaw_WorldDoes : FAnn := ⟨[], [], none, []⟩

theorem greatseallaw_WorldRuns_run (nlw0_0 : Bool) (w0_0 : List (List AV)) (nlw0_1 : Bool) (w0_1 : List (List AV)) (nlw0_2 : Bool) (w0_2 : List (List AV)) (nll1 : Bool) (l1 : List (List AV)) (G0 : Nat → Option Go.Obj) (R : AV → List (Option Blk) → Prop) (h :
  ∃ b0 xs1 b2 xs3 b4 xs5 b6 xs7 n8,
  Good PG nG G0 f_world_Run [AV.agg [AV.sl (2 : Nat) nlw0_0 none w0_0, AV.sl (2 : Nat) nlw0_1 none w0_1, AV.sl (4 : Nat) nlw0_2 none w0_2], AV.sl (6 : Nat) nll1 none l1] []
      (AV.tup [AV.agg [AV.sl (2 : Nat) b0 none xs1, AV.sl (2 : Nat) b2 none xs3, AV.sl (4 : Nat) b4 none xs5], AV.sl (1 : Nat) b6 none xs7, AV.int Go.IntKind.i64 n8]) [] ∧
    ∃ n9,
      Good PG nG G0 f_greatsealref_CheckWorld [AV.agg [AV.sl (2 : Nat) nlw0_0 none w0_0, AV.sl (2 : Nat) nlw0_1 none w0_1, AV.sl (4 : Nat) nlw0_2 none w0_2]] [] (AV.int Go.IntKind.i64 n9) [] ∧
        ifK (n9 == (0 : Int))
          (ifK (decide ((↑(List.length l1) : Int) > (80 : Int)))
            (∃ b10,
              Good PG nG G0 f_greatseallaw_lied [] [] (AV.bool b10) [] ∧
                ifK (!b10)
                  (∃ b11,
                    Good PG nG G0 f_greatseallaw_lied [] [] (AV.bool b11) [] ∧
                      ifK b11
                        (ifK (n8 == (2 : Int))
                          (ifK ((↑(List.length xs7) : Int) == (0 : Int))
                            (∃ b12,
                              Good PG nG G0 f_greatsealref_SameWorld
                                  [AV.agg [AV.sl (2 : Nat) b0 none xs1, AV.sl (2 : Nat) b2 none xs3, AV.sl (4 : Nat) b4 none xs5], AV.agg [AV.sl (2 : Nat) true none [], AV.sl (2 : Nat) true none [], AV.sl (4 : Nat) true none []]] []
                                  (AV.bool b12) [] ∧
                                R (AV.bool b12) [])
                            (R (AV.bool false) []))
                          (R (AV.bool false) []))
                        (R (AV.bool false) []))
                  (∃ b13,
                    Good PG nG G0 f_greatseallaw_lied [] [] (AV.bool b13) [] ∧
                      ifK b13
                        (ifK (n8 == (2 : Int))
                          (ifK ((↑(List.length xs7) : Int) == (0 : Int))
                            (∃ b14,
                              Good PG nG G0 f_greatsealref_SameWorld
                                  [AV.agg [AV.sl (2 : Nat) b0 none xs1, AV.sl (2 : Nat) b2 none xs3, AV.sl (4 : Nat) b4 none xs5], AV.agg [AV.sl (2 : Nat) true none [], AV.sl (2 : Nat) true none [], AV.sl (4 : Nat) true none []]] []
                                  (AV.bool b14) [] ∧
                                R (AV.bool b14) [])
                            (R (AV.bool false) []))
                          (R (AV.bool false) []))
                        (R (AV.bool false) [])))
            (∃ b15,
              Good PG nG G0 f_greatseallaw_lied [] [] (AV.bool b15) [] ∧
                ifK (!b15)
                  (∃ b16,
                    Good PG nG G0 f_greatseallaw_lied [] [] (AV.bool b16) [] ∧
                      ifK b16
                        (ifK (n8 == n9)
                          (ifK ((↑(List.length xs7) : Int) == (0 : Int))
                            (∃ b17,
                              Good PG nG G0 f_greatsealref_SameWorld
                                  [AV.agg [AV.sl (2 : Nat) b0 none xs1, AV.sl (2 : Nat) b2 none xs3, AV.sl (4 : Nat) b4 none xs5], AV.agg [AV.sl (2 : Nat) true none [], AV.sl (2 : Nat) true none [], AV.sl (4 : Nat) true none []]] []
                                  (AV.bool b17) [] ∧
                                R (AV.bool b17) [])
                            (R (AV.bool false) []))
                          (R (AV.bool false) []))
                        (R (AV.bool false) []))
                  (ifK (n9 != (0 : Int))
                    (∃ b18,
                      Good PG nG G0 f_greatseallaw_lied [] [] (AV.bool b18) [] ∧
                        ifK b18
                          (ifK (n8 == n9)
                            (ifK ((↑(List.length xs7) : Int) == (0 : Int))
                              (∃ b19,
                                Good PG nG G0 f_greatsealref_SameWorld
                                    [AV.agg [AV.sl (2 : Nat) b0 none xs1, AV.sl (2 : Nat) b2 none xs3, AV.sl (4 : Nat) b4 none xs5], AV.agg [AV.sl (2 : Nat) true none [], AV.sl (2 : Nat) true none [], AV.sl (4 : Nat) true none []]] []
                                    (AV.bool b19) [] ∧
                                  R (AV.bool b19) [])
                              (R (AV.bool false) []))
                            (R (AV.bool false) []))
                          (R (AV.bool false) []))
                    (Does PG nG G0 (fnOf PG f_greatseallaw_WorldRuns) (0 : Nat) (lp PG f_greatseallaw_WorldRuns (0 : Nat))
                      (mkT (84 : Nat)
                        [((2 : Nat), AV.ref (0 : Nat) (0 : Nat)), ((5 : Nat), AV.ref (1 : Nat) (0 : Nat)), ((6 : Nat), AV.sl (1 : Nat) b6 none xs7), ((7 : Nat), AV.int Go.IntKind.i64 n8),
                          ((9 : Nat), AV.sl (1 : Nat) true (some (2 : Nat)) []), ((52 : Nat), AV.sl (6 : Nat) nll1 none l1), ((53 : Nat), AV.int Go.IntKind.i64 (↑(List.length l1) : Int)), ((54 : Nat), AV.int Go.IntKind.i64 (0 : Int))])
                      [some (Blk.var [AV.sl (2 : Nat) nlw0_0 none w0_0, AV.sl (2 : Nat) nlw0_1 none w0_1, AV.sl (4 : Nat) nlw0_2 none w0_2]),
                        some (Blk.var [AV.sl (2 : Nat) b0 none xs1, AV.sl (2 : Nat) b2 none xs3, AV.sl (4 : Nat) b4 none xs5]), some (Blk.grow (1 : Nat) (0 : Nat))]
                      R))))
          (∃ b20,
            Good PG nG G0 f_greatseallaw_lied [] [] (AV.bool b20) [] ∧
              ifK (!b20)
                (∃ b21,
                  Good PG nG G0 f_greatseallaw_lied [] [] (AV.bool b21) [] ∧
                    ifK b21
                      (ifK (n8 == n9)
                        (ifK ((↑(List.length xs7) : Int) == (0 : Int))
                          (∃ b22,
                            Good PG nG G0 f_greatsealref_SameWorld
                                [AV.agg [AV.sl (2 : Nat) b0 none xs1, AV.sl (2 : Nat) b2 none xs3, AV.sl (4 : Nat) b4 none xs5], AV.agg [AV.sl (2 : Nat) true none [], AV.sl (2 : Nat) true none [], AV.sl (4 : Nat) true none []]] []
                                (AV.bool b22) [] ∧
                              R (AV.bool b22) [])
                          (R (AV.bool false) []))
                        (R (AV.bool false) []))
                      (R (AV.bool false) []))
                (ifK (n9 != (0 : Int))
                  (∃ b23,
                    Good PG nG G0 f_greatseallaw_lied [] [] (AV.bool b23) [] ∧
                      ifK b23
                        (ifK (n8 == n9)
                          (ifK ((↑(List.length xs7) : Int) == (0 : Int))
                            (∃ b24,
                              Good PG nG G0 f_greatsealref_SameWorld
                                  [AV.agg [AV.sl (2 : Nat) b0 none xs1, AV.sl (2 : Nat) b2 none xs3, AV.sl (4 : Nat) b4 none xs5], AV.agg [AV.sl (2 : Nat) true none [], AV.sl (2 : Nat) true none [], AV.sl (4 : Nat) true none []]] []
                                  (AV.bool b24) [] ∧
                                R (AV.bool b24) [])
                            (R (AV.bool false) []))
                          (R (AV.bool false) []))
                        (R (AV.bool false) []))
                  (Does PG nG G0 (fnOf PG f_greatseallaw_WorldRuns) (0 : Nat) (lp PG f_greatseallaw_WorldRuns (0 : Nat))
                    (mkT (84 : Nat)
                      [((2 : Nat), AV.ref (0 : Nat) (0 : Nat)), ((5 : Nat), AV.ref (1 : Nat) (0 : Nat)), ((6 : Nat), AV.sl (1 : Nat) b6 none xs7), ((7 : Nat), AV.int Go.IntKind.i64 n8), ((9 : Nat), AV.sl (1 : Nat) true (some (2 : Nat)) []),
                        ((52 : Nat), AV.sl (6 : Nat) nll1 none l1), ((53 : Nat), AV.int Go.IntKind.i64 (↑(List.length l1) : Int)), ((54 : Nat), AV.int Go.IntKind.i64 (0 : Int))])
                    [some (Blk.var [AV.sl (2 : Nat) nlw0_0 none w0_0, AV.sl (2 : Nat) nlw0_1 none w0_1, AV.sl (4 : Nat) nlw0_2 none w0_2]),
                      some (Blk.var [AV.sl (2 : Nat) b0 none xs1, AV.sl (2 : Nat) b2 none xs3, AV.sl (4 : Nat) b4 none xs5]), some (Blk.grow (1 : Nat) (0 : Nat))]
                    R)))) :
  Hold (runF PG ty nG G0 an_greatseallaw_WorldRuns f_greatseallaw_WorldRuns [AV.agg [AV.sl (2 : Nat) nlw0_0 none w0_0, AV.sl (2 : Nat) nlw0_1 none w0_1, AV.sl (4 : Nat) nlw0_2 none w0_2], AV.sl (6 : Nat) nll1 none l1] [] R) := kshow h (by kernel_rfl)

theorem greatseallaw_WorldRuns_l0_run (G0 : Nat → Option Obj) (b25 : Bool) (xs26 : List (List AV)) (n27 : Int) (b28 : Bool) (xs29 : List (List AV)) (b30 : Bool) (xs31 : List (List AV)) (n32 : Int) (n33 : Int) (b34 : Bool) (xs35 : List (List AV)) (b36 : Bool) (xs37 : List (List AV)) (b38 : Bool) (xs39 : List (List AV)) (b40 : Bool) (xs41 : List (List AV)) (b42 : Bool) (xs43 : List (List AV)) (b44 : Bool) (xs45 : List (List AV)) (m46 : Nat) (R : AV → List (Option Blk) → Prop) (h :
  ifK (decide (n33 < n32))
  ((0 : Int) ≤ n33 ∧
    ∃ n47 n48 n49 n50 n51 s52,
      xs31[Int.toNat n33]? = some [AV.int Go.IntKind.i64 n47, AV.int Go.IntKind.i64 n48, AV.int Go.IntKind.i64 n49, AV.int Go.IntKind.i64 n50, AV.int Go.IntKind.i64 n51, AV.str s52] ∧
        ∃ b53 xs54 b55 xs56 b57 xs58 n59,
          Good PG nG G0 f_greatsealref_Happened
              [AV.agg [AV.sl (2 : Nat) b34 none xs35, AV.sl (2 : Nat) b36 none xs37, AV.sl (4 : Nat) b38 none xs39],
                AV.agg [AV.int Go.IntKind.i64 n47, AV.int Go.IntKind.i64 n48, AV.int Go.IntKind.i64 n49, AV.int Go.IntKind.i64 n50, AV.int Go.IntKind.i64 n51, AV.str s52]]
              [] (AV.tup [AV.agg [AV.sl (2 : Nat) b53 none xs54, AV.sl (2 : Nat) b55 none xs56, AV.sl (4 : Nat) b57 none xs58], AV.int Go.IntKind.i64 n59]) [] ∧
            ifK (n59 == (0 : Int))
              ((List.length xs29 + List.length [[AV.int Go.IntKind.i64 n59]]) * (8 : Nat) ≤ (140737488355328 : Nat) ∧
                List.length xs29 = m46 ∧
                  Does PG nG G0 (fnOf PG f_greatseallaw_WorldRuns) (0 : Nat) (lp PG f_greatseallaw_WorldRuns (0 : Nat))
                    (mkT (84 : Nat)
                      [((2 : Nat), AV.ref (0 : Nat) (0 : Nat)), ((5 : Nat), AV.ref (1 : Nat) (0 : Nat)), ((6 : Nat), AV.sl (1 : Nat) b25 none xs26), ((7 : Nat), AV.int Go.IntKind.i64 n27),
                        ((9 : Nat), AV.sl (1 : Nat) (b28 && List.isEmpty [[AV.int Go.IntKind.i64 n59]]) (some (2 : Nat)) (xs29 ++ [[AV.int Go.IntKind.i64 n59]])), ((52 : Nat), AV.sl (6 : Nat) b30 none xs31),
                        ((53 : Nat), AV.int Go.IntKind.i64 n32), ((54 : Nat), AV.int Go.IntKind.i64 (Go.IntKind.wrap Go.IntKind.i64 (n33 + (1 : Int))))])
                    [some (Blk.var [AV.sl (2 : Nat) b53 none xs54, AV.sl (2 : Nat) b55 none xs56, AV.sl (4 : Nat) b57 none xs58]), some (Blk.var [AV.sl (2 : Nat) b40 none xs41, AV.sl (2 : Nat) b42 none xs43, AV.sl (4 : Nat) b44 none xs45]),
                      some (Blk.grow (1 : Nat) (m46 + List.length [[AV.int Go.IntKind.i64 n59]]))]
                    R)
              ((List.length xs29 + List.length [[AV.int Go.IntKind.i64 n59]]) * (8 : Nat) ≤ (140737488355328 : Nat) ∧
                List.length xs29 = m46 ∧
                  Does PG nG G0 (fnOf PG f_greatseallaw_WorldRuns) (0 : Nat) (lp PG f_greatseallaw_WorldRuns (0 : Nat))
                    (mkT (84 : Nat)
                      [((2 : Nat), AV.ref (0 : Nat) (0 : Nat)), ((5 : Nat), AV.ref (1 : Nat) (0 : Nat)), ((6 : Nat), AV.sl (1 : Nat) b25 none xs26), ((7 : Nat), AV.int Go.IntKind.i64 n27),
                        ((9 : Nat), AV.sl (1 : Nat) (b28 && List.isEmpty [[AV.int Go.IntKind.i64 n59]]) (some (2 : Nat)) (xs29 ++ [[AV.int Go.IntKind.i64 n59]])), ((52 : Nat), AV.sl (6 : Nat) b30 none xs31),
                        ((53 : Nat), AV.int Go.IntKind.i64 n32), ((54 : Nat), AV.int Go.IntKind.i64 (Go.IntKind.wrap Go.IntKind.i64 (n33 + (1 : Int))))])
                    [some (Blk.var [AV.sl (2 : Nat) b34 none xs35, AV.sl (2 : Nat) b36 none xs37, AV.sl (4 : Nat) b38 none xs39]), some (Blk.var [AV.sl (2 : Nat) b40 none xs41, AV.sl (2 : Nat) b42 none xs43, AV.sl (4 : Nat) b44 none xs45]),
                      some (Blk.grow (1 : Nat) (m46 + List.length [[AV.int Go.IntKind.i64 n59]]))]
                    R))
  (ifK (n27 == (0 : Int))
    (∃ b60,
      Good PG nG G0 f_slices_Equal_Errno [AV.sl (1 : Nat) b25 none xs26, AV.sl (1 : Nat) b28 none xs29] [] (AV.bool b60) [] ∧
        ifK b60
          (∃ b61,
            Good PG nG G0 f_greatsealref_SameWorld
                [AV.agg [AV.sl (2 : Nat) b40 none xs41, AV.sl (2 : Nat) b42 none xs43, AV.sl (4 : Nat) b44 none xs45], AV.agg [AV.sl (2 : Nat) b34 none xs35, AV.sl (2 : Nat) b36 none xs37, AV.sl (4 : Nat) b38 none xs39]] [] (AV.bool b61)
                [] ∧
              R (AV.bool b61) [])
          (R (AV.bool false) []))
    (R (AV.bool false) []))) :
  Hold (runL PG ty nG G0 an_greatseallaw_WorldRuns f_greatseallaw_WorldRuns (0 : Nat) (0 : Nat)
  (mkT (84 : Nat)
    [((2 : Nat), AV.ref (0 : Nat) (0 : Nat)), ((5 : Nat), AV.ref (1 : Nat) (0 : Nat)), ((6 : Nat), AV.sl (1 : Nat) b25 none xs26), ((7 : Nat), AV.int Go.IntKind.i64 n27), ((9 : Nat), AV.sl (1 : Nat) b28 (some (2 : Nat)) xs29),
      ((52 : Nat), AV.sl (6 : Nat) b30 none xs31), ((53 : Nat), AV.int Go.IntKind.i64 n32), ((54 : Nat), AV.int Go.IntKind.i64 n33)])
  [some (Blk.var [AV.sl (2 : Nat) b34 none xs35, AV.sl (2 : Nat) b36 none xs37, AV.sl (4 : Nat) b38 none xs39]), some (Blk.var [AV.sl (2 : Nat) b40 none xs41, AV.sl (2 : Nat) b42 none xs43, AV.sl (4 : Nat) b44 none xs45]),
    some (Blk.grow (1 : Nat) m46)]
  R) := kshow h (by kernel_rfl)

theorem greatseallaw_WorldKeeps_run (nlw0_0 : Bool) (w0_0 : List (List AV)) (nlw0_1 : Bool) (w0_1 : List (List AV)) (nlw0_2 : Bool) (w0_2 : List (List AV)) (x1_0 : Int) (x1_1 : Int) (x1_2 : Int) (x1_3 : Int) (x1_4 : Int) (x1_5 : List UInt8) (G0 : Nat → Option Go.Obj) (R : AV → List (Option Blk) → Prop) (h :
  ∃ b0 xs1 b2 xs3 b4 xs5 n6,
  Good PG nG G0 f_world_Do
      [AV.agg [AV.sl (2 : Nat) nlw0_0 none w0_0, AV.sl (2 : Nat) nlw0_1 none w0_1, AV.sl (4 : Nat) nlw0_2 none w0_2],
        AV.agg [AV.int Go.IntKind.i64 x1_0, AV.int Go.IntKind.i64 x1_1, AV.int Go.IntKind.i64 x1_2, AV.int Go.IntKind.i64 x1_3, AV.int Go.IntKind.i64 x1_4, AV.str x1_5]]
      [] (AV.tup [AV.agg [AV.sl (2 : Nat) b0 none xs1, AV.sl (2 : Nat) b2 none xs3, AV.sl (4 : Nat) b4 none xs5], AV.int Go.IntKind.i64 n6]) [] ∧
    ∃ b7,
      Good PG nG G0 f_greatseallaw_lied [] [] (AV.bool b7) [] ∧
        ifK (!b7) (∃ b8, Good PG nG G0 f_greatseallaw_lied [] [] (AV.bool b8) [] ∧ R (AV.bool b8) [])
          (ifK (n6 != (0 : Int)) (∃ b9, Good PG nG G0 f_greatseallaw_lied [] [] (AV.bool b9) [] ∧ R (AV.bool b9) [])
            ((0 : Int) ≤ (0 : Int) ∧
              (0 : Int) < (2 : Int) ∧
                ∃ n10,
                  Good PG nG G0 f_world_Check [AV.agg [AV.sl (2 : Nat) b0 none xs1, AV.sl (2 : Nat) b2 none xs3, AV.sl (4 : Nat) b4 none xs5]] [] (AV.int Go.IntKind.i64 n10) [] ∧
                    ifK (n10 != (0 : Int)) (R (AV.bool false) [])
                      ((0 : Int) ≤ (0 : Int) ∧
                        (0 : Int) < (2 : Int) ∧
                          ifK (decide ((↑(List.length xs1) : Int) < (↑(List.length w0_0) : Int))) (R (AV.bool false) [])
                            ((0 : Int) ≤ (0 : Int) ∧
                              (0 : Int) < (2 : Int) ∧
                                (0 : Int) ≤ (0 : Int) ∧
                                  (0 : Int) ≤ (↑(List.length w0_0) : Int) ∧
                                    (↑(List.length w0_0) : Int) ≤ (↑(List.length xs1) : Int) ∧
                                      (0 : Int) ≤ (0 : Int) ∧
                                        (0 : Int) < (2 : Int) ∧
                                          ∃ b11,
                                            Good PG nG G0 f_slices_Equal_Entry [AV.sl (2 : Nat) b0 none (List.drop (0 : Nat) (List.take (Int.toNat (↑(List.length w0_0) : Int)) xs1)), AV.sl (2 : Nat) nlw0_0 none w0_0] [] (AV.bool b11) [] ∧
                                              ifK (!b11) (R (AV.bool false) [])
                                                (ifK ((↑(List.length xs5) : Int) != (↑(List.length w0_2) : Int)) (R (AV.bool false) [])
                                                  (Does PG nG G0 (fnOf PG f_greatseallaw_WorldKeeps) (0 : Nat) (lp PG f_greatseallaw_WorldKeeps (0 : Nat))
                                                    (mkT (118 : Nat)
                                                      [((3 : Nat), AV.ref (0 : Nat) (0 : Nat)), ((5 : Nat), AV.ref (1 : Nat) (0 : Nat)), ((65 : Nat), AV.sl (4 : Nat) nlw0_2 none w0_2),
                                                        ((66 : Nat), AV.int Go.IntKind.i64 (↑(List.length w0_2) : Int)), ((67 : Nat), AV.int Go.IntKind.i64 (0 : Int))])
                                                    [some (Blk.var [AV.int Go.IntKind.i64 x1_0, AV.int Go.IntKind.i64 x1_1, AV.int Go.IntKind.i64 x1_2, AV.int Go.IntKind.i64 x1_3, AV.int Go.IntKind.i64 x1_4, AV.str x1_5]),
                                                      some (Blk.var [AV.sl (2 : Nat) b0 none xs1, AV.sl (2 : Nat) b2 none xs3, AV.sl (4 : Nat) b4 none xs5])]
                                                    R))))))) :
  Hold (runF PG ty nG G0 an_greatseallaw_WorldKeeps f_greatseallaw_WorldKeeps
  [AV.agg [AV.sl (2 : Nat) nlw0_0 none w0_0, AV.sl (2 : Nat) nlw0_1 none w0_1, AV.sl (4 : Nat) nlw0_2 none w0_2],
    AV.agg [AV.int Go.IntKind.i64 x1_0, AV.int Go.IntKind.i64 x1_1, AV.int Go.IntKind.i64 x1_2, AV.int Go.IntKind.i64 x1_3, AV.int Go.IntKind.i64 x1_4, AV.str x1_5]]
  [] R) := kshow h (by kernel_rfl)

theorem greatseallaw_WorldKeeps_l0_run (G0 : Nat → Option Obj) (b12 : Bool) (xs13 : List (List AV)) (n14 : Int) (n15 : Int) (n16 : Int) (n17 : Int) (n18 : Int) (n19 : Int) (n20 : Int) (s21 : List UInt8) (b22 : Bool) (xs23 : List (List AV)) (b24 : Bool) (xs25 : List (List AV)) (b26 : Bool) (xs27 : List (List AV)) (R : AV → List (Option Blk) → Prop) (h :
  ifK (decide (n15 < n14))
  ((0 : Int) ≤ n15 ∧
    ∃ n28 s29 s30 b31,
      xs13[Int.toNat n15]? = some [AV.int Go.IntKind.i64 n28, AV.str s29, AV.str s30, AV.bool b31] ∧
        (0 : Int) ≤ n15 ∧
          ∃ n32 s33 s34 b35,
            xs27[Int.toNat n15]? = some [AV.int Go.IntKind.i64 n32, AV.str s33, AV.str s34, AV.bool b35] ∧
              ifK b31
                (ifK (!b35) (R (AV.bool false) [])
                  (ifK (decide (n32 < n28)) (R (AV.bool false) [])
                    (ifK (!eqAll [AV.int Go.IntKind.i64 n32, AV.str s33, AV.str s34] [AV.int Go.IntKind.i64 n28, AV.str s29, AV.str s30])
                      (ifK (n16 != (3 : Int)) (R (AV.bool false) [])
                        (ifK (n18 != n15) (R (AV.bool false) [])
                          (∃ n36,
                            Good PG nG G0 f_note_Check [AV.agg [AV.int Go.IntKind.i64 n32, AV.str s33, AV.str s34]] [] (AV.int Go.IntKind.i64 n36) [] ∧
                              ifK (n36 != (0 : Int)) (R (AV.bool false) [])
                                (Does PG nG G0 (fnOf PG f_greatseallaw_WorldKeeps) (0 : Nat) (lp PG f_greatseallaw_WorldKeeps (0 : Nat))
                                  (mkT (118 : Nat)
                                    [((3 : Nat), AV.ref (0 : Nat) (0 : Nat)), ((5 : Nat), AV.ref (1 : Nat) (0 : Nat)), ((65 : Nat), AV.sl (4 : Nat) b12 none xs13), ((66 : Nat), AV.int Go.IntKind.i64 n14),
                                      ((67 : Nat), AV.int Go.IntKind.i64 (Go.IntKind.wrap Go.IntKind.i64 (n15 + (1 : Int))))])
                                  [some (Blk.var [AV.int Go.IntKind.i64 n16, AV.int Go.IntKind.i64 n17, AV.int Go.IntKind.i64 n18, AV.int Go.IntKind.i64 n19, AV.int Go.IntKind.i64 n20, AV.str s21]),
                                    some (Blk.var [AV.sl (2 : Nat) b22 none xs23, AV.sl (2 : Nat) b24 none xs25, AV.sl (4 : Nat) b26 none xs27])]
                                  R))))
                      (∃ n37,
                        Good PG nG G0 f_note_Check [AV.agg [AV.int Go.IntKind.i64 n32, AV.str s33, AV.str s34]] [] (AV.int Go.IntKind.i64 n37) [] ∧
                          ifK (n37 != (0 : Int)) (R (AV.bool false) [])
                            (Does PG nG G0 (fnOf PG f_greatseallaw_WorldKeeps) (0 : Nat) (lp PG f_greatseallaw_WorldKeeps (0 : Nat))
                              (mkT (118 : Nat)
                                [((3 : Nat), AV.ref (0 : Nat) (0 : Nat)), ((5 : Nat), AV.ref (1 : Nat) (0 : Nat)), ((65 : Nat), AV.sl (4 : Nat) b12 none xs13), ((66 : Nat), AV.int Go.IntKind.i64 n14),
                                  ((67 : Nat), AV.int Go.IntKind.i64 (Go.IntKind.wrap Go.IntKind.i64 (n15 + (1 : Int))))])
                              [some (Blk.var [AV.int Go.IntKind.i64 n16, AV.int Go.IntKind.i64 n17, AV.int Go.IntKind.i64 n18, AV.int Go.IntKind.i64 n19, AV.int Go.IntKind.i64 n20, AV.str s21]),
                                some (Blk.var [AV.sl (2 : Nat) b22 none xs23, AV.sl (2 : Nat) b24 none xs25, AV.sl (4 : Nat) b26 none xs27])]
                              R)))))
                (ifK (decide (n32 < n28)) (R (AV.bool false) [])
                  (ifK (!eqAll [AV.int Go.IntKind.i64 n32, AV.str s33, AV.str s34] [AV.int Go.IntKind.i64 n28, AV.str s29, AV.str s30])
                    (ifK (n16 != (3 : Int)) (R (AV.bool false) [])
                      (ifK (n18 != n15) (R (AV.bool false) [])
                        (∃ n38,
                          Good PG nG G0 f_note_Check [AV.agg [AV.int Go.IntKind.i64 n32, AV.str s33, AV.str s34]] [] (AV.int Go.IntKind.i64 n38) [] ∧
                            ifK (n38 != (0 : Int)) (R (AV.bool false) [])
                              (Does PG nG G0 (fnOf PG f_greatseallaw_WorldKeeps) (0 : Nat) (lp PG f_greatseallaw_WorldKeeps (0 : Nat))
                                (mkT (118 : Nat)
                                  [((3 : Nat), AV.ref (0 : Nat) (0 : Nat)), ((5 : Nat), AV.ref (1 : Nat) (0 : Nat)), ((65 : Nat), AV.sl (4 : Nat) b12 none xs13), ((66 : Nat), AV.int Go.IntKind.i64 n14),
                                    ((67 : Nat), AV.int Go.IntKind.i64 (Go.IntKind.wrap Go.IntKind.i64 (n15 + (1 : Int))))])
                                [some (Blk.var [AV.int Go.IntKind.i64 n16, AV.int Go.IntKind.i64 n17, AV.int Go.IntKind.i64 n18, AV.int Go.IntKind.i64 n19, AV.int Go.IntKind.i64 n20, AV.str s21]),
                                  some (Blk.var [AV.sl (2 : Nat) b22 none xs23, AV.sl (2 : Nat) b24 none xs25, AV.sl (4 : Nat) b26 none xs27])]
                                R))))
                    (∃ n39,
                      Good PG nG G0 f_note_Check [AV.agg [AV.int Go.IntKind.i64 n32, AV.str s33, AV.str s34]] [] (AV.int Go.IntKind.i64 n39) [] ∧
                        ifK (n39 != (0 : Int)) (R (AV.bool false) [])
                          (Does PG nG G0 (fnOf PG f_greatseallaw_WorldKeeps) (0 : Nat) (lp PG f_greatseallaw_WorldKeeps (0 : Nat))
                            (mkT (118 : Nat)
                              [((3 : Nat), AV.ref (0 : Nat) (0 : Nat)), ((5 : Nat), AV.ref (1 : Nat) (0 : Nat)), ((65 : Nat), AV.sl (4 : Nat) b12 none xs13), ((66 : Nat), AV.int Go.IntKind.i64 n14),
                                ((67 : Nat), AV.int Go.IntKind.i64 (Go.IntKind.wrap Go.IntKind.i64 (n15 + (1 : Int))))])
                            [some (Blk.var [AV.int Go.IntKind.i64 n16, AV.int Go.IntKind.i64 n17, AV.int Go.IntKind.i64 n18, AV.int Go.IntKind.i64 n19, AV.int Go.IntKind.i64 n20, AV.str s21]),
                              some (Blk.var [AV.sl (2 : Nat) b22 none xs23, AV.sl (2 : Nat) b24 none xs25, AV.sl (4 : Nat) b26 none xs27])]
                            R)))))
  (R (AV.bool true) [])) :
  Hold (runL PG ty nG G0 an_greatseallaw_WorldKeeps f_greatseallaw_WorldKeeps (0 : Nat) (0 : Nat)
  (mkT (118 : Nat) [((3 : Nat), AV.ref (0 : Nat) (0 : Nat)), ((5 : Nat), AV.ref (1 : Nat) (0 : Nat)), ((65 : Nat), AV.sl (4 : Nat) b12 none xs13), ((66 : Nat), AV.int Go.IntKind.i64 n14), ((67 : Nat), AV.int Go.IntKind.i64 n15)])
  [some (Blk.var [AV.int Go.IntKind.i64 n16, AV.int Go.IntKind.i64 n17, AV.int Go.IntKind.i64 n18, AV.int Go.IntKind.i64 n19, AV.int Go.IntKind.i64 n20, AV.str s21]),
    some (Blk.var [AV.sl (2 : Nat) b22 none xs23, AV.sl (2 : Nat) b24 none xs25, AV.sl (4 : Nat) b26 none xs27])]
  R) := kshow h (by kernel_rfl)

theorem greatseallaw_WorldDoes_run (nlw0_0 : Bool) (w0_0 : List (List AV)) (nlw0_1 : Bool) (w0_1 : List (List AV)) (nlw0_2 : Bool) (w0_2 : List (List AV)) (x1_0 : Int) (x1_1 : Int) (x1_2 : Int) (x1_3 : Int) (x1_4 : Int) (x1_5 : List UInt8) (nlv2_0 : Bool) (v2_0 : List (List AV)) (nlv2_1 : Bool) (v2_1 : List (List AV)) (nlv2_2 : Bool) (v2_2 : List (List AV)) (G0 : Nat → Option Go.Obj) (R : AV → List (Option Blk) → Prop) (h :
  ∃ b0 xs1 b2 xs3 b4 xs5 n6,
  Good PG nG G0 f_world_Do
      [AV.agg [AV.sl (2 : Nat) nlw0_0 none w0_0, AV.sl (2 : Nat) nlw0_1 none w0_1, AV.sl (4 : Nat) nlw0_2 none w0_2],
        AV.agg [AV.int Go.IntKind.i64 x1_0, AV.int Go.IntKind.i64 x1_1, AV.int Go.IntKind.i64 x1_2, AV.int Go.IntKind.i64 x1_3, AV.int Go.IntKind.i64 x1_4, AV.str x1_5]]
      [] (AV.tup [AV.agg [AV.sl (2 : Nat) b0 none xs1, AV.sl (2 : Nat) b2 none xs3, AV.sl (4 : Nat) b4 none xs5], AV.int Go.IntKind.i64 n6]) [] ∧
    ∃ n7,
      Good PG nG G0 f_greatsealref_CheckWorld [AV.agg [AV.sl (2 : Nat) nlw0_0 none w0_0, AV.sl (2 : Nat) nlw0_1 none w0_1, AV.sl (4 : Nat) nlw0_2 none w0_2]] [] (AV.int Go.IntKind.i64 n7) [] ∧
        ∃ b8,
          Good PG nG G0 f_greatseallaw_lied [] [] (AV.bool b8) [] ∧
            ifK (!b8) (R (AV.bool false) [])
              (∃ n9,
                Good PG nG G0 f_world_Check [AV.agg [AV.sl (2 : Nat) nlw0_0 none w0_0, AV.sl (2 : Nat) nlw0_1 none w0_1, AV.sl (4 : Nat) nlw0_2 none w0_2]] [] (AV.int Go.IntKind.i64 n9) [] ∧
                  ifK (n9 != n7) (R (AV.bool false) [])
                    (∃ b10,
                      Good PG nG G0 f_world_Same
                          [AV.agg [AV.sl (2 : Nat) nlw0_0 none w0_0, AV.sl (2 : Nat) nlw0_1 none w0_1, AV.sl (4 : Nat) nlw0_2 none w0_2],
                            AV.agg [AV.sl (2 : Nat) nlv2_0 none v2_0, AV.sl (2 : Nat) nlv2_1 none v2_1, AV.sl (4 : Nat) nlv2_2 none v2_2]]
                          [] (AV.bool b10) [] ∧
                        ∃ b11,
                          Good PG nG G0 f_greatsealref_SameWorld
                              [AV.agg [AV.sl (2 : Nat) nlw0_0 none w0_0, AV.sl (2 : Nat) nlw0_1 none w0_1, AV.sl (4 : Nat) nlw0_2 none w0_2],
                                AV.agg [AV.sl (2 : Nat) nlv2_0 none v2_0, AV.sl (2 : Nat) nlv2_1 none v2_1, AV.sl (4 : Nat) nlv2_2 none v2_2]]
                              [] (AV.bool b11) [] ∧
                            ifK (!b10 == b11) (R (AV.bool false) [])
                              (∃ b12 xs13 b14 xs15 b16 xs17,
                                Good PG nG G0 f_world_New [] [] (AV.agg [AV.sl (2 : Nat) b12 none xs13, AV.sl (2 : Nat) b14 none xs15, AV.sl (4 : Nat) b16 none xs17]) [] ∧
                                  ∃ b18 xs19 b20 xs21 b22 xs23,
                                    Good PG nG G0 f_greatsealref_Fresh [] [] (AV.agg [AV.sl (2 : Nat) b18 none xs19, AV.sl (2 : Nat) b20 none xs21, AV.sl (4 : Nat) b22 none xs23]) [] ∧
                                      ∃ b24,
                                        Good PG nG G0 f_greatsealref_SameWorld
                                            [AV.agg [AV.sl (2 : Nat) b12 none xs13, AV.sl (2 : Nat) b14 none xs15, AV.sl (4 : Nat) b16 none xs17],
                                              AV.agg [AV.sl (2 : Nat) b18 none xs19, AV.sl (2 : Nat) b20 none xs21, AV.sl (4 : Nat) b22 none xs23]]
                                            [] (AV.bool b24) [] ∧
                                          ifK (!b24) (R (AV.bool false) [])
                                            (ifK (n7 != (0 : Int))
                                              (ifK (n6 == n7)
                                                (∃ b25,
                                                  Good PG nG G0 f_greatsealref_SameWorld
                                                      [AV.agg [AV.sl (2 : Nat) b0 none xs1, AV.sl (2 : Nat) b2 none xs3, AV.sl (4 : Nat) b4 none xs5],
                                                        AV.agg [AV.sl (2 : Nat) true none [], AV.sl (2 : Nat) true none [], AV.sl (4 : Nat) true none []]]
                                                      [] (AV.bool b25) [] ∧
                                                    R (AV.bool b25) [])
                                                (R (AV.bool false) []))
                                              (∃ b26 xs27 b28 xs29 b30 xs31 n32,
                                                Good PG nG G0 f_greatsealref_Happened
                                                    [AV.agg [AV.sl (2 : Nat) nlw0_0 none w0_0, AV.sl (2 : Nat) nlw0_1 none w0_1, AV.sl (4 : Nat) nlw0_2 none w0_2],
                                                      AV.agg [AV.int Go.IntKind.i64 x1_0, AV.int Go.IntKind.i64 x1_1, AV.int Go.IntKind.i64 x1_2, AV.int Go.IntKind.i64 x1_3, AV.int Go.IntKind.i64 x1_4, AV.str x1_5]]
                                                    [] (AV.tup [AV.agg [AV.sl (2 : Nat) b26 none xs27, AV.sl (2 : Nat) b28 none xs29, AV.sl (4 : Nat) b30 none xs31], AV.int Go.IntKind.i64 n32]) [] ∧
                                                  ifK (n6 == n32)
                                                    (∃ b33,
                                                      Good PG nG G0 f_greatsealref_SameWorld
                                                          [AV.agg [AV.sl (2 : Nat) b0 none xs1, AV.sl (2 : Nat) b2 none xs3, AV.sl (4 : Nat) b4 none xs5],
                                                            AV.agg [AV.sl (2 : Nat) b26 none xs27, AV.sl (2 : Nat) b28 none xs29, AV.sl (4 : Nat) b30 none xs31]]
                                                          [] (AV.bool b33) [] ∧
                                                        R (AV.bool b33) [])
                                                    (R (AV.bool false) []))))))) :
  Hold (runF PG ty nG G0 an_greatseallaw_WorldDoes f_greatseallaw_WorldDoes
  [AV.agg [AV.sl (2 : Nat) nlw0_0 none w0_0, AV.sl (2 : Nat) nlw0_1 none w0_1, AV.sl (4 : Nat) nlw0_2 none w0_2],
    AV.agg [AV.int Go.IntKind.i64 x1_0, AV.int Go.IntKind.i64 x1_1, AV.int Go.IntKind.i64 x1_2, AV.int Go.IntKind.i64 x1_3, AV.int Go.IntKind.i64 x1_4, AV.str x1_5],
    AV.agg [AV.sl (2 : Nat) nlv2_0 none v2_0, AV.sl (2 : Nat) nlv2_1 none v2_1, AV.sl (4 : Nat) nlv2_2 none v2_2]]
  [] R) := kshow h (by kernel_rfl)

end Go.Ab

namespace Go.Ab
open Go.Proofs Go.Gs
variable {G0 : Nat → Option Obj}

abbrev Cl0 := (Int × By × By) × Bool
def toCl (p : Cl0) : Cl := (⟨p.1.1, p.1.2.1, p.1.2.2⟩, p.2)
/-- A world of what came in. -/
def mkW (n0 : Bool) (b0 : Bk) (n1 : Bool) (b1 : Bk) (n2 : Bool) (c : List Cl0) : Wd := ⟨n0, b0, n1, b1, n2, c.map toCl⟩

theorem map_toCl (c : List Cl0) : c.map C4 = (c.map toCl).map CX := by rw [List.map_map]; rfl

theorem mkW_ok {n0 n1 n2 : Bool} {b0 b1 : Bk} {c : List Cl0} (h0 : n0 = true → b0 = []) (h1 : n1 = true → b1 = []) (h2 : n2 = true → c = []) (h : checkW (mkW n0 b0 n1 b1 n2 c) = 0) : WOk (mkW n0 b0 n1 b1 n2 c) := by
  refine ⟨h, h0, h1, ?_⟩
  cases n2 with
  | false => rfl
  | true =>
    have := (checkW_iff.1 h).2.2.1
    rw [h2 rfl] at this
    cases this

theorem sameW_self (w : Wd) : sameW w w = true := by simp [sameW]

theorem doR_bad {w : Wd} {x : Hap} (h : checkW w ≠ 0) : doR w x = (W0, checkW w) := by unfold doR; rw [if_pos h]

theorem good_WorldDoes (hG : GlobOk G0) (n0 n1 n2 : Bool) (b0 b1 : Bk) (c : List Cl0) (h0 : n0 = true → b0 = []) (h1 : n1 = true → b1 = []) (h2 : n2 = true → c = []) (s0 : b0.length * 24 ≤ 140737488351232) (s1 : b1.length * 24 ≤ 140737488351232) (s2 : c.length * 48 ≤ 140737488351232) (x : Hap) (m0 m1 m2 : Bool) (d0 d1 : Bk) (d : List Cl0) :
    Good PG nG G0 f_greatseallaw_WorldDoes [.agg [.sl 2 n0 none (b0.map E2), .sl 2 n1 none (b1.map E2), .sl 4 n2 none (c.map C4)], .agg [.int .i64 x.1, .int .i64 x.2.1, .int .i64 x.2.2.1, .int .i64 x.2.2.2.1, .int .i64 x.2.2.2.2.1, .str x.2.2.2.2.2], .agg [.sl 2 m0 none (d0.map E2), .sl 2 m1 none (d1.map E2), .sl 4 m2 none (d.map C4)]] [] (.bool true) [] := by
  rw [map_toCl c, map_toCl d]
  have hok := mkW_ok h0 h1 h2
  have hlen : (mkW n0 b0 n1 b1 n2 c).c.length = c.length := List.length_map ..
  have l0 : (mkW n0 b0 n1 b1 n2 c).b0.length = b0.length := rfl
  have l1 : (mkW n0 b0 n1 b1 n2 c).b1.length = b1.length := rfl
  suffices main : ∀ w v : Wd, (checkW w = 0 → WOk w) → w.b0.length ≤ 1000000000000000000 → w.b1.length ≤ 1000000000000000000 → w.c.length ≤ 1000000000000000000 →
      Good PG nG G0 f_greatseallaw_WorldDoes [wV w, .agg [.int .i64 x.1, .int .i64 x.2.1, .int .i64 x.2.2.1, .int .i64 x.2.2.2.1, .int .i64 x.2.2.2.2.1, .str x.2.2.2.2.2], wV v] [] (.bool true) [] from
    main (mkW n0 b0 n1 b1 n2 c) (mkW m0 d0 m1 d1 m2 d) hok (by omega) (by omega) (by omega)
  intro w v hok l0 l1 l2
  suffices main : ∀ R : AV → List (Option Blk) → Prop, R (.bool true) [] → Hold (runF PG ty nG G0 an_greatseallaw_WorldDoes f_greatseallaw_WorldDoes [wV w, .agg [.int .i64 x.1, .int .i64 x.2.1, .int .i64 x.2.2.1, .int .i64 x.2.2.2.1, .int .i64 x.2.2.2.2.1, .str x.2.2.2.2.2], wV v] [] R) from
    good_of_run prOk (by kernel_rfl) (main _ ⟨rfl, rfl⟩)
  intro R hR
  refine greatseallaw_WorldDoes_run _ _ _ _ _ _ _ _ _ _ _ _ _ _ _ _ _ _ G0 R ⟨_, _, _, _, _, _, _, good_Do hG hok x, _, good_CheckWorld w, _, good_lied hG, ?_⟩
  rw [Bool.not_true, ifF]
  refine ⟨_, good_worldCheck w, ?_⟩
  rw [bne_self_eq_false, ifF]
  refine ⟨_, good_worldSame w v l0 l1 l2, _, good_SameWorld w v l0 l1 l2, ?_⟩
  simp only [beq_self_eq_true, Bool.not_true, ifF]
  have gf := good_SameWorld (G0 := G0) newW newW (by decide) (by decide) (by decide)
  rw [sameW_self] at gf
  refine ⟨_, _, _, _, _, _, good_worldNew, _, _, _, _, _, _, good_Fresh, _, gf, ?_⟩
  rw [Bool.not_true, ifF]
  refine ifK_ne0 (fun h => ?_) fun h => ?_
  · rw [doR_bad h, beq_self_eq_true, ifT]
    have gs := good_SameWorld (G0 := G0) W0 W0 (by decide) (by decide) (by decide)
    rw [sameW_self] at gs
    exact ⟨_, gs, hR⟩
  · have hw := hok h
    refine ⟨_, _, _, _, _, _, _, good_Happened hG hw x, ?_⟩
    rw [beq_self_eq_true, ifT]
    have hl : (doR w x).1.b0.length ≤ 24 ∧ (doR w x).1.b1.length ≤ 24 ∧ (doR w x).1.c.length ≤ 3 := by
      unfold doR
      rw [if_neg (by simpa using h)]
      split
      · exact ⟨Nat.zero_le _, Nat.zero_le _, Nat.zero_le _⟩
      · rename_i he
        have := hw.happen x (by simpa using he)
        exact ⟨this.l0, this.l1, Nat.le_of_eq this.c3⟩
    have gs := good_SameWorld (G0 := G0) (doR w x).1 (doR w x).1 (by omega) (by omega) (by omega)
    rw [sameW_self] at gs
    exact ⟨_, gs, hR⟩

theorem doR_ok {w : Wd} (h : checkW w = 0) (x : Hap) : (doR w x).2 = (happenR w x).2 ∧ ((happenR w x).2 = 0 → (doR w x).1 = (happenR w x).1) := by
  unfold doR
  rw [if_neg (by simpa using h)]
  split
  · rename_i h1; exact ⟨rfl, fun h2 => absurd h2 h1⟩
  · rename_i h1; exact ⟨(by simpa using h1 : (happenR w x).2 = 0).symm, fun _ => rfl⟩

theorem WOk.run {w : Wd} (h : WOk w) (l : List Hap) : WOk (runW w l) := by
  induction l generalizing w with
  | nil => exact h
  | cons x r ih => exact ih (h.step x)

theorem saysW_len (l : List Hap) : ∀ w, (saysW w l).length = l.length := by
  induction l with
  | nil => intro w; rfl
  | cons x r ih => intro w; simp [saysW, ih]

theorem good_WorldRuns (hG : GlobOk G0) (n0 n1 n2 : Bool) (b0 b1 : Bk) (c : List Cl0) (h0 : n0 = true → b0 = []) (h1 : n1 = true → b1 = []) (h2 : n2 = true → c = []) (l : List Hap) (nl : Bool) :
    Good PG nG G0 f_greatseallaw_WorldRuns [.agg [.sl 2 n0 none (b0.map E2), .sl 2 n1 none (b1.map E2), .sl 4 n2 none (c.map C4)], .sl 6 nl none (l.map H6)] [] (.bool true) [] := by
  rw [map_toCl c]
  have hok := mkW_ok h0 h1 h2
  suffices main : ∀ w : Wd, (checkW w = 0 → WOk w) → Good PG nG G0 f_greatseallaw_WorldRuns [wV w, .sl 6 nl none (l.map H6)] [] (.bool true) [] from main (mkW n0 b0 n1 b1 n2 c) hok
  intro w hok
  suffices main : ∀ R : AV → List (Option Blk) → Prop, R (.bool true) [] → Hold (runF PG ty nG G0 an_greatseallaw_WorldRuns f_greatseallaw_WorldRuns [wV w, .sl 6 nl none (l.map H6)] [] R) from
    good_of_run prOk (by kernel_rfl) (main _ ⟨rfl, rfl⟩)
  intro R hR
  have gr := good_worldRun (G0 := G0) hG hok l nl
  have li := good_lied (G0 := G0) hG
  have hl6 : (l.map H6).length = l.length := List.length_map ..
  have gs := good_SameWorld (G0 := G0) W0 W0 (by decide) (by decide) (by decide)
  rw [sameW_self] at gs
  refine greatseallaw_WorldRuns_run _ _ _ _ _ _ nl _ G0 R ⟨_, _, _, _, _, _, _, _, _, gr, _, good_CheckWorld w, ifK_eq (fun hck => ?_) fun hck => ?_⟩
  · have hw := hok hck
    rw [hl6]
    refine ifK_dec (fun h80 => ?_) fun h80 => ?_
    · have hrr : runR w l = ((W0, []), 2) := by unfold runR; rw [if_neg (by simpa using hck), if_pos (by omega)]
      rw [hrr]
      refine ⟨_, li, ?_⟩
      rw [Bool.not_true, ifF]
      refine ⟨_, li, ?_⟩
      simp only [ifT, beq_self_eq_true, List.map_nil, List.length_nil]
      exact ⟨_, gs, hR⟩
    · have hrr : runR w l = ((runW w l, saysW w l), 0) := by unfold runR; rw [if_neg (by simpa using hck), if_neg (by omega)]
      rw [hrr]
      refine ⟨_, li, ?_⟩
      rw [Bool.not_true, ifF, hck, bne_self_eq_false, ifF]
      simp only
      have ge := good_EqualErrno (G0 := G0) (saysW w l) (saysW w l) (saysW w l).isEmpty (saysW w l).isEmpty (by rw [saysW_len]; omega)
      rw [decide_eq_true rfl] at ge
      have hwr := hw.run l
      have gsr := good_SameWorld (G0 := G0) (runW w l) (runW w l) (by have := hwr.l0; omega) (by have := hwr.l1; omega) (by have := hwr.c3; omega)
      rw [sameW_self] at gsr
      have key : ∀ (m : Nat) (i : Nat) (v : Wd) (s : List Int), i + m = l.length → WOk v → runW v (l.drop i) = runW w l → s ++ saysW v (l.drop i) = saysW w l → s.length = i →
          Does PG nG G0 (fnOf PG f_greatseallaw_WorldRuns) 0 (lp PG f_greatseallaw_WorldRuns 0) (mkT 84 [(2, .ref 0 0), (5, .ref 1 0), (6, .sl 1 (saysW w l).isEmpty none ((saysW w l).map I1)), (7, .int .i64 0), (9, .sl 1 s.isEmpty (some 2) (s.map I1)), (52, .sl 6 nl none (l.map H6)), (53, .int .i64 l.length), (54, .int .i64 (i : Int))])
            [some (.var [.sl 2 v.n0 none (v.b0.map E2), .sl 2 v.n1 none (v.b1.map E2), .sl 4 v.n2 none (v.c.map CX)]), some (.var [.sl 2 (runW w l).n0 none ((runW w l).b0.map E2), .sl 2 (runW w l).n1 none ((runW w l).b1.map E2), .sl 4 (runW w l).n2 none ((runW w l).c.map CX)]), some (.grow 1 s.length)] R := by
        intro m
        induction m with
        | zero =>
          intro i v s hi hv e1 e2 hs
          refine does_of_run prOk (greatseallaw_WorldRuns_l0_run G0 _ _ _ _ _ _ _ _ _ _ _ _ _ _ _ _ _ _ _ _ _ _ R ?_)
          rw [decide_eq_false (by omega), ifF]
          have hd : l.drop i = [] := List.drop_of_length_le (by omega)
          rw [hd] at e1 e2
          have e1 : v = runW w l := e1
          rw [saysW, List.append_nil] at e2
          subst e1
          subst e2
          simp only [beq_self_eq_true, ifT]
          exact ⟨_, ge, _, gsr, hR⟩
        | succ m ih =>
          intro i v s hi hv e1 e2 hs
          have hil : i < l.length := by omega
          refine does_of_run prOk (greatseallaw_WorldRuns_l0_run G0 _ _ _ _ _ _ _ _ _ _ _ _ _ _ _ _ _ _ _ _ _ _ R ?_)
          rw [decide_eq_true (show (i : Int) < l.length by omega), ifT, Int.toNat_natCast]
          have gh := good_Happened (G0 := G0) hG hv l[i]
          obtain ⟨q1, q2⟩ := doR_ok hv.check l[i]
          rw [q1] at gh
          refine ⟨by omega, _, _, _, _, _, _, getX hil, _, _, _, _, _, _, _, gh, ?_⟩
          rw [List.drop_eq_getElem_cons hil] at e1 e2
          have e1 : runW (stepR v l[i]) (l.drop (i + 1)) = runW w l := e1
          rw [saysW] at e2
          have hnx : IntKind.i64.wrap ((i : Int) + 1) = ((i + 1 : Nat) : Int) := by rw [wrapI (by omega) (by omega)]; rfl
          have em : s.map I1 ++ [[AV.int .i64 (happenR v l[i]).2]] = (s ++ [(happenR v l[i]).2]).map I1 := by rw [List.map_append]; rfl
          have nxt := ih (i + 1) (stepR v l[i]) (s ++ [(happenR v l[i]).2]) (by omega) (hv.step _) e1 (by rw [List.append_assoc]; exact e2) (by simp [hs])
          have ee : (s ++ [(happenR v l[i]).2]).isEmpty = false := by cases s <;> rfl
          have eb : (s.isEmpty && List.isEmpty [[AV.int .i64 (happenR v l[i]).2]]) = false := by cases s <;> rfl
          have el : (s ++ [(happenR v l[i]).2]).length = s.length + List.length [[AV.int .i64 (happenR v l[i]).2]] := by simp
          rw [ee, ← em, el] at nxt
          refine ifK_eq (fun h3 => ⟨?_, ?_, ?_⟩) fun h3 => ⟨?_, ?_, ?_⟩
          · simp only [List.length_map, List.length_cons, List.length_nil]; omega
          · rw [List.length_map]
          · rw [eb, hnx, q2 h3]
            have est : stepR v l[i] = (happenR v l[i]).1 := by unfold stepR; rw [if_pos h3]
            rw [est] at nxt
            exact nxt
          · simp only [List.length_map, List.length_cons, List.length_nil]; omega
          · rw [List.length_map]
          · rw [eb, hnx]
            have est : stepR v l[i] = v := by unfold stepR; rw [if_neg h3]
            rw [est] at nxt
            exact nxt
      exact key l.length 0 w [] (by omega) hw rfl rfl rfl
  · have hrr : runR w l = ((W0, []), checkW w) := by unfold runR; rw [if_pos hck]
    rw [hrr]
    refine ⟨_, li, ?_⟩
    rw [Bool.not_true, ifF]
    refine ifK_ne0 (fun _ => ⟨_, li, ?_⟩) fun h => absurd h hck
    simp only [ifT, beq_self_eq_true, List.map_nil, List.length_nil]
    exact ⟨_, gs, hR⟩

theorem good_WorldKeeps (hG : GlobOk G0) (n0 n1 n2 : Bool) (b0 b1 : Bk) (c : List Cl0) (h0 : n0 = true → b0 = []) (h1 : n1 = true → b1 = []) (h2 : n2 = true → c = []) (x : Hap) :
    Good PG nG G0 f_greatseallaw_WorldKeeps [.agg [.sl 2 n0 none (b0.map E2), .sl 2 n1 none (b1.map E2), .sl 4 n2 none (c.map C4)], .agg [.int .i64 x.1, .int .i64 x.2.1, .int .i64 x.2.2.1, .int .i64 x.2.2.2.1, .int .i64 x.2.2.2.2.1, .str x.2.2.2.2.2]] [] (.bool true) [] := by
  rw [map_toCl c]
  have hok := mkW_ok h0 h1 h2
  suffices main : ∀ w : Wd, (checkW w = 0 → WOk w) → Good PG nG G0 f_greatseallaw_WorldKeeps [wV w, .agg [.int .i64 x.1, .int .i64 x.2.1, .int .i64 x.2.2.1, .int .i64 x.2.2.2.1, .int .i64 x.2.2.2.2.1, .str x.2.2.2.2.2]] [] (.bool true) [] from main (mkW n0 b0 n1 b1 n2 c) hok
  intro w hok
  suffices main : ∀ R : AV → List (Option Blk) → Prop, R (.bool true) [] → Hold (runF PG ty nG G0 an_greatseallaw_WorldKeeps f_greatseallaw_WorldKeeps [wV w, .agg [.int .i64 x.1, .int .i64 x.2.1, .int .i64 x.2.2.1, .int .i64 x.2.2.2.1, .int .i64 x.2.2.2.2.1, .str x.2.2.2.2.2]] [] R) from
    good_of_run prOk (by kernel_rfl) (main _ ⟨rfl, rfl⟩)
  intro R hR
  have li := good_lied (G0 := G0) hG
  refine greatseallaw_WorldKeeps_run _ _ _ _ _ _ _ _ _ _ _ _ G0 R ⟨_, _, _, _, _, _, _, good_Do hG hok x, _, li, ?_⟩
  rw [Bool.not_true, ifF]
  refine ifK_ne0 (fun _ => ⟨_, li, hR⟩) fun he => ?_
  by_cases hck : checkW w = 0
  case neg => rw [doR_bad hck] at he; exact absurd he hck
  have hw := hok hck
  obtain ⟨q1, q2⟩ := doR_ok hck x
  have he : (happenR w x).2 = 0 := q1.symm.trans he
  rw [q2 he]
  have hy := hw.happen x he
  have hkp := keeps hck x he
  have c3 := hw.c3
  have d3 := hy.c3
  have l24 := hw.l0
  have gk := good_worldCheck (G0 := G0) (happenR w x).1
  rw [hy.check] at gk
  have ge := good_EqualEntry (G0 := G0) ((happenR w x).1.b0.take w.b0.length) w.b0 (happenR w x).1.n0 w.n0 (by rw [hkp.2.1]; omega)
  rw [decide_eq_true hkp.2.1] at ge
  have hcl : (w.c.map CX).length = w.c.length := List.length_map ..
  have hl0 : (w.b0.map E2).length = w.b0.length := List.length_map ..
  have hl1 : ((happenR w x).1.b0.map E2).length = (happenR w x).1.b0.length := List.length_map ..
  refine ⟨by decide, by decide, _, gk, ?_⟩
  rw [bne_self_eq_false, ifF, hl0, hl1, Int.toNat_natCast, take_E2]
  refine ⟨by decide, by decide, ifK_dec (fun h => by omega) fun _ => ⟨by decide, by decide, by decide, by omega, by omega, by decide, by decide, _, ge, ?_⟩⟩
  rw [Bool.not_true, ifF]
  have e3 : ((((happenR w x).1.c.map CX).length : Int) != ((w.c.map CX).length : Int)) = false := by
    rw [List.length_map, hcl, c3, d3]; rfl
  rw [hcl]
  rw [hcl] at e3
  rw [e3, ifF]
  refine loop_down (D := fun i : Nat => Does PG nG G0 (fnOf PG f_greatseallaw_WorldKeeps) 0 (lp PG f_greatseallaw_WorldKeeps 0) (mkT 118 [(3, .ref 0 0), (5, .ref 1 0), (65, .sl 4 w.n2 none (w.c.map CX)), (66, .int .i64 w.c.length), (67, .int .i64 (i : Int))])
    [some (.var [.int .i64 x.1, .int .i64 x.2.1, .int .i64 x.2.2.1, .int .i64 x.2.2.2.1, .int .i64 x.2.2.2.2.1, .str x.2.2.2.2.2]), some (.var [.sl 2 (happenR w x).1.n0 none ((happenR w x).1.b0.map E2), .sl 2 (happenR w x).1.n1 none ((happenR w x).1.b1.map E2), .sl 4 (happenR w x).1.n2 none ((happenR w x).1.c.map CX)])] R) w.c.length ?_ (fun i hi ih => ?_)
  · refine does_of_run prOk (greatseallaw_WorldKeeps_l0_run G0 _ _ _ _ _ _ _ _ _ _ _ _ _ _ _ _ R ?_)
    rw [decide_eq_false (by omega), ifF]
    exact hR
  · refine does_of_run prOk (greatseallaw_WorldKeeps_l0_run G0 _ _ _ _ _ _ _ _ _ _ _ _ _ _ _ _ R ?_)
    rw [decide_eq_true (show (i : Int) < w.c.length by omega), ifT, Int.toNat_natCast, wrapI (by omega) (by omega)]
    obtain ⟨k1, k2, k3⟩ := hkp.2.2 i (by omega)
    have hg1 : (w.c.map CX)[i]? = some (CX (w.cl i)) := by rw [getX hi, cl_get (by simpa using hi)]; rfl
    have hg2 : ((happenR w x).1.c.map CX)[i]? = some (CX ((happenR w x).1.cl i)) := by rw [getX (by omega), cl_get (by simpa using (by omega : i < (happenR w x).1.c.length))]; rfl
    have gn := good_noteCheck (G0 := G0) ((happenR w x).1.cl i).1
    rw [checkW_cl hy.check] at gn
    have tail : ifK (decide (((happenR w x).1.cl i).1.n < (w.cl i).1.n)) (R (.bool false) []) (ifK (!eqAll [.int .i64 ((happenR w x).1.cl i).1.n, .str ((happenR w x).1.cl i).1.log, .str ((happenR w x).1.cl i).1.mp] [.int .i64 (w.cl i).1.n, .str (w.cl i).1.log, .str (w.cl i).1.mp])
        (ifK (x.1 != (3 : Int)) (R (.bool false) []) (ifK (x.2.2.1 != (i : Int)) (R (.bool false) [])
          (∃ n36, Good PG nG G0 f_note_Check [.agg [.int .i64 ((happenR w x).1.cl i).1.n, .str ((happenR w x).1.cl i).1.log, .str ((happenR w x).1.cl i).1.mp]] [] (.int .i64 n36) [] ∧ ifK (n36 != (0 : Int)) (R (.bool false) [])
            (Does PG nG G0 (fnOf PG f_greatseallaw_WorldKeeps) 0 (lp PG f_greatseallaw_WorldKeeps 0) (mkT 118 [(3, .ref 0 0), (5, .ref 1 0), (65, .sl 4 w.n2 none (w.c.map CX)), (66, .int .i64 w.c.length), (67, .int .i64 ((i : Int) + 1))])
    [some (.var [.int .i64 x.1, .int .i64 x.2.1, .int .i64 x.2.2.1, .int .i64 x.2.2.2.1, .int .i64 x.2.2.2.2.1, .str x.2.2.2.2.2]), some (.var [.sl 2 (happenR w x).1.n0 none ((happenR w x).1.b0.map E2), .sl 2 (happenR w x).1.n1 none ((happenR w x).1.b1.map E2), .sl 4 (happenR w x).1.n2 none ((happenR w x).1.c.map CX)])] R))))
        (∃ n37, Good PG nG G0 f_note_Check [.agg [.int .i64 ((happenR w x).1.cl i).1.n, .str ((happenR w x).1.cl i).1.log, .str ((happenR w x).1.cl i).1.mp]] [] (.int .i64 n37) [] ∧ ifK (n37 != (0 : Int)) (R (.bool false) [])
            (Does PG nG G0 (fnOf PG f_greatseallaw_WorldKeeps) 0 (lp PG f_greatseallaw_WorldKeeps 0) (mkT 118 [(3, .ref 0 0), (5, .ref 1 0), (65, .sl 4 w.n2 none (w.c.map CX)), (66, .int .i64 w.c.length), (67, .int .i64 ((i : Int) + 1))])
    [some (.var [.int .i64 x.1, .int .i64 x.2.1, .int .i64 x.2.2.1, .int .i64 x.2.2.2.1, .int .i64 x.2.2.2.2.1, .str x.2.2.2.2.2]), some (.var [.sl 2 (happenR w x).1.n0 none ((happenR w x).1.b0.map E2), .sl 2 (happenR w x).1.n1 none ((happenR w x).1.b1.map E2), .sl 4 (happenR w x).1.n2 none ((happenR w x).1.c.map CX)])] R))) := by
      refine ifK_dec (fun h => by omega) fun _ => ?_
      rw [eqAll_hd]
      by_cases hh : ((happenR w x).1.cl i).1 = (w.cl i).1
      · rw [decide_eq_true hh, Bool.not_true, ifF]
        refine ⟨_, gn, ?_⟩
        rw [bne_self_eq_false, ifF]; exact ih
      · rw [decide_eq_false hh, Bool.not_false, ifT]
        obtain ⟨r1, r2⟩ := k3 hh
        refine ifK_ne70 (fun h => absurd r1 h) fun _ => ifK_ne70 (fun h => absurd r2 h) fun _ => ⟨_, gn, ?_⟩
        rw [bne_self_eq_false, ifF]; exact ih
    refine ⟨by omega, _, _, _, _, hg1, by omega, _, _, _, _, hg2, ifK_bool (fun hb => ?_) fun _ => tail⟩
    rw [k1 hb, Bool.not_true, ifF]
    exact tail
end Go.Ab

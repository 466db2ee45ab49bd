/- What the proofs of these laws lean on (9): What the runs come to; Contracts: whose heads they are: the law; What the runs come to; What the runs come to; Contracts: errors put one after the other; a script in two runs; What the listed variables give, for any law of this seat; no condition. -/
import Derived.Test.YtdolapjfihjmgaaDoorZAllH
import Derived.Shelf.Spec.SlicesGrow
import Derived.Test.YtdolapjfihjmgaaDoorCards
import Derived.Test.YtdolapjfihjmgaaDoorTie
import Derived.OpenShut
import Derived.LaidMore
import Derived.Deep.DeepHandedRow
import Derived.Lib.LaidTab
namespace Go.Ab
open Go.Proofs
set_option maxRecDepth 100000

def an_greatseallaw_StorySays : FAnn := ⟨[], [], none, []⟩

theorem greatseallaw_StorySays_run (nlw0_0 : Bool) (w0_0 : List (List AV)) (nlw0_1 : Bool) (w0_1 : List (List AV)) (nlw0_2 : Bool) (w0_2 : List (List AV)) (who1 : Int) (side2 : Int) (G0 : Nat → Option Go.Obj) (R : AV → List (Option Blk) → Prop) (h :
  ∃ b0 n1,
  Good PG nG G0 f_story_Of [AV.agg [AV.sl (2 : Nat) nlw0_0 none w0_0, AV.sl (2 : Nat) nlw0_1 none w0_1, AV.sl (4 : Nat) nlw0_2 none w0_2], AV.int Go.IntKind.i64 who1, AV.int Go.IntKind.i64 side2] []
      (AV.tup [AV.bool b0, AV.int Go.IntKind.i64 n1]) [] ∧
    ∃ n2 n3,
      Good PG nG G0 f_story_Split [AV.agg [AV.sl (2 : Nat) nlw0_0 none w0_0, AV.sl (2 : Nat) nlw0_1 none w0_1, AV.sl (4 : Nat) nlw0_2 none w0_2]] [] (AV.tup [AV.int Go.IntKind.i64 n2, AV.int Go.IntKind.i64 n3]) [] ∧
        ∃ n4,
          Good PG nG G0 f_greatsealref_CheckWorld [AV.agg [AV.sl (2 : Nat) nlw0_0 none w0_0, AV.sl (2 : Nat) nlw0_1 none w0_1, AV.sl (4 : Nat) nlw0_2 none w0_2]] [] (AV.int Go.IntKind.i64 n4) [] ∧
            ∃ b5,
              Good PG nG G0 f_greatseallaw_telling [] [] (AV.bool b5) [] ∧
                ifK (!b5) (R (AV.bool false) [])
                  (ifK (n3 != n4) (R (AV.bool false) [])
                    (ifK (n4 != (0 : Int))
                      (ifK (n2 != (0 : Int)) (R (AV.bool false) [])
                        (ifK (n4 == (0 : Int))
                          (ifK (decide (who1 < (0 : Int)))
                            (∃ n6,
                              Good PG nG G0 f_greatsealref_CheckWorld [AV.agg [AV.sl (2 : Nat) nlw0_0 none w0_0, AV.sl (2 : Nat) nlw0_1 none w0_1, AV.sl (4 : Nat) nlw0_2 none w0_2]] [] (AV.int Go.IntKind.i64 n6) [] ∧
                                ifK (n6 == (0 : Int))
                                  ((0 : Int) ≤ (0 : Int) ∧
                                    (0 : Int) < (2 : Int) ∧
                                      (0 : Int) ≤ (1 : Int) ∧
                                        (1 : Int) < (2 : Int) ∧
                                          ifK (decide (n2 > if (↑(List.length w0_1) : Int) < (↑(List.length w0_0) : Int) then (↑(List.length w0_1) : Int) else (↑(List.length w0_0) : Int))) (R (AV.bool false) [])
                                            ((0 : Int) ≤ (0 : Int) ∧
                                              (0 : Int) ≤ n2 ∧
                                                n2 ≤ (↑(List.length w0_0) : Int) ∧
                                                  (0 : Int) ≤ (0 : Int) ∧
                                                    (0 : Int) ≤ n2 ∧
                                                      n2 ≤ (↑(List.length w0_1) : Int) ∧
                                                        ∃ b7,
                                                          Good PG nG G0 f_slices_Equal_Entry
                                                              [AV.sl (2 : Nat) nlw0_0 none (List.drop (0 : Nat) (List.take (Int.toNat n2) w0_0)), AV.sl (2 : Nat) nlw0_1 none (List.drop (0 : Nat) (List.take (Int.toNat n2) w0_1))] []
                                                              (AV.bool b7) [] ∧
                                                            ifK (!b7) (R (AV.bool false) [])
                                                              (ifK (decide (n2 < if (↑(List.length w0_1) : Int) < (↑(List.length w0_0) : Int) then (↑(List.length w0_1) : Int) else (↑(List.length w0_0) : Int)))
                                                                ((0 : Int) ≤ n2 ∧
                                                                  ∃ n8 s9,
                                                                    w0_0[Int.toNat n2]? = some [AV.int Go.IntKind.i64 n8, AV.str s9] ∧
                                                                      (0 : Int) ≤ n2 ∧
                                                                        ∃ n10 s11,
                                                                          w0_1[Int.toNat n2]? = some [AV.int Go.IntKind.i64 n10, AV.str s11] ∧
                                                                            ifK (eqAll [AV.int Go.IntKind.i64 n8, AV.str s9] [AV.int Go.IntKind.i64 n10, AV.str s11]) (R (AV.bool false) [])
                                                                              (ifK (n1 == (5 : Int)) (R (AV.bool !b0) []) (R (AV.bool false) [])))
                                                                (ifK (n1 == (5 : Int)) (R (AV.bool !b0) []) (R (AV.bool false) [])))))
                                  (ifK (n1 == (5 : Int)) (R (AV.bool !b0) []) (R (AV.bool false) [])))
                            (ifK (decide (who1 > (2 : Int)))
                              (∃ n12,
                                Good PG nG G0 f_greatsealref_CheckWorld [AV.agg [AV.sl (2 : Nat) nlw0_0 none w0_0, AV.sl (2 : Nat) nlw0_1 none w0_1, AV.sl (4 : Nat) nlw0_2 none w0_2]] [] (AV.int Go.IntKind.i64 n12) [] ∧
                                  ifK (n12 == (0 : Int))
                                    ((0 : Int) ≤ (0 : Int) ∧
                                      (0 : Int) < (2 : Int) ∧
                                        (0 : Int) ≤ (1 : Int) ∧
                                          (1 : Int) < (2 : Int) ∧
                                            ifK (decide (n2 > if (↑(List.length w0_1) : Int) < (↑(List.length w0_0) : Int) then (↑(List.length w0_1) : Int) else (↑(List.length w0_0) : Int))) (R (AV.bool false) [])
                                              ((0 : Int) ≤ (0 : Int) ∧
                                                (0 : Int) ≤ n2 ∧
                                                  n2 ≤ (↑(List.length w0_0) : Int) ∧
                                                    (0 : Int) ≤ (0 : Int) ∧
                                                      (0 : Int) ≤ n2 ∧
                                                        n2 ≤ (↑(List.length w0_1) : Int) ∧
                                                          ∃ b13,
                                                            Good PG nG G0 f_slices_Equal_Entry
                                                                [AV.sl (2 : Nat) nlw0_0 none (List.drop (0 : Nat) (List.take (Int.toNat n2) w0_0)), AV.sl (2 : Nat) nlw0_1 none (List.drop (0 : Nat) (List.take (Int.toNat n2) w0_1))] []
                                                                (AV.bool b13) [] ∧
                                                              ifK (!b13) (R (AV.bool false) [])
                                                                (ifK (decide (n2 < if (↑(List.length w0_1) : Int) < (↑(List.length w0_0) : Int) then (↑(List.length w0_1) : Int) else (↑(List.length w0_0) : Int)))
                                                                  ((0 : Int) ≤ n2 ∧
                                                                    ∃ n14 s15,
                                                                      w0_0[Int.toNat n2]? = some [AV.int Go.IntKind.i64 n14, AV.str s15] ∧
                                                                        (0 : Int) ≤ n2 ∧
                                                                          ∃ n16 s17,
                                                                            w0_1[Int.toNat n2]? = some [AV.int Go.IntKind.i64 n16, AV.str s17] ∧
                                                                              ifK (eqAll [AV.int Go.IntKind.i64 n14, AV.str s15] [AV.int Go.IntKind.i64 n16, AV.str s17]) (R (AV.bool false) [])
                                                                                (ifK (n1 == (5 : Int)) (R (AV.bool !b0) []) (R (AV.bool false) [])))
                                                                  (ifK (n1 == (5 : Int)) (R (AV.bool !b0) []) (R (AV.bool false) [])))))
                                    (ifK (n1 == (5 : Int)) (R (AV.bool !b0) []) (R (AV.bool false) [])))
                              (ifK (decide (side2 < (0 : Int)))
                                (∃ n18,
                                  Good PG nG G0 f_greatsealref_CheckWorld [AV.agg [AV.sl (2 : Nat) nlw0_0 none w0_0, AV.sl (2 : Nat) nlw0_1 none w0_1, AV.sl (4 : Nat) nlw0_2 none w0_2]] [] (AV.int Go.IntKind.i64 n18) [] ∧
                                    ifK (n18 == (0 : Int))
                                      ((0 : Int) ≤ (0 : Int) ∧
                                        (0 : Int) < (2 : Int) ∧
                                          (0 : Int) ≤ (1 : Int) ∧
                                            (1 : Int) < (2 : Int) ∧
                                              ifK (decide (n2 > if (↑(List.length w0_1) : Int) < (↑(List.length w0_0) : Int) then (↑(List.length w0_1) : Int) else (↑(List.length w0_0) : Int))) (R (AV.bool false) [])
                                                ((0 : Int) ≤ (0 : Int) ∧
                                                  (0 : Int) ≤ n2 ∧
                                                    n2 ≤ (↑(List.length w0_0) : Int) ∧
                                                      (0 : Int) ≤ (0 : Int) ∧
                                                        (0 : Int) ≤ n2 ∧
                                                          n2 ≤ (↑(List.length w0_1) : Int) ∧
                                                            ∃ b19,
                                                              Good PG nG G0 f_slices_Equal_Entry
                                                                  [AV.sl (2 : Nat) nlw0_0 none (List.drop (0 : Nat) (List.take (Int.toNat n2) w0_0)), AV.sl (2 : Nat) nlw0_1 none (List.drop (0 : Nat) (List.take (Int.toNat n2) w0_1))] []
                                                                  (AV.bool b19) [] ∧
                                                                ifK (!b19) (R (AV.bool false) [])
                                                                  (ifK (decide (n2 < if (↑(List.length w0_1) : Int) < (↑(List.length w0_0) : Int) then (↑(List.length w0_1) : Int) else (↑(List.length w0_0) : Int)))
                                                                    ((0 : Int) ≤ n2 ∧
                                                                      ∃ n20 s21,
                                                                        w0_0[Int.toNat n2]? = some [AV.int Go.IntKind.i64 n20, AV.str s21] ∧
                                                                          (0 : Int) ≤ n2 ∧
                                                                            ∃ n22 s23,
                                                                              w0_1[Int.toNat n2]? = some [AV.int Go.IntKind.i64 n22, AV.str s23] ∧
                                                                                ifK (eqAll [AV.int Go.IntKind.i64 n20, AV.str s21] [AV.int Go.IntKind.i64 n22, AV.str s23]) (R (AV.bool false) [])
                                                                                  (ifK (n1 == (5 : Int)) (R (AV.bool !b0) []) (R (AV.bool false) [])))
                                                                    (ifK (n1 == (5 : Int)) (R (AV.bool !b0) []) (R (AV.bool false) [])))))
                                      (ifK (n1 == (5 : Int)) (R (AV.bool !b0) []) (R (AV.bool false) [])))
                                (ifK (decide (side2 > (1 : Int)))
                                  (∃ n24,
                                    Good PG nG G0 f_greatsealref_CheckWorld [AV.agg [AV.sl (2 : Nat) nlw0_0 none w0_0, AV.sl (2 : Nat) nlw0_1 none w0_1, AV.sl (4 : Nat) nlw0_2 none w0_2]] [] (AV.int Go.IntKind.i64 n24) [] ∧
                                      ifK (n24 == (0 : Int))
                                        ((0 : Int) ≤ (0 : Int) ∧
                                          (0 : Int) < (2 : Int) ∧
                                            (0 : Int) ≤ (1 : Int) ∧
                                              (1 : Int) < (2 : Int) ∧
                                                ifK (decide (n2 > if (↑(List.length w0_1) : Int) < (↑(List.length w0_0) : Int) then (↑(List.length w0_1) : Int) else (↑(List.length w0_0) : Int))) (R (AV.bool false) [])
                                                  ((0 : Int) ≤ (0 : Int) ∧
                                                    (0 : Int) ≤ n2 ∧
                                                      n2 ≤ (↑(List.length w0_0) : Int) ∧
                                                        (0 : Int) ≤ (0 : Int) ∧
                                                          (0 : Int) ≤ n2 ∧
                                                            n2 ≤ (↑(List.length w0_1) : Int) ∧
                                                              ∃ b25,
                                                                Good PG nG G0 f_slices_Equal_Entry
                                                                    [AV.sl (2 : Nat) nlw0_0 none (List.drop (0 : Nat) (List.take (Int.toNat n2) w0_0)), AV.sl (2 : Nat) nlw0_1 none (List.drop (0 : Nat) (List.take (Int.toNat n2) w0_1))] []
                                                                    (AV.bool b25) [] ∧
                                                                  ifK (!b25) (R (AV.bool false) [])
                                                                    (ifK (decide (n2 < if (↑(List.length w0_1) : Int) < (↑(List.length w0_0) : Int) then (↑(List.length w0_1) : Int) else (↑(List.length w0_0) : Int)))
                                                                      ((0 : Int) ≤ n2 ∧
                                                                        ∃ n26 s27,
                                                                          w0_0[Int.toNat n2]? = some [AV.int Go.IntKind.i64 n26, AV.str s27] ∧
                                                                            (0 : Int) ≤ n2 ∧
                                                                              ∃ n28 s29,
                                                                                w0_1[Int.toNat n2]? = some [AV.int Go.IntKind.i64 n28, AV.str s29] ∧
                                                                                  ifK (eqAll [AV.int Go.IntKind.i64 n26, AV.str s27] [AV.int Go.IntKind.i64 n28, AV.str s29]) (R (AV.bool false) [])
                                                                                    (ifK (n1 == (5 : Int)) (R (AV.bool !b0) []) (R (AV.bool false) [])))
                                                                      (ifK (n1 == (5 : Int)) (R (AV.bool !b0) []) (R (AV.bool false) [])))))
                                        (ifK (n1 == (5 : Int)) (R (AV.bool !b0) []) (R (AV.bool false) [])))
                                  (∃ n30,
                                    Good PG nG G0 f_greatsealref_CheckWorld [AV.agg [AV.sl (2 : Nat) nlw0_0 none w0_0, AV.sl (2 : Nat) nlw0_1 none w0_1, AV.sl (4 : Nat) nlw0_2 none w0_2]] [] (AV.int Go.IntKind.i64 n30) [] ∧
                                      ifK (n30 == (0 : Int))
                                        ((0 : Int) ≤ (0 : Int) ∧
                                          (0 : Int) < (2 : Int) ∧
                                            (0 : Int) ≤ (1 : Int) ∧
                                              (1 : Int) < (2 : Int) ∧
                                                ifK (decide (n2 > if (↑(List.length w0_1) : Int) < (↑(List.length w0_0) : Int) then (↑(List.length w0_1) : Int) else (↑(List.length w0_0) : Int))) (R (AV.bool false) [])
                                                  ((0 : Int) ≤ (0 : Int) ∧
                                                    (0 : Int) ≤ n2 ∧
                                                      n2 ≤ (↑(List.length w0_0) : Int) ∧
                                                        (0 : Int) ≤ (0 : Int) ∧
                                                          (0 : Int) ≤ n2 ∧
                                                            n2 ≤ (↑(List.length w0_1) : Int) ∧
                                                              ∃ b31,
                                                                Good PG nG G0 f_slices_Equal_Entry
                                                                    [AV.sl (2 : Nat) nlw0_0 none (List.drop (0 : Nat) (List.take (Int.toNat n2) w0_0)), AV.sl (2 : Nat) nlw0_1 none (List.drop (0 : Nat) (List.take (Int.toNat n2) w0_1))] []
                                                                    (AV.bool b31) [] ∧
                                                                  ifK (!b31) (R (AV.bool false) [])
                                                                    (ifK (decide (n2 < if (↑(List.length w0_1) : Int) < (↑(List.length w0_0) : Int) then (↑(List.length w0_1) : Int) else (↑(List.length w0_0) : Int)))
                                                                      ((0 : Int) ≤ n2 ∧
                                                                        ∃ n32 s33,
                                                                          w0_0[Int.toNat n2]? = some [AV.int Go.IntKind.i64 n32, AV.str s33] ∧
                                                                            (0 : Int) ≤ n2 ∧
                                                                              ∃ n34 s35,
                                                                                w0_1[Int.toNat n2]? = some [AV.int Go.IntKind.i64 n34, AV.str s35] ∧
                                                                                  ifK (eqAll [AV.int Go.IntKind.i64 n32, AV.str s33] [AV.int Go.IntKind.i64 n34, AV.str s35]) (R (AV.bool false) [])
                                                                                    (ifK (n4 != (0 : Int)) (ifK (n1 == n4) (R (AV.bool !b0) []) (R (AV.bool false) []))
                                                                                      ((0 : Int) ≤ who1 ∧
                                                                                        ∃ n36 s37 s38 b39,
                                                                                          w0_2[Int.toNat who1]? = some [AV.int Go.IntKind.i64 n36, AV.str s37, AV.str s38, AV.bool b39] ∧
                                                                                            (0 : Int) ≤ side2 ∧
                                                                                              side2 < (2 : Int) ∧
                                                                                                ifK (side2 == (0 : Int))
                                                                                                  (ifK (eqAll [AV.int Go.IntKind.i64 n36, AV.str s37, AV.str s38] [AV.int Go.IntKind.i64 (0 : Int), AV.str [], AV.str []])
                                                                                                    (ifK (n1 == (0 : Int)) (R (AV.bool (b0 == true)) []) (R (AV.bool false) []))
                                                                                                    (ifK (decide (n36 ≤ (↑(List.length w0_0) : Int)))
                                                                                                      ((0 : Int) ≤ (0 : Int) ∧
                                                                                                        (0 : Int) ≤ n36 ∧
                                                                                                          n36 ≤ (↑(List.length w0_0) : Int) ∧
                                                                                                            ∃ n40 s41 s42 n43,
                                                                                                              Good PG nG G0 f_greatsealref_HeadOf [AV.agg [AV.sl (2 : Nat) nlw0_0 none (List.drop (0 : Nat) (List.take (Int.toNat n36) w0_0))]] []
                                                                                                                  (AV.tup [AV.agg [AV.int Go.IntKind.i64 n40, AV.str s41, AV.str s42], AV.int Go.IntKind.i64 n43]) [] ∧
                                                                                                                ifK (n1 == (0 : Int))
                                                                                                                  (R
                                                                                                                    (AV.bool
                                                                                                                      (b0 == eqAll [AV.int Go.IntKind.i64 n40, AV.str s41, AV.str s42] [AV.int Go.IntKind.i64 n36, AV.str s37, AV.str s38]))
                                                                                                                    [])
                                                                                                                  (R (AV.bool false) []))
                                                                                                      (ifK (n1 == (0 : Int)) (R (AV.bool (b0 == false)) []) (R (AV.bool false) []))))
                                                                                                  (ifK (eqAll [AV.int Go.IntKind.i64 n36, AV.str s37, AV.str s38] [AV.int Go.IntKind.i64 (0 : Int), AV.str [], AV.str []])
                                                                                                    (ifK (n1 == (0 : Int)) (R (AV.bool (b0 == true)) []) (R (AV.bool false) []))
                                                                                                    (ifK (decide (n36 ≤ (↑(List.length w0_1) : Int)))
                                                                                                      ((0 : Int) ≤ (0 : Int) ∧
                                                                                                        (0 : Int) ≤ n36 ∧
                                                                                                          n36 ≤ (↑(List.length w0_1) : Int) ∧
                                                                                                            ∃ n44 s45 s46 n47,
                                                                                                              Good PG nG G0 f_greatsealref_HeadOf [AV.agg [AV.sl (2 : Nat) nlw0_1 none (List.drop (0 : Nat) (List.take (Int.toNat n36) w0_1))]] []
                                                                                                                  (AV.tup [AV.agg [AV.int Go.IntKind.i64 n44, AV.str s45, AV.str s46], AV.int Go.IntKind.i64 n47]) [] ∧
                                                                                                                ifK (n1 == (0 : Int))
                                                                                                                  (R
                                                                                                                    (AV.bool
                                                                                                                      (b0 == eqAll [AV.int Go.IntKind.i64 n44, AV.str s45, AV.str s46] [AV.int Go.IntKind.i64 n36, AV.str s37, AV.str s38]))
                                                                                                                    [])
                                                                                                                  (R (AV.bool false) []))
                                                                                                      (ifK (n1 == (0 : Int)) (R (AV.bool (b0 == false)) []) (R (AV.bool false) [])))))))
                                                                      (ifK (n4 != (0 : Int)) (ifK (n1 == n4) (R (AV.bool !b0) []) (R (AV.bool false) []))
                                                                        ((0 : Int) ≤ who1 ∧
                                                                          ∃ n48 s49 s50 b51,
                                                                            w0_2[Int.toNat who1]? = some [AV.int Go.IntKind.i64 n48, AV.str s49, AV.str s50, AV.bool b51] ∧
                                                                              (0 : Int) ≤ side2 ∧
                                                                                side2 < (2 : Int) ∧
                                                                                  ifK (side2 == (0 : Int))
                                                                                    (ifK (eqAll [AV.int Go.IntKind.i64 n48, AV.str s49, AV.str s50] [AV.int Go.IntKind.i64 (0 : Int), AV.str [], AV.str []])
                                                                                      (ifK (n1 == (0 : Int)) (R (AV.bool (b0 == true)) []) (R (AV.bool false) []))
                                                                                      (ifK (decide (n48 ≤ (↑(List.length w0_0) : Int)))
                                                                                        ((0 : Int) ≤ (0 : Int) ∧
                                                                                          (0 : Int) ≤ n48 ∧
                                                                                            n48 ≤ (↑(List.length w0_0) : Int) ∧
                                                                                              ∃ n52 s53 s54 n55,
                                                                                                Good PG nG G0 f_greatsealref_HeadOf [AV.agg [AV.sl (2 : Nat) nlw0_0 none (List.drop (0 : Nat) (List.take (Int.toNat n48) w0_0))]] []
                                                                                                    (AV.tup [AV.agg [AV.int Go.IntKind.i64 n52, AV.str s53, AV.str s54], AV.int Go.IntKind.i64 n55]) [] ∧
                                                                                                  ifK (n1 == (0 : Int))
                                                                                                    (R (AV.bool (b0 == eqAll [AV.int Go.IntKind.i64 n52, AV.str s53, AV.str s54] [AV.int Go.IntKind.i64 n48, AV.str s49, AV.str s50])) [])
                                                                                                    (R (AV.bool false) []))
                                                                                        (ifK (n1 == (0 : Int)) (R (AV.bool (b0 == false)) []) (R (AV.bool false) []))))
                                                                                    (ifK (eqAll [AV.int Go.IntKind.i64 n48, AV.str s49, AV.str s50] [AV.int Go.IntKind.i64 (0 : Int), AV.str [], AV.str []])
                                                                                      (ifK (n1 == (0 : Int)) (R (AV.bool (b0 == true)) []) (R (AV.bool false) []))
                                                                                      (ifK (decide (n48 ≤ (↑(List.length w0_1) : Int)))
                                                                                        ((0 : Int) ≤ (0 : Int) ∧
                                                                                          (0 : Int) ≤ n48 ∧
                                                                                            n48 ≤ (↑(List.length w0_1) : Int) ∧
                                                                                              ∃ n56 s57 s58 n59,
                                                                                                Good PG nG G0 f_greatsealref_HeadOf [AV.agg [AV.sl (2 : Nat) nlw0_1 none (List.drop (0 : Nat) (List.take (Int.toNat n48) w0_1))]] []
                                                                                                    (AV.tup [AV.agg [AV.int Go.IntKind.i64 n56, AV.str s57, AV.str s58], AV.int Go.IntKind.i64 n59]) [] ∧
                                                                                                  ifK (n1 == (0 : Int))
                                                                                                    (R (AV.bool (b0 == eqAll [AV.int Go.IntKind.i64 n56, AV.str s57, AV.str s58] [AV.int Go.IntKind.i64 n48, AV.str s49, AV.str s50])) [])
                                                                                                    (R (AV.bool false) []))
                                                                                        (ifK (n1 == (0 : Int)) (R (AV.bool (b0 == false)) []) (R (AV.bool false) [])))))))))
                                        (ifK (n4 != (0 : Int)) (ifK (n1 == n4) (R (AV.bool !b0) []) (R (AV.bool false) []))
                                          ((0 : Int) ≤ who1 ∧
                                            ∃ n60 s61 s62 b63,
                                              w0_2[Int.toNat who1]? = some [AV.int Go.IntKind.i64 n60, AV.str s61, AV.str s62, AV.bool b63] ∧
                                                (0 : Int) ≤ side2 ∧
                                                  side2 < (2 : Int) ∧
                                                    ifK (side2 == (0 : Int))
                                                      (ifK (eqAll [AV.int Go.IntKind.i64 n60, AV.str s61, AV.str s62] [AV.int Go.IntKind.i64 (0 : Int), AV.str [], AV.str []])
                                                        (ifK (n1 == (0 : Int)) (R (AV.bool (b0 == true)) []) (R (AV.bool false) []))
                                                        (ifK (decide (n60 ≤ (↑(List.length w0_0) : Int)))
                                                          ((0 : Int) ≤ (0 : Int) ∧
                                                            (0 : Int) ≤ n60 ∧
                                                              n60 ≤ (↑(List.length w0_0) : Int) ∧
                                                                ∃ n64 s65 s66 n67,
                                                                  Good PG nG G0 f_greatsealref_HeadOf [AV.agg [AV.sl (2 : Nat) nlw0_0 none (List.drop (0 : Nat) (List.take (Int.toNat n60) w0_0))]] []
                                                                      (AV.tup [AV.agg [AV.int Go.IntKind.i64 n64, AV.str s65, AV.str s66], AV.int Go.IntKind.i64 n67]) [] ∧
                                                                    ifK (n1 == (0 : Int)) (R (AV.bool (b0 == eqAll [AV.int Go.IntKind.i64 n64, AV.str s65, AV.str s66] [AV.int Go.IntKind.i64 n60, AV.str s61, AV.str s62])) [])
                                                                      (R (AV.bool false) []))
                                                          (ifK (n1 == (0 : Int)) (R (AV.bool (b0 == false)) []) (R (AV.bool false) []))))
                                                      (ifK (eqAll [AV.int Go.IntKind.i64 n60, AV.str s61, AV.str s62] [AV.int Go.IntKind.i64 (0 : Int), AV.str [], AV.str []])
                                                        (ifK (n1 == (0 : Int)) (R (AV.bool (b0 == true)) []) (R (AV.bool false) []))
                                                        (ifK (decide (n60 ≤ (↑(List.length w0_1) : Int)))
                                                          ((0 : Int) ≤ (0 : Int) ∧
                                                            (0 : Int) ≤ n60 ∧
                                                              n60 ≤ (↑(List.length w0_1) : Int) ∧
                                                                ∃ n68 s69 s70 n71,
                                                                  Good PG nG G0 f_greatsealref_HeadOf [AV.agg [AV.sl (2 : Nat) nlw0_1 none (List.drop (0 : Nat) (List.take (Int.toNat n60) w0_1))]] []
                                                                      (AV.tup [AV.agg [AV.int Go.IntKind.i64 n68, AV.str s69, AV.str s70], AV.int Go.IntKind.i64 n71]) [] ∧
                                                                    ifK (n1 == (0 : Int)) (R (AV.bool (b0 == eqAll [AV.int Go.IntKind.i64 n68, AV.str s69, AV.str s70] [AV.int Go.IntKind.i64 n60, AV.str s61, AV.str s62])) [])
                                                                      (R (AV.bool false) []))
                                                          (ifK (n1 == (0 : Int)) (R (AV.bool (b0 == false)) []) (R (AV.bool false) [])))))))))))
                          (∃ n72,
                            Good PG nG G0 f_greatsealref_CheckWorld [AV.agg [AV.sl (2 : Nat) nlw0_0 none w0_0, AV.sl (2 : Nat) nlw0_1 none w0_1, AV.sl (4 : Nat) nlw0_2 none w0_2]] [] (AV.int Go.IntKind.i64 n72) [] ∧
                              ifK (n72 == (0 : Int))
                                ((0 : Int) ≤ (0 : Int) ∧
                                  (0 : Int) < (2 : Int) ∧
                                    (0 : Int) ≤ (1 : Int) ∧
                                      (1 : Int) < (2 : Int) ∧
                                        ifK (decide (n2 > if (↑(List.length w0_1) : Int) < (↑(List.length w0_0) : Int) then (↑(List.length w0_1) : Int) else (↑(List.length w0_0) : Int))) (R (AV.bool false) [])
                                          ((0 : Int) ≤ (0 : Int) ∧
                                            (0 : Int) ≤ n2 ∧
                                              n2 ≤ (↑(List.length w0_0) : Int) ∧
                                                (0 : Int) ≤ (0 : Int) ∧
                                                  (0 : Int) ≤ n2 ∧
                                                    n2 ≤ (↑(List.length w0_1) : Int) ∧
                                                      ∃ b73,
                                                        Good PG nG G0 f_slices_Equal_Entry
                                                            [AV.sl (2 : Nat) nlw0_0 none (List.drop (0 : Nat) (List.take (Int.toNat n2) w0_0)), AV.sl (2 : Nat) nlw0_1 none (List.drop (0 : Nat) (List.take (Int.toNat n2) w0_1))] []
                                                            (AV.bool b73) [] ∧
                                                          ifK (!b73) (R (AV.bool false) [])
                                                            (ifK (decide (n2 < if (↑(List.length w0_1) : Int) < (↑(List.length w0_0) : Int) then (↑(List.length w0_1) : Int) else (↑(List.length w0_0) : Int)))
                                                              ((0 : Int) ≤ n2 ∧
                                                                ∃ n74 s75,
                                                                  w0_0[Int.toNat n2]? = some [AV.int Go.IntKind.i64 n74, AV.str s75] ∧
                                                                    (0 : Int) ≤ n2 ∧
                                                                      ∃ n76 s77,
                                                                        w0_1[Int.toNat n2]? = some [AV.int Go.IntKind.i64 n76, AV.str s77] ∧
                                                                          ifK (eqAll [AV.int Go.IntKind.i64 n74, AV.str s75] [AV.int Go.IntKind.i64 n76, AV.str s77]) (R (AV.bool false) [])
                                                                            (ifK (n4 != (0 : Int)) (ifK (n1 == n4) (R (AV.bool !b0) []) (R (AV.bool false) []))
                                                                              ((0 : Int) ≤ who1 ∧
                                                                                ∃ n78 s79 s80 b81,
                                                                                  w0_2[Int.toNat who1]? = some [AV.int Go.IntKind.i64 n78, AV.str s79, AV.str s80, AV.bool b81] ∧
                                                                                    (0 : Int) ≤ side2 ∧
                                                                                      side2 < (2 : Int) ∧
                                                                                        ifK (side2 == (0 : Int))
                                                                                          (ifK (eqAll [AV.int Go.IntKind.i64 n78, AV.str s79, AV.str s80] [AV.int Go.IntKind.i64 (0 : Int), AV.str [], AV.str []])
                                                                                            (ifK (n1 == (0 : Int)) (R (AV.bool (b0 == true)) []) (R (AV.bool false) []))
                                                                                            (ifK (decide (n78 ≤ (↑(List.length w0_0) : Int)))
                                                                                              ((0 : Int) ≤ (0 : Int) ∧
                                                                                                (0 : Int) ≤ n78 ∧
                                                                                                  n78 ≤ (↑(List.length w0_0) : Int) ∧
                                                                                                    ∃ n82 s83 s84 n85,
                                                                                                      Good PG nG G0 f_greatsealref_HeadOf [AV.agg [AV.sl (2 : Nat) nlw0_0 none (List.drop (0 : Nat) (List.take (Int.toNat n78) w0_0))]] []
                                                                                                          (AV.tup [AV.agg [AV.int Go.IntKind.i64 n82, AV.str s83, AV.str s84], AV.int Go.IntKind.i64 n85]) [] ∧
                                                                                                        ifK (n1 == (0 : Int))
                                                                                                          (R (AV.bool (b0 == eqAll [AV.int Go.IntKind.i64 n82, AV.str s83, AV.str s84] [AV.int Go.IntKind.i64 n78, AV.str s79, AV.str s80])) [])
                                                                                                          (R (AV.bool false) []))
                                                                                              (ifK (n1 == (0 : Int)) (R (AV.bool (b0 == false)) []) (R (AV.bool false) []))))
                                                                                          (ifK (eqAll [AV.int Go.IntKind.i64 n78, AV.str s79, AV.str s80] [AV.int Go.IntKind.i64 (0 : Int), AV.str [], AV.str []])
                                                                                            (ifK (n1 == (0 : Int)) (R (AV.bool (b0 == true)) []) (R (AV.bool false) []))
                                                                                            (ifK (decide (n78 ≤ (↑(List.length w0_1) : Int)))
                                                                                              ((0 : Int) ≤ (0 : Int) ∧
                                                                                                (0 : Int) ≤ n78 ∧
                                                                                                  n78 ≤ (↑(List.length w0_1) : Int) ∧
                                                                                                    ∃ n86 s87 s88 n89,
                                                                                                      Good PG nG G0 f_greatsealref_HeadOf [AV.agg [AV.sl (2 : Nat) nlw0_1 none (List.drop (0 : Nat) (List.take (Int.toNat n78) w0_1))]] []
                                                                                                          (AV.tup [AV.agg [AV.int Go.IntKind.i64 n86, AV.str s87, AV.str s88], AV.int Go.IntKind.i64 n89]) [] ∧
                                                                                                        ifK (n1 == (0 : Int))
                                                                                                          (R (AV.bool (b0 == eqAll [AV.int Go.IntKind.i64 n86, AV.str s87, AV.str s88] [AV.int Go.IntKind.i64 n78, AV.str s79, AV.str s80])) [])
                                                                                                          (R (AV.bool false) []))
                                                                                              (ifK (n1 == (0 : Int)) (R (AV.bool (b0 == false)) []) (R (AV.bool false) [])))))))
                                                              (ifK (n4 != (0 : Int)) (ifK (n1 == n4) (R (AV.bool !b0) []) (R (AV.bool false) []))
                                                                ((0 : Int) ≤ who1 ∧
                                                                  ∃ n90 s91 s92 b93,
                                                                    w0_2[Int.toNat who1]? = some [AV.int Go.IntKind.i64 n90, AV.str s91, AV.str s92, AV.bool b93] ∧
                                                                      (0 : Int) ≤ side2 ∧
                                                                        side2 < (2 : Int) ∧
                                                                          ifK (side2 == (0 : Int))
                                                                            (ifK (eqAll [AV.int Go.IntKind.i64 n90, AV.str s91, AV.str s92] [AV.int Go.IntKind.i64 (0 : Int), AV.str [], AV.str []])
                                                                              (ifK (n1 == (0 : Int)) (R (AV.bool (b0 == true)) []) (R (AV.bool false) []))
                                                                              (ifK (decide (n90 ≤ (↑(List.length w0_0) : Int)))
                                                                                ((0 : Int) ≤ (0 : Int) ∧
                                                                                  (0 : Int) ≤ n90 ∧
                                                                                    n90 ≤ (↑(List.length w0_0) : Int) ∧
                                                                                      ∃ n94 s95 s96 n97,
                                                                                        Good PG nG G0 f_greatsealref_HeadOf [AV.agg [AV.sl (2 : Nat) nlw0_0 none (List.drop (0 : Nat) (List.take (Int.toNat n90) w0_0))]] []
                                                                                            (AV.tup [AV.agg [AV.int Go.IntKind.i64 n94, AV.str s95, AV.str s96], AV.int Go.IntKind.i64 n97]) [] ∧
                                                                                          ifK (n1 == (0 : Int))
                                                                                            (R (AV.bool (b0 == eqAll [AV.int Go.IntKind.i64 n94, AV.str s95, AV.str s96] [AV.int Go.IntKind.i64 n90, AV.str s91, AV.str s92])) [])
                                                                                            (R (AV.bool false) []))
                                                                                (ifK (n1 == (0 : Int)) (R (AV.bool (b0 == false)) []) (R (AV.bool false) []))))
                                                                            (ifK (eqAll [AV.int Go.IntKind.i64 n90, AV.str s91, AV.str s92] [AV.int Go.IntKind.i64 (0 : Int), AV.str [], AV.str []])
                                                                              (ifK (n1 == (0 : Int)) (R (AV.bool (b0 == true)) []) (R (AV.bool false) []))
                                                                              (ifK (decide (n90 ≤ (↑(List.length w0_1) : Int)))
                                                                                ((0 : Int) ≤ (0 : Int) ∧
                                                                                  (0 : Int) ≤ n90 ∧
                                                                                    n90 ≤ (↑(List.length w0_1) : Int) ∧
                                                                                      ∃ n98 s99 s100 n101,
                                                                                        Good PG nG G0 f_greatsealref_HeadOf [AV.agg [AV.sl (2 : Nat) nlw0_1 none (List.drop (0 : Nat) (List.take (Int.toNat n90) w0_1))]] []
                                                                                            (AV.tup [AV.agg [AV.int Go.IntKind.i64 n98, AV.str s99, AV.str s100], AV.int Go.IntKind.i64 n101]) [] ∧
                                                                                          ifK (n1 == (0 : Int))
                                                                                            (R (AV.bool (b0 == eqAll [AV.int Go.IntKind.i64 n98, AV.str s99, AV.str s100] [AV.int Go.IntKind.i64 n90, AV.str s91, AV.str s92])) [])
                                                                                            (R (AV.bool false) []))
                                                                                (ifK (n1 == (0 : Int)) (R (AV.bool (b0 == false)) []) (R (AV.bool false) [])))))))))
                                (ifK (n4 != (0 : Int)) (ifK (n1 == n4) (R (AV.bool !b0) []) (R (AV.bool false) []))
                                  ((0 : Int) ≤ who1 ∧
                                    ∃ n102 s103 s104 b105,
                                      w0_2[Int.toNat who1]? = some [AV.int Go.IntKind.i64 n102, AV.str s103, AV.str s104, AV.bool b105] ∧
                                        (0 : Int) ≤ side2 ∧
                                          side2 < (2 : Int) ∧
                                            ifK (side2 == (0 : Int))
                                              (ifK (eqAll [AV.int Go.IntKind.i64 n102, AV.str s103, AV.str s104] [AV.int Go.IntKind.i64 (0 : Int), AV.str [], AV.str []])
                                                (ifK (n1 == (0 : Int)) (R (AV.bool (b0 == true)) []) (R (AV.bool false) []))
                                                (ifK (decide (n102 ≤ (↑(List.length w0_0) : Int)))
                                                  ((0 : Int) ≤ (0 : Int) ∧
                                                    (0 : Int) ≤ n102 ∧
                                                      n102 ≤ (↑(List.length w0_0) : Int) ∧
                                                        ∃ n106 s107 s108 n109,
                                                          Good PG nG G0 f_greatsealref_HeadOf [AV.agg [AV.sl (2 : Nat) nlw0_0 none (List.drop (0 : Nat) (List.take (Int.toNat n102) w0_0))]] []
                                                              (AV.tup [AV.agg [AV.int Go.IntKind.i64 n106, AV.str s107, AV.str s108], AV.int Go.IntKind.i64 n109]) [] ∧
                                                            ifK (n1 == (0 : Int)) (R (AV.bool (b0 == eqAll [AV.int Go.IntKind.i64 n106, AV.str s107, AV.str s108] [AV.int Go.IntKind.i64 n102, AV.str s103, AV.str s104])) [])
                                                              (R (AV.bool false) []))
                                                  (ifK (n1 == (0 : Int)) (R (AV.bool (b0 == false)) []) (R (AV.bool false) []))))
                                              (ifK (eqAll [AV.int Go.IntKind.i64 n102, AV.str s103, AV.str s104] [AV.int Go.IntKind.i64 (0 : Int), AV.str [], AV.str []])
                                                (ifK (n1 == (0 : Int)) (R (AV.bool (b0 == true)) []) (R (AV.bool false) []))
                                                (ifK (decide (n102 ≤ (↑(List.length w0_1) : Int)))
                                                  ((0 : Int) ≤ (0 : Int) ∧
                                                    (0 : Int) ≤ n102 ∧
                                                      n102 ≤ (↑(List.length w0_1) : Int) ∧
                                                        ∃ n110 s111 s112 n113,
                                                          Good PG nG G0 f_greatsealref_HeadOf [AV.agg [AV.sl (2 : Nat) nlw0_1 none (List.drop (0 : Nat) (List.take (Int.toNat n102) w0_1))]] []
                                                              (AV.tup [AV.agg [AV.int Go.IntKind.i64 n110, AV.str s111, AV.str s112], AV.int Go.IntKind.i64 n113]) [] ∧
                                                            ifK (n1 == (0 : Int)) (R (AV.bool (b0 == eqAll [AV.int Go.IntKind.i64 n110, AV.str s111, AV.str s112] [AV.int Go.IntKind.i64 n102, AV.str s103, AV.str s104])) [])
                                                              (R (AV.bool false) []))
                                                  (ifK (n1 == (0 : Int)) (R (AV.bool (b0 == false)) []) (R (AV.bool false) [])))))))))
                      (ifK (n4 == (0 : Int))
                        (ifK (decide (who1 < (0 : Int)))
                          (∃ n114,
                            Good PG nG G0 f_greatsealref_CheckWorld [AV.agg [AV.sl (2 : Nat) nlw0_0 none w0_0, AV.sl (2 : Nat) nlw0_1 none w0_1, AV.sl (4 : Nat) nlw0_2 none w0_2]] [] (AV.int Go.IntKind.i64 n114) [] ∧
                              ifK (n114 == (0 : Int))
                                ((0 : Int) ≤ (0 : Int) ∧
                                  (0 : Int) < (2 : Int) ∧
                                    (0 : Int) ≤ (1 : Int) ∧
                                      (1 : Int) < (2 : Int) ∧
                                        ifK (decide (n2 > if (↑(List.length w0_1) : Int) < (↑(List.length w0_0) : Int) then (↑(List.length w0_1) : Int) else (↑(List.length w0_0) : Int))) (R (AV.bool false) [])
                                          ((0 : Int) ≤ (0 : Int) ∧
                                            (0 : Int) ≤ n2 ∧
                                              n2 ≤ (↑(List.length w0_0) : Int) ∧
                                                (0 : Int) ≤ (0 : Int) ∧
                                                  (0 : Int) ≤ n2 ∧
                                                    n2 ≤ (↑(List.length w0_1) : Int) ∧
                                                      ∃ b115,
                                                        Good PG nG G0 f_slices_Equal_Entry
                                                            [AV.sl (2 : Nat) nlw0_0 none (List.drop (0 : Nat) (List.take (Int.toNat n2) w0_0)), AV.sl (2 : Nat) nlw0_1 none (List.drop (0 : Nat) (List.take (Int.toNat n2) w0_1))] []
                                                            (AV.bool b115) [] ∧
                                                          ifK (!b115) (R (AV.bool false) [])
                                                            (ifK (decide (n2 < if (↑(List.length w0_1) : Int) < (↑(List.length w0_0) : Int) then (↑(List.length w0_1) : Int) else (↑(List.length w0_0) : Int)))
                                                              ((0 : Int) ≤ n2 ∧
                                                                ∃ n116 s117,
                                                                  w0_0[Int.toNat n2]? = some [AV.int Go.IntKind.i64 n116, AV.str s117] ∧
                                                                    (0 : Int) ≤ n2 ∧
                                                                      ∃ n118 s119,
                                                                        w0_1[Int.toNat n2]? = some [AV.int Go.IntKind.i64 n118, AV.str s119] ∧
                                                                          ifK (eqAll [AV.int Go.IntKind.i64 n116, AV.str s117] [AV.int Go.IntKind.i64 n118, AV.str s119]) (R (AV.bool false) [])
                                                                            (ifK (n1 == (5 : Int)) (R (AV.bool !b0) []) (R (AV.bool false) [])))
                                                              (ifK (n1 == (5 : Int)) (R (AV.bool !b0) []) (R (AV.bool false) [])))))
                                (ifK (n1 == (5 : Int)) (R (AV.bool !b0) []) (R (AV.bool false) [])))
                          (ifK (decide (who1 > (2 : Int)))
                            (∃ n120,
                              Good PG nG G0 f_greatsealref_CheckWorld [AV.agg [AV.sl (2 : Nat) nlw0_0 none w0_0, AV.sl (2 : Nat) nlw0_1 none w0_1, AV.sl (4 : Nat) nlw0_2 none w0_2]] [] (AV.int Go.IntKind.i64 n120) [] ∧
                                ifK (n120 == (0 : Int))
                                  ((0 : Int) ≤ (0 : Int) ∧
                                    (0 : Int) < (2 : Int) ∧
                                      (0 : Int) ≤ (1 : Int) ∧
                                        (1 : Int) < (2 : Int) ∧
                                          ifK (decide (n2 > if (↑(List.length w0_1) : Int) < (↑(List.length w0_0) : Int) then (↑(List.length w0_1) : Int) else (↑(List.length w0_0) : Int))) (R (AV.bool false) [])
                                            ((0 : Int) ≤ (0 : Int) ∧
                                              (0 : Int) ≤ n2 ∧
                                                n2 ≤ (↑(List.length w0_0) : Int) ∧
                                                  (0 : Int) ≤ (0 : Int) ∧
                                                    (0 : Int) ≤ n2 ∧
                                                      n2 ≤ (↑(List.length w0_1) : Int) ∧
                                                        ∃ b121,
                                                          Good PG nG G0 f_slices_Equal_Entry
                                                              [AV.sl (2 : Nat) nlw0_0 none (List.drop (0 : Nat) (List.take (Int.toNat n2) w0_0)), AV.sl (2 : Nat) nlw0_1 none (List.drop (0 : Nat) (List.take (Int.toNat n2) w0_1))] []
                                                              (AV.bool b121) [] ∧
                                                            ifK (!b121) (R (AV.bool false) [])
                                                              (ifK (decide (n2 < if (↑(List.length w0_1) : Int) < (↑(List.length w0_0) : Int) then (↑(List.length w0_1) : Int) else (↑(List.length w0_0) : Int)))
                                                                ((0 : Int) ≤ n2 ∧
                                                                  ∃ n122 s123,
                                                                    w0_0[Int.toNat n2]? = some [AV.int Go.IntKind.i64 n122, AV.str s123] ∧
                                                                      (0 : Int) ≤ n2 ∧
                                                                        ∃ n124 s125,
                                                                          w0_1[Int.toNat n2]? = some [AV.int Go.IntKind.i64 n124, AV.str s125] ∧
                                                                            ifK (eqAll [AV.int Go.IntKind.i64 n122, AV.str s123] [AV.int Go.IntKind.i64 n124, AV.str s125]) (R (AV.bool false) [])
                                                                              (ifK (n1 == (5 : Int)) (R (AV.bool !b0) []) (R (AV.bool false) [])))
                                                                (ifK (n1 == (5 : Int)) (R (AV.bool !b0) []) (R (AV.bool false) [])))))
                                  (ifK (n1 == (5 : Int)) (R (AV.bool !b0) []) (R (AV.bool false) [])))
                            (ifK (decide (side2 < (0 : Int)))
                              (∃ n126,
                                Good PG nG G0 f_greatsealref_CheckWorld [AV.agg [AV.sl (2 : Nat) nlw0_0 none w0_0, AV.sl (2 : Nat) nlw0_1 none w0_1, AV.sl (4 : Nat) nlw0_2 none w0_2]] [] (AV.int Go.IntKind.i64 n126) [] ∧
                                  ifK (n126 == (0 : Int))
                                    ((0 : Int) ≤ (0 : Int) ∧
                                      (0 : Int) < (2 : Int) ∧
                                        (0 : Int) ≤ (1 : Int) ∧
                                          (1 : Int) < (2 : Int) ∧
                                            ifK (decide (n2 > if (↑(List.length w0_1) : Int) < (↑(List.length w0_0) : Int) then (↑(List.length w0_1) : Int) else (↑(List.length w0_0) : Int))) (R (AV.bool false) [])
                                              ((0 : Int) ≤ (0 : Int) ∧
                                                (0 : Int) ≤ n2 ∧
                                                  n2 ≤ (↑(List.length w0_0) : Int) ∧
                                                    (0 : Int) ≤ (0 : Int) ∧
                                                      (0 : Int) ≤ n2 ∧
                                                        n2 ≤ (↑(List.length w0_1) : Int) ∧
                                                          ∃ b127,
                                                            Good PG nG G0 f_slices_Equal_Entry
                                                                [AV.sl (2 : Nat) nlw0_0 none (List.drop (0 : Nat) (List.take (Int.toNat n2) w0_0)), AV.sl (2 : Nat) nlw0_1 none (List.drop (0 : Nat) (List.take (Int.toNat n2) w0_1))] []
                                                                (AV.bool b127) [] ∧
                                                              ifK (!b127) (R (AV.bool false) [])
                                                                (ifK (decide (n2 < if (↑(List.length w0_1) : Int) < (↑(List.length w0_0) : Int) then (↑(List.length w0_1) : Int) else (↑(List.length w0_0) : Int)))
                                                                  ((0 : Int) ≤ n2 ∧
                                                                    ∃ n128 s129,
                                                                      w0_0[Int.toNat n2]? = some [AV.int Go.IntKind.i64 n128, AV.str s129] ∧
                                                                        (0 : Int) ≤ n2 ∧
                                                                          ∃ n130 s131,
                                                                            w0_1[Int.toNat n2]? = some [AV.int Go.IntKind.i64 n130, AV.str s131] ∧
                                                                              ifK (eqAll [AV.int Go.IntKind.i64 n128, AV.str s129] [AV.int Go.IntKind.i64 n130, AV.str s131]) (R (AV.bool false) [])
                                                                                (ifK (n1 == (5 : Int)) (R (AV.bool !b0) []) (R (AV.bool false) [])))
                                                                  (ifK (n1 == (5 : Int)) (R (AV.bool !b0) []) (R (AV.bool false) [])))))
                                    (ifK (n1 == (5 : Int)) (R (AV.bool !b0) []) (R (AV.bool false) [])))
                              (ifK (decide (side2 > (1 : Int)))
                                (∃ n132,
                                  Good PG nG G0 f_greatsealref_CheckWorld [AV.agg [AV.sl (2 : Nat) nlw0_0 none w0_0, AV.sl (2 : Nat) nlw0_1 none w0_1, AV.sl (4 : Nat) nlw0_2 none w0_2]] [] (AV.int Go.IntKind.i64 n132) [] ∧
                                    ifK (n132 == (0 : Int))
                                      ((0 : Int) ≤ (0 : Int) ∧
                                        (0 : Int) < (2 : Int) ∧
                                          (0 : Int) ≤ (1 : Int) ∧
                                            (1 : Int) < (2 : Int) ∧
                                              ifK (decide (n2 > if (↑(List.length w0_1) : Int) < (↑(List.length w0_0) : Int) then (↑(List.length w0_1) : Int) else (↑(List.length w0_0) : Int))) (R (AV.bool false) [])
                                                ((0 : Int) ≤ (0 : Int) ∧
                                                  (0 : Int) ≤ n2 ∧
                                                    n2 ≤ (↑(List.length w0_0) : Int) ∧
                                                      (0 : Int) ≤ (0 : Int) ∧
                                                        (0 : Int) ≤ n2 ∧
                                                          n2 ≤ (↑(List.length w0_1) : Int) ∧
                                                            ∃ b133,
                                                              Good PG nG G0 f_slices_Equal_Entry
                                                                  [AV.sl (2 : Nat) nlw0_0 none (List.drop (0 : Nat) (List.take (Int.toNat n2) w0_0)), AV.sl (2 : Nat) nlw0_1 none (List.drop (0 : Nat) (List.take (Int.toNat n2) w0_1))] []
                                                                  (AV.bool b133) [] ∧
                                                                ifK (!b133) (R (AV.bool false) [])
                                                                  (ifK (decide (n2 < if (↑(List.length w0_1) : Int) < (↑(List.length w0_0) : Int) then (↑(List.length w0_1) : Int) else (↑(List.length w0_0) : Int)))
                                                                    ((0 : Int) ≤ n2 ∧
                                                                      ∃ n134 s135,
                                                                        w0_0[Int.toNat n2]? = some [AV.int Go.IntKind.i64 n134, AV.str s135] ∧
                                                                          (0 : Int) ≤ n2 ∧
                                                                            ∃ n136 s137,
                                                                              w0_1[Int.toNat n2]? = some [AV.int Go.IntKind.i64 n136, AV.str s137] ∧
                                                                                ifK (eqAll [AV.int Go.IntKind.i64 n134, AV.str s135] [AV.int Go.IntKind.i64 n136, AV.str s137]) (R (AV.bool false) [])
                                                                                  (ifK (n1 == (5 : Int)) (R (AV.bool !b0) []) (R (AV.bool false) [])))
                                                                    (ifK (n1 == (5 : Int)) (R (AV.bool !b0) []) (R (AV.bool false) [])))))
                                      (ifK (n1 == (5 : Int)) (R (AV.bool !b0) []) (R (AV.bool false) [])))
                                (∃ n138,
                                  Good PG nG G0 f_greatsealref_CheckWorld [AV.agg [AV.sl (2 : Nat) nlw0_0 none w0_0, AV.sl (2 : Nat) nlw0_1 none w0_1, AV.sl (4 : Nat) nlw0_2 none w0_2]] [] (AV.int Go.IntKind.i64 n138) [] ∧
                                    ifK (n138 == (0 : Int))
                                      ((0 : Int) ≤ (0 : Int) ∧
                                        (0 : Int) < (2 : Int) ∧
                                          (0 : Int) ≤ (1 : Int) ∧
                                            (1 : Int) < (2 : Int) ∧
                                              ifK (decide (n2 > if (↑(List.length w0_1) : Int) < (↑(List.length w0_0) : Int) then (↑(List.length w0_1) : Int) else (↑(List.length w0_0) : Int))) (R (AV.bool false) [])
                                                ((0 : Int) ≤ (0 : Int) ∧
                                                  (0 : Int) ≤ n2 ∧
                                                    n2 ≤ (↑(List.length w0_0) : Int) ∧
                                                      (0 : Int) ≤ (0 : Int) ∧
                                                        (0 : Int) ≤ n2 ∧
                                                          n2 ≤ (↑(List.length w0_1) : Int) ∧
                                                            ∃ b139,
                                                              Good PG nG G0 f_slices_Equal_Entry
                                                                  [AV.sl (2 : Nat) nlw0_0 none (List.drop (0 : Nat) (List.take (Int.toNat n2) w0_0)), AV.sl (2 : Nat) nlw0_1 none (List.drop (0 : Nat) (List.take (Int.toNat n2) w0_1))] []
                                                                  (AV.bool b139) [] ∧
                                                                ifK (!b139) (R (AV.bool false) [])
                                                                  (ifK (decide (n2 < if (↑(List.length w0_1) : Int) < (↑(List.length w0_0) : Int) then (↑(List.length w0_1) : Int) else (↑(List.length w0_0) : Int)))
                                                                    ((0 : Int) ≤ n2 ∧
                                                                      ∃ n140 s141,
                                                                        w0_0[Int.toNat n2]? = some [AV.int Go.IntKind.i64 n140, AV.str s141] ∧
                                                                          (0 : Int) ≤ n2 ∧
                                                                            ∃ n142 s143,
                                                                              w0_1[Int.toNat n2]? = some [AV.int Go.IntKind.i64 n142, AV.str s143] ∧
                                                                                ifK (eqAll [AV.int Go.IntKind.i64 n140, AV.str s141] [AV.int Go.IntKind.i64 n142, AV.str s143]) (R (AV.bool false) [])
                                                                                  (ifK (n4 != (0 : Int)) (ifK (n1 == n4) (R (AV.bool !b0) []) (R (AV.bool false) []))
                                                                                    ((0 : Int) ≤ who1 ∧
                                                                                      ∃ n144 s145 s146 b147,
                                                                                        w0_2[Int.toNat who1]? = some [AV.int Go.IntKind.i64 n144, AV.str s145, AV.str s146, AV.bool b147] ∧
                                                                                          (0 : Int) ≤ side2 ∧
                                                                                            side2 < (2 : Int) ∧
                                                                                              ifK (side2 == (0 : Int))
                                                                                                (ifK (eqAll [AV.int Go.IntKind.i64 n144, AV.str s145, AV.str s146] [AV.int Go.IntKind.i64 (0 : Int), AV.str [], AV.str []])
                                                                                                  (ifK (n1 == (0 : Int)) (R (AV.bool (b0 == true)) []) (R (AV.bool false) []))
                                                                                                  (ifK (decide (n144 ≤ (↑(List.length w0_0) : Int)))
                                                                                                    ((0 : Int) ≤ (0 : Int) ∧
                                                                                                      (0 : Int) ≤ n144 ∧
                                                                                                        n144 ≤ (↑(List.length w0_0) : Int) ∧
                                                                                                          ∃ n148 s149 s150 n151,
                                                                                                            Good PG nG G0 f_greatsealref_HeadOf [AV.agg [AV.sl (2 : Nat) nlw0_0 none (List.drop (0 : Nat) (List.take (Int.toNat n144) w0_0))]] []
                                                                                                                (AV.tup [AV.agg [AV.int Go.IntKind.i64 n148, AV.str s149, AV.str s150], AV.int Go.IntKind.i64 n151]) [] ∧
                                                                                                              ifK (n1 == (0 : Int))
                                                                                                                (R
                                                                                                                  (AV.bool
                                                                                                                    (b0 == eqAll [AV.int Go.IntKind.i64 n148, AV.str s149, AV.str s150] [AV.int Go.IntKind.i64 n144, AV.str s145, AV.str s146]))
                                                                                                                  [])
                                                                                                                (R (AV.bool false) []))
                                                                                                    (ifK (n1 == (0 : Int)) (R (AV.bool (b0 == false)) []) (R (AV.bool false) []))))
                                                                                                (ifK (eqAll [AV.int Go.IntKind.i64 n144, AV.str s145, AV.str s146] [AV.int Go.IntKind.i64 (0 : Int), AV.str [], AV.str []])
                                                                                                  (ifK (n1 == (0 : Int)) (R (AV.bool (b0 == true)) []) (R (AV.bool false) []))
                                                                                                  (ifK (decide (n144 ≤ (↑(List.length w0_1) : Int)))
                                                                                                    ((0 : Int) ≤ (0 : Int) ∧
                                                                                                      (0 : Int) ≤ n144 ∧
                                                                                                        n144 ≤ (↑(List.length w0_1) : Int) ∧
                                                                                                          ∃ n152 s153 s154 n155,
                                                                                                            Good PG nG G0 f_greatsealref_HeadOf [AV.agg [AV.sl (2 : Nat) nlw0_1 none (List.drop (0 : Nat) (List.take (Int.toNat n144) w0_1))]] []
                                                                                                                (AV.tup [AV.agg [AV.int Go.IntKind.i64 n152, AV.str s153, AV.str s154], AV.int Go.IntKind.i64 n155]) [] ∧
                                                                                                              ifK (n1 == (0 : Int))
                                                                                                                (R
                                                                                                                  (AV.bool
                                                                                                                    (b0 == eqAll [AV.int Go.IntKind.i64 n152, AV.str s153, AV.str s154] [AV.int Go.IntKind.i64 n144, AV.str s145, AV.str s146]))
                                                                                                                  [])
                                                                                                                (R (AV.bool false) []))
                                                                                                    (ifK (n1 == (0 : Int)) (R (AV.bool (b0 == false)) []) (R (AV.bool false) [])))))))
                                                                    (ifK (n4 != (0 : Int)) (ifK (n1 == n4) (R (AV.bool !b0) []) (R (AV.bool false) []))
                                                                      ((0 : Int) ≤ who1 ∧
                                                                        ∃ n156 s157 s158 b159,
                                                                          w0_2[Int.toNat who1]? = some [AV.int Go.IntKind.i64 n156, AV.str s157, AV.str s158, AV.bool b159] ∧
                                                                            (0 : Int) ≤ side2 ∧
                                                                              side2 < (2 : Int) ∧
                                                                                ifK (side2 == (0 : Int))
                                                                                  (ifK (eqAll [AV.int Go.IntKind.i64 n156, AV.str s157, AV.str s158] [AV.int Go.IntKind.i64 (0 : Int), AV.str [], AV.str []])
                                                                                    (ifK (n1 == (0 : Int)) (R (AV.bool (b0 == true)) []) (R (AV.bool false) []))
                                                                                    (ifK (decide (n156 ≤ (↑(List.length w0_0) : Int)))
                                                                                      ((0 : Int) ≤ (0 : Int) ∧
                                                                                        (0 : Int) ≤ n156 ∧
                                                                                          n156 ≤ (↑(List.length w0_0) : Int) ∧
                                                                                            ∃ n160 s161 s162 n163,
                                                                                              Good PG nG G0 f_greatsealref_HeadOf [AV.agg [AV.sl (2 : Nat) nlw0_0 none (List.drop (0 : Nat) (List.take (Int.toNat n156) w0_0))]] []
                                                                                                  (AV.tup [AV.agg [AV.int Go.IntKind.i64 n160, AV.str s161, AV.str s162], AV.int Go.IntKind.i64 n163]) [] ∧
                                                                                                ifK (n1 == (0 : Int))
                                                                                                  (R (AV.bool (b0 == eqAll [AV.int Go.IntKind.i64 n160, AV.str s161, AV.str s162] [AV.int Go.IntKind.i64 n156, AV.str s157, AV.str s158])) [])
                                                                                                  (R (AV.bool false) []))
                                                                                      (ifK (n1 == (0 : Int)) (R (AV.bool (b0 == false)) []) (R (AV.bool false) []))))
                                                                                  (ifK (eqAll [AV.int Go.IntKind.i64 n156, AV.str s157, AV.str s158] [AV.int Go.IntKind.i64 (0 : Int), AV.str [], AV.str []])
                                                                                    (ifK (n1 == (0 : Int)) (R (AV.bool (b0 == true)) []) (R (AV.bool false) []))
                                                                                    (ifK (decide (n156 ≤ (↑(List.length w0_1) : Int)))
                                                                                      ((0 : Int) ≤ (0 : Int) ∧
                                                                                        (0 : Int) ≤ n156 ∧
                                                                                          n156 ≤ (↑(List.length w0_1) : Int) ∧
                                                                                            ∃ n164 s165 s166 n167,
                                                                                              Good PG nG G0 f_greatsealref_HeadOf [AV.agg [AV.sl (2 : Nat) nlw0_1 none (List.drop (0 : Nat) (List.take (Int.toNat n156) w0_1))]] []
                                                                                                  (AV.tup [AV.agg [AV.int Go.IntKind.i64 n164, AV.str s165, AV.str s166], AV.int Go.IntKind.i64 n167]) [] ∧
                                                                                                ifK (n1 == (0 : Int))
                                                                                                  (R (AV.bool (b0 == eqAll [AV.int Go.IntKind.i64 n164, AV.str s165, AV.str s166] [AV.int Go.IntKind.i64 n156, AV.str s157, AV.str s158])) [])
                                                                                                  (R (AV.bool false) []))
                                                                                      (ifK (n1 == (0 : Int)) (R (AV.bool (b0 == false)) []) (R (AV.bool false) [])))))))))
                                      (ifK (n4 != (0 : Int)) (ifK (n1 == n4) (R (AV.bool !b0) []) (R (AV.bool false) []))
                                        ((0 : Int) ≤ who1 ∧
                                          ∃ n168 s169 s170 b171,
                                            w0_2[Int.toNat who1]? = some [AV.int Go.IntKind.i64 n168, AV.str s169, AV.str s170, AV.bool b171] ∧
                                              (0 : Int) ≤ side2 ∧
                                                side2 < (2 : Int) ∧
                                                  ifK (side2 == (0 : Int))
                                                    (ifK (eqAll [AV.int Go.IntKind.i64 n168, AV.str s169, AV.str s170] [AV.int Go.IntKind.i64 (0 : Int), AV.str [], AV.str []])
                                                      (ifK (n1 == (0 : Int)) (R (AV.bool (b0 == true)) []) (R (AV.bool false) []))
                                                      (ifK (decide (n168 ≤ (↑(List.length w0_0) : Int)))
                                                        ((0 : Int) ≤ (0 : Int) ∧
                                                          (0 : Int) ≤ n168 ∧
                                                            n168 ≤ (↑(List.length w0_0) : Int) ∧
                                                              ∃ n172 s173 s174 n175,
                                                                Good PG nG G0 f_greatsealref_HeadOf [AV.agg [AV.sl (2 : Nat) nlw0_0 none (List.drop (0 : Nat) (List.take (Int.toNat n168) w0_0))]] []
                                                                    (AV.tup [AV.agg [AV.int Go.IntKind.i64 n172, AV.str s173, AV.str s174], AV.int Go.IntKind.i64 n175]) [] ∧
                                                                  ifK (n1 == (0 : Int)) (R (AV.bool (b0 == eqAll [AV.int Go.IntKind.i64 n172, AV.str s173, AV.str s174] [AV.int Go.IntKind.i64 n168, AV.str s169, AV.str s170])) [])
                                                                    (R (AV.bool false) []))
                                                        (ifK (n1 == (0 : Int)) (R (AV.bool (b0 == false)) []) (R (AV.bool false) []))))
                                                    (ifK (eqAll [AV.int Go.IntKind.i64 n168, AV.str s169, AV.str s170] [AV.int Go.IntKind.i64 (0 : Int), AV.str [], AV.str []])
                                                      (ifK (n1 == (0 : Int)) (R (AV.bool (b0 == true)) []) (R (AV.bool false) []))
                                                      (ifK (decide (n168 ≤ (↑(List.length w0_1) : Int)))
                                                        ((0 : Int) ≤ (0 : Int) ∧
                                                          (0 : Int) ≤ n168 ∧
                                                            n168 ≤ (↑(List.length w0_1) : Int) ∧
                                                              ∃ n176 s177 s178 n179,
                                                                Good PG nG G0 f_greatsealref_HeadOf [AV.agg [AV.sl (2 : Nat) nlw0_1 none (List.drop (0 : Nat) (List.take (Int.toNat n168) w0_1))]] []
                                                                    (AV.tup [AV.agg [AV.int Go.IntKind.i64 n176, AV.str s177, AV.str s178], AV.int Go.IntKind.i64 n179]) [] ∧
                                                                  ifK (n1 == (0 : Int)) (R (AV.bool (b0 == eqAll [AV.int Go.IntKind.i64 n176, AV.str s177, AV.str s178] [AV.int Go.IntKind.i64 n168, AV.str s169, AV.str s170])) [])
                                                                    (R (AV.bool false) []))
                                                        (ifK (n1 == (0 : Int)) (R (AV.bool (b0 == false)) []) (R (AV.bool false) [])))))))))))
                        (∃ n180,
                          Good PG nG G0 f_greatsealref_CheckWorld [AV.agg [AV.sl (2 : Nat) nlw0_0 none w0_0, AV.sl (2 : Nat) nlw0_1 none w0_1, AV.sl (4 : Nat) nlw0_2 none w0_2]] [] (AV.int Go.IntKind.i64 n180) [] ∧
                            ifK (n180 == (0 : Int))
                              ((0 : Int) ≤ (0 : Int) ∧
                                (0 : Int) < (2 : Int) ∧
                                  (0 : Int) ≤ (1 : Int) ∧
                                    (1 : Int) < (2 : Int) ∧
                                      ifK (decide (n2 > if (↑(List.length w0_1) : Int) < (↑(List.length w0_0) : Int) then (↑(List.length w0_1) : Int) else (↑(List.length w0_0) : Int))) (R (AV.bool false) [])
                                        ((0 : Int) ≤ (0 : Int) ∧
                                          (0 : Int) ≤ n2 ∧
                                            n2 ≤ (↑(List.length w0_0) : Int) ∧
                                              (0 : Int) ≤ (0 : Int) ∧
                                                (0 : Int) ≤ n2 ∧
                                                  n2 ≤ (↑(List.length w0_1) : Int) ∧
                                                    ∃ b181,
                                                      Good PG nG G0 f_slices_Equal_Entry
                                                          [AV.sl (2 : Nat) nlw0_0 none (List.drop (0 : Nat) (List.take (Int.toNat n2) w0_0)), AV.sl (2 : Nat) nlw0_1 none (List.drop (0 : Nat) (List.take (Int.toNat n2) w0_1))] []
                                                          (AV.bool b181) [] ∧
                                                        ifK (!b181) (R (AV.bool false) [])
                                                          (ifK (decide (n2 < if (↑(List.length w0_1) : Int) < (↑(List.length w0_0) : Int) then (↑(List.length w0_1) : Int) else (↑(List.length w0_0) : Int)))
                                                            ((0 : Int) ≤ n2 ∧
                                                              ∃ n182 s183,
                                                                w0_0[Int.toNat n2]? = some [AV.int Go.IntKind.i64 n182, AV.str s183] ∧
                                                                  (0 : Int) ≤ n2 ∧
                                                                    ∃ n184 s185,
                                                                      w0_1[Int.toNat n2]? = some [AV.int Go.IntKind.i64 n184, AV.str s185] ∧
                                                                        ifK (eqAll [AV.int Go.IntKind.i64 n182, AV.str s183] [AV.int Go.IntKind.i64 n184, AV.str s185]) (R (AV.bool false) [])
                                                                          (ifK (n4 != (0 : Int)) (ifK (n1 == n4) (R (AV.bool !b0) []) (R (AV.bool false) []))
                                                                            ((0 : Int) ≤ who1 ∧
                                                                              ∃ n186 s187 s188 b189,
                                                                                w0_2[Int.toNat who1]? = some [AV.int Go.IntKind.i64 n186, AV.str s187, AV.str s188, AV.bool b189] ∧
                                                                                  (0 : Int) ≤ side2 ∧
                                                                                    side2 < (2 : Int) ∧
                                                                                      ifK (side2 == (0 : Int))
                                                                                        (ifK (eqAll [AV.int Go.IntKind.i64 n186, AV.str s187, AV.str s188] [AV.int Go.IntKind.i64 (0 : Int), AV.str [], AV.str []])
                                                                                          (ifK (n1 == (0 : Int)) (R (AV.bool (b0 == true)) []) (R (AV.bool false) []))
                                                                                          (ifK (decide (n186 ≤ (↑(List.length w0_0) : Int)))
                                                                                            ((0 : Int) ≤ (0 : Int) ∧
                                                                                              (0 : Int) ≤ n186 ∧
                                                                                                n186 ≤ (↑(List.length w0_0) : Int) ∧
                                                                                                  ∃ n190 s191 s192 n193,
                                                                                                    Good PG nG G0 f_greatsealref_HeadOf [AV.agg [AV.sl (2 : Nat) nlw0_0 none (List.drop (0 : Nat) (List.take (Int.toNat n186) w0_0))]] []
                                                                                                        (AV.tup [AV.agg [AV.int Go.IntKind.i64 n190, AV.str s191, AV.str s192], AV.int Go.IntKind.i64 n193]) [] ∧
                                                                                                      ifK (n1 == (0 : Int))
                                                                                                        (R (AV.bool (b0 == eqAll [AV.int Go.IntKind.i64 n190, AV.str s191, AV.str s192] [AV.int Go.IntKind.i64 n186, AV.str s187, AV.str s188]))
                                                                                                          [])
                                                                                                        (R (AV.bool false) []))
                                                                                            (ifK (n1 == (0 : Int)) (R (AV.bool (b0 == false)) []) (R (AV.bool false) []))))
                                                                                        (ifK (eqAll [AV.int Go.IntKind.i64 n186, AV.str s187, AV.str s188] [AV.int Go.IntKind.i64 (0 : Int), AV.str [], AV.str []])
                                                                                          (ifK (n1 == (0 : Int)) (R (AV.bool (b0 == true)) []) (R (AV.bool false) []))
                                                                                          (ifK (decide (n186 ≤ (↑(List.length w0_1) : Int)))
                                                                                            ((0 : Int) ≤ (0 : Int) ∧
                                                                                              (0 : Int) ≤ n186 ∧
                                                                                                n186 ≤ (↑(List.length w0_1) : Int) ∧
                                                                                                  ∃ n194 s195 s196 n197,
                                                                                                    Good PG nG G0 f_greatsealref_HeadOf [AV.agg [AV.sl (2 : Nat) nlw0_1 none (List.drop (0 : Nat) (List.take (Int.toNat n186) w0_1))]] []
                                                                                                        (AV.tup [AV.agg [AV.int Go.IntKind.i64 n194, AV.str s195, AV.str s196], AV.int Go.IntKind.i64 n197]) [] ∧
                                                                                                      ifK (n1 == (0 : Int))
                                                                                                        (R (AV.bool (b0 == eqAll [AV.int Go.IntKind.i64 n194, AV.str s195, AV.str s196] [AV.int Go.IntKind.i64 n186, AV.str s187, AV.str s188]))
                                                                                                          [])
                                                                                                        (R (AV.bool false) []))
                                                                                            (ifK (n1 == (0 : Int)) (R (AV.bool (b0 == false)) []) (R (AV.bool false) [])))))))
                                                            (ifK (n4 != (0 : Int)) (ifK (n1 == n4) (R (AV.bool !b0) []) (R (AV.bool false) []))
                                                              ((0 : Int) ≤ who1 ∧
                                                                ∃ n198 s199 s200 b201,
                                                                  w0_2[Int.toNat who1]? = some [AV.int Go.IntKind.i64 n198, AV.str s199, AV.str s200, AV.bool b201] ∧
                                                                    (0 : Int) ≤ side2 ∧
                                                                      side2 < (2 : Int) ∧
                                                                        ifK (side2 == (0 : Int))
                                                                          (ifK (eqAll [AV.int Go.IntKind.i64 n198, AV.str s199, AV.str s200] [AV.int Go.IntKind.i64 (0 : Int), AV.str [], AV.str []])
                                                                            (ifK (n1 == (0 : Int)) (R (AV.bool (b0 == true)) []) (R (AV.bool false) []))
                                                                            (ifK (decide (n198 ≤ (↑(List.length w0_0) : Int)))
                                                                              ((0 : Int) ≤ (0 : Int) ∧
                                                                                (0 : Int) ≤ n198 ∧
                                                                                  n198 ≤ (↑(List.length w0_0) : Int) ∧
                                                                                    ∃ n202 s203 s204 n205,
                                                                                      Good PG nG G0 f_greatsealref_HeadOf [AV.agg [AV.sl (2 : Nat) nlw0_0 none (List.drop (0 : Nat) (List.take (Int.toNat n198) w0_0))]] []
                                                                                          (AV.tup [AV.agg [AV.int Go.IntKind.i64 n202, AV.str s203, AV.str s204], AV.int Go.IntKind.i64 n205]) [] ∧
                                                                                        ifK (n1 == (0 : Int))
                                                                                          (R (AV.bool (b0 == eqAll [AV.int Go.IntKind.i64 n202, AV.str s203, AV.str s204] [AV.int Go.IntKind.i64 n198, AV.str s199, AV.str s200])) [])
                                                                                          (R (AV.bool false) []))
                                                                              (ifK (n1 == (0 : Int)) (R (AV.bool (b0 == false)) []) (R (AV.bool false) []))))
                                                                          (ifK (eqAll [AV.int Go.IntKind.i64 n198, AV.str s199, AV.str s200] [AV.int Go.IntKind.i64 (0 : Int), AV.str [], AV.str []])
                                                                            (ifK (n1 == (0 : Int)) (R (AV.bool (b0 == true)) []) (R (AV.bool false) []))
                                                                            (ifK (decide (n198 ≤ (↑(List.length w0_1) : Int)))
                                                                              ((0 : Int) ≤ (0 : Int) ∧
                                                                                (0 : Int) ≤ n198 ∧
                                                                                  n198 ≤ (↑(List.length w0_1) : Int) ∧
                                                                                    ∃ n206 s207 s208 n209,
                                                                                      Good PG nG G0 f_greatsealref_HeadOf [AV.agg [AV.sl (2 : Nat) nlw0_1 none (List.drop (0 : Nat) (List.take (Int.toNat n198) w0_1))]] []
                                                                                          (AV.tup [AV.agg [AV.int Go.IntKind.i64 n206, AV.str s207, AV.str s208], AV.int Go.IntKind.i64 n209]) [] ∧
                                                                                        ifK (n1 == (0 : Int))
                                                                                          (R (AV.bool (b0 == eqAll [AV.int Go.IntKind.i64 n206, AV.str s207, AV.str s208] [AV.int Go.IntKind.i64 n198, AV.str s199, AV.str s200])) [])
                                                                                          (R (AV.bool false) []))
                                                                              (ifK (n1 == (0 : Int)) (R (AV.bool (b0 == false)) []) (R (AV.bool false) [])))))))))
                              (ifK (n4 != (0 : Int)) (ifK (n1 == n4) (R (AV.bool !b0) []) (R (AV.bool false) []))
                                ((0 : Int) ≤ who1 ∧
                                  ∃ n210 s211 s212 b213,
                                    w0_2[Int.toNat who1]? = some [AV.int Go.IntKind.i64 n210, AV.str s211, AV.str s212, AV.bool b213] ∧
                                      (0 : Int) ≤ side2 ∧
                                        side2 < (2 : Int) ∧
                                          ifK (side2 == (0 : Int))
                                            (ifK (eqAll [AV.int Go.IntKind.i64 n210, AV.str s211, AV.str s212] [AV.int Go.IntKind.i64 (0 : Int), AV.str [], AV.str []])
                                              (ifK (n1 == (0 : Int)) (R (AV.bool (b0 == true)) []) (R (AV.bool false) []))
                                              (ifK (decide (n210 ≤ (↑(List.length w0_0) : Int)))
                                                ((0 : Int) ≤ (0 : Int) ∧
                                                  (0 : Int) ≤ n210 ∧
                                                    n210 ≤ (↑(List.length w0_0) : Int) ∧
                                                      ∃ n214 s215 s216 n217,
                                                        Good PG nG G0 f_greatsealref_HeadOf [AV.agg [AV.sl (2 : Nat) nlw0_0 none (List.drop (0 : Nat) (List.take (Int.toNat n210) w0_0))]] []
                                                            (AV.tup [AV.agg [AV.int Go.IntKind.i64 n214, AV.str s215, AV.str s216], AV.int Go.IntKind.i64 n217]) [] ∧
                                                          ifK (n1 == (0 : Int)) (R (AV.bool (b0 == eqAll [AV.int Go.IntKind.i64 n214, AV.str s215, AV.str s216] [AV.int Go.IntKind.i64 n210, AV.str s211, AV.str s212])) [])
                                                            (R (AV.bool false) []))
                                                (ifK (n1 == (0 : Int)) (R (AV.bool (b0 == false)) []) (R (AV.bool false) []))))
                                            (ifK (eqAll [AV.int Go.IntKind.i64 n210, AV.str s211, AV.str s212] [AV.int Go.IntKind.i64 (0 : Int), AV.str [], AV.str []])
                                              (ifK (n1 == (0 : Int)) (R (AV.bool (b0 == true)) []) (R (AV.bool false) []))
                                              (ifK (decide (n210 ≤ (↑(List.length w0_1) : Int)))
                                                ((0 : Int) ≤ (0 : Int) ∧
                                                  (0 : Int) ≤ n210 ∧
                                                    n210 ≤ (↑(List.length w0_1) : Int) ∧
                                                      ∃ n218 s219 s220 n221,
                                                        Good PG nG G0 f_greatsealref_HeadOf [AV.agg [AV.sl (2 : Nat) nlw0_1 none (List.drop (0 : Nat) (List.take (Int.toNat n210) w0_1))]] []
                                                            (AV.tup [AV.agg [AV.int Go.IntKind.i64 n218, AV.str s219, AV.str s220], AV.int Go.IntKind.i64 n221]) [] ∧
                                                          ifK (n1 == (0 : Int)) (R (AV.bool (b0 == eqAll [AV.int Go.IntKind.i64 n218, AV.str s219, AV.str s220] [AV.int Go.IntKind.i64 n210, AV.str s211, AV.str s212])) [])
                                                            (R (AV.bool false) []))
                                                (ifK (n1 == (0 : Int)) (R (AV.bool (b0 == false)) []) (R (AV.bool false) []))))))))))) :
  Hold (runF PG ty nG G0 an_greatseallaw_StorySays f_greatseallaw_StorySays [AV.agg [AV.sl (2 : Nat) nlw0_0 none w0_0, AV.sl (2 : Nat) nlw0_1 none w0_1, AV.sl (4 : Nat) nlw0_2 none w0_2], AV.int Go.IntKind.i64 who1, AV.int Go.IntKind.i64 side2] [] R) := kshow h (by kernel_rfl)

end Go.Ab

namespace Go.Ab
open Go.Proofs Go.Gs
variable {G0 : Nat → Option Obj}

theorem good_StorySays (hG : GlobOk G0) (n0 n1 n2 : Bool) (b0 b1 : Bk) (c : List Cl0) (h0 : n0 = true → b0 = []) (h1 : n1 = true → b1 = []) (h2 : n2 = true → c = []) (who side : Int) :
    Good PG nG G0 f_greatseallaw_StorySays [.agg [.sl 2 n0 none (b0.map E2), .sl 2 n1 none (b1.map E2), .sl 4 n2 none (c.map C4)], .int .i64 who, .int .i64 side] [] (.bool true) [] := by
  rw [map_toCl c]
  have hok := mkW_ok h0 h1 h2
  suffices main : ∀ w : Wd, (checkW w = 0 → WOk w) → Good PG nG G0 f_greatseallaw_StorySays [wV w, .int .i64 who, .int .i64 side] [] (.bool true) [] from main (mkW n0 b0 n1 b1 n2 c) hok
  intro w hok
  suffices main : ∀ R : AV → List (Option Blk) → Prop, R (.bool true) [] → Hold (runF PG ty nG G0 an_greatseallaw_StorySays f_greatseallaw_StorySays [wV w, .int .i64 who, .int .i64 side] [] R) from
    good_of_run prOk (by kernel_rfl) (main _ ⟨rfl, rfl⟩)
  intro R hR
  have go := good_storyOf (G0 := G0) hG w who side
  have gs := good_storySplit (G0 := G0) w
  have gc := good_CheckWorld (G0 := G0) w
  by_cases hck : checkW w = 0
  case neg =>
    have e1 : ofR w who side = (false, checkW w) := by unfold ofR; rw [if_pos hck]
    have e2 : splitW w = (0, checkW w) := by unfold splitW; rw [if_pos hck]
    rw [e1] at go
    rw [e2] at gs
    have t1 : (checkW w != 0) = true := bne_iff_ne.2 hck
    have t2 : (checkW w == 0) = false := beq_eq_false_iff_ne.2 hck
    refine greatseallaw_StorySays_run _ _ _ _ _ _ who side G0 R ⟨_, _, go, _, _, gs, _, gc, _, good_telling hG, ?_⟩
    dsimp only
    rw [Bool.not_true, ifF, bne_self_eq_false, ifF, t1, ifT, show (((0 : Nat) : Int) != 0) = false from rfl, ifF, t2, ifF]
    refine ⟨_, gc, ?_⟩
    rw [t2, ifF, ifT, beq_self_eq_true, ifT, Bool.not_false]
    exact hR
  have hw := hok hck
  have l0 := hw.l0
  have l1 := hw.l1
  have c3 := hw.c3
  have hle := lcpN_le w.b0 w.b1
  have e2 : splitW w = (lcpN w.b0 w.b1, 0) := by unfold splitW; rw [if_neg (by simpa using hck)]
  rw [e2] at gs
  rw [hck] at gc
  have z0 : (w.b0.map E2).length = w.b0.length := List.length_map ..
  have z1 : (w.b1.map E2).length = w.b1.length := List.length_map ..
  have ge := good_EqualEntry (G0 := G0) (w.b0.take (lcpN w.b0 w.b1)) (w.b1.take (lcpN w.b0 w.b1)) w.n0 w.n1 (by rw [List.length_take]; omega)
  rw [decide_eq_true (lcpN_take w.b0 w.b1)] at ge
  -- how far both go
  have nb : ∀ {X : Prop}, X → (0 : Int) ≤ 0 ∧ (0 : Int) < 2 ∧ (0 : Int) ≤ 1 ∧ (1 : Int) < 2 ∧
      ifK (decide ((lcpN w.b0 w.b1 : Int) > if ((w.b1.map E2).length : Int) < ((w.b0.map E2).length : Int) then ((w.b1.map E2).length : Int) else ((w.b0.map E2).length : Int))) (R (.bool false) [])
        ((0 : Int) ≤ 0 ∧ 0 ≤ (lcpN w.b0 w.b1 : Int) ∧ (lcpN w.b0 w.b1 : Int) ≤ ((w.b0.map E2).length : Int) ∧ (0 : Int) ≤ 0 ∧ 0 ≤ (lcpN w.b0 w.b1 : Int) ∧ (lcpN w.b0 w.b1 : Int) ≤ ((w.b1.map E2).length : Int) ∧
          ∃ b7, Good PG nG G0 f_slices_Equal_Entry [.sl 2 w.n0 none (List.drop 0 (List.take (Int.toNat (lcpN w.b0 w.b1 : Int)) (w.b0.map E2))), .sl 2 w.n1 none (List.drop 0 (List.take (Int.toNat (lcpN w.b0 w.b1 : Int)) (w.b1.map E2)))] [] (.bool b7) [] ∧
            ifK (!b7) (R (.bool false) [])
              (ifK (decide ((lcpN w.b0 w.b1 : Int) < if ((w.b1.map E2).length : Int) < ((w.b0.map E2).length : Int) then ((w.b1.map E2).length : Int) else ((w.b0.map E2).length : Int)))
                (0 ≤ (lcpN w.b0 w.b1 : Int) ∧ ∃ n8 s9, (w.b0.map E2)[Int.toNat (lcpN w.b0 w.b1 : Int)]? = some [.int .i64 n8, .str s9] ∧ 0 ≤ (lcpN w.b0 w.b1 : Int) ∧
                  ∃ n10 s11, (w.b1.map E2)[Int.toNat (lcpN w.b0 w.b1 : Int)]? = some [.int .i64 n10, .str s11] ∧ ifK (eqAll [.int .i64 n8, .str s9] [.int .i64 n10, .str s11]) (R (.bool false) []) X) X)) := by
    intro X hX
    rw [z0, z1, Int.toNat_natCast, take_E2, take_E2]
    refine ⟨by decide, by decide, by decide, by decide, ifK_dec (fun h => ?_) fun _ => ⟨by decide, by omega, by omega, by decide, by omega, by omega, _, ge, ?_⟩⟩
    · split at h <;> omega
    · rw [Bool.not_true, ifF]
      refine ifK_dec (fun h => ?_) fun _ => hX
      have k0 : lcpN w.b0 w.b1 < w.b0.length := by split at h <;> omega
      have k1 : lcpN w.b0 w.b1 < w.b1.length := by split at h <;> omega
      refine ⟨by omega, _, _, getX k0, by omega, _, _, getX k1, ?_⟩
      rw [eqAll_E2, decide_eq_false (lcpN_stop w.b0 w.b1 k0 k1), ifF]
      exact hX
  refine greatseallaw_StorySays_run _ _ _ _ _ _ who side G0 R ⟨_, _, go, _, _, gs, _, gc, _, good_telling hG, ?_⟩
  dsimp only
  rw [Bool.not_true, ifF, bne_self_eq_false, ifF, ifF, beq_self_eq_true, ifT]
  have bad : (who < 0 ∨ 2 < who ∨ side < 0 ∨ 1 < side) → ifK ((ofR w who side).2 == (5 : Int)) (R (.bool (!(ofR w who side).1)) []) (R (.bool false) []) := fun h => by
    have : ofR w who side = (false, 5) := by unfold ofR; rw [if_neg (by simpa using hck), if_pos (by omega)]
    rw [this]
    exact hR
  refine ifK_dec (fun h => ⟨_, gc, ?_⟩) fun g1 => ifK_dec (fun h => ⟨_, gc, ?_⟩) fun g2 => ifK_dec (fun h => ⟨_, gc, ?_⟩) fun g3 => ifK_dec (fun h => ⟨_, gc, ?_⟩) fun g4 => ⟨_, gc, ?_⟩
  · rw [beq_self_eq_true, ifT]; exact nb (bad (by omega))
  · rw [beq_self_eq_true, ifT]; exact nb (bad (by omega))
  · rw [beq_self_eq_true, ifT]; exact nb (bad (by omega))
  · rw [beq_self_eq_true, ifT]; exact nb (bad (by omega))
  rw [beq_self_eq_true, ifT]
  refine nb ?_
  rw [ifF]
  have hin : who.toNat < w.c.length := by omega
  have hgc : (w.c.map CX)[who.toNat]? = some (CX (w.cl who)) := by rw [getX hin, cl_get hin]
  have hk := checkH_ok (checkW_cl hck who)
  have ho : ofR w who side = if (w.cl who).1 = hd0 then (true, 0) else if ((w.bk side).length : Int) < (w.cl who).1.n then (false, 0) else (decide ((headOf ((w.bk side).take (w.cl who).1.n.toNat)).1 = (w.cl who).1), 0) := by
    unfold ofR; rw [if_neg (by simpa using hck), if_neg (by omega)]
  have ghd := good_HeadOf (G0 := G0) hG ((w.bk side).take (w.cl who).1.n.toNat) (w.nb side)
  have e10 : ((1 : Int) == 0) = false := rfl
  have eb : w.bk 0 = w.b0 ∧ w.bk 1 = w.b1 := ⟨rfl, rfl⟩
  have hh0 : eqAll [.int .i64 (w.cl who).1.n, .str (w.cl who).1.log, .str (w.cl who).1.mp] [.int .i64 0, .str [], .str []] = decide ((w.cl who).1 = hd0) := eqAll_hd (w.cl who).1 hd0
  refine ⟨by omega, _, _, _, _, hgc, by omega, by omega, ?_⟩
  have hss : side = 0 ∨ side = 1 := by omega
  rcases hss with rfl | rfl
  all_goals
    simp only [eb.1, eb.2] at ho ghd
    simp only [beq_self_eq_true, e10, ifT, ifF]
    rw [hh0]
    refine ifK_dec (fun h => ?_) fun h => ?_
    · rw [ho, if_pos h]; exact hR
    · rw [if_neg h] at ho
      rw [List.length_map, take_E2]
      refine ifK_dec (fun h5 => ⟨by decide, hk.1, by omega, _, _, _, _, ghd, ?_⟩) fun h5 => ?_
      · rw [if_neg (by omega)] at ho
        rw [ho, eqAll_hd]
        simp only [beq_self_eq_true, ifT]
        exact hR
      · rw [if_pos (by omega)] at ho
        rw [ho]; exact hR
end Go.Ab

namespace Go.Ab
open Go.Proofs
set_option maxRecDepth 100000

def an_slices_Concat_Errno : FAnn := ⟨[(9, 1, ⟨[], [0], []⟩)], [(0, [0, 3, 9, 10, 11], []), (2, [6, 25, 26, 27], [6])], some [6], []⟩

theorem slices_Concat_Errno_run (nlslices0 : Bool) (slices0 : List (List AV)) (G0 : Nat → Option Go.Obj) (R : AV → List (Option Blk) → Prop) (h :
  Does PG nG G0 (fnOf PG f_slices_Concat_Errno) (0 : Nat) (lp PG f_slices_Concat_Errno (0 : Nat))
  (mkT (36 : Nat)
    [((0 : Nat), AV.sl (1 : Nat) nlslices0 none slices0), ((3 : Nat), AV.int Go.IntKind.i64 (0 : Int)), ((9 : Nat), AV.sl (1 : Nat) nlslices0 none slices0), ((10 : Nat), AV.int Go.IntKind.i64 (↑(List.length slices0) : Int)),
      ((11 : Nat), AV.int Go.IntKind.i64 (0 : Int))])
  [] R) :
  Hold (runF PG ty nG G0 an_slices_Concat_Errno f_slices_Concat_Errno [AV.sl (1 : Nat) nlslices0 none slices0] [] R) := kshow h (by kernel_rfl)

theorem slices_Concat_Errno_l0_run (G0 : Nat → Option Obj) (b0 : Bool) (xs1 : List (List AV)) (n2 : Int) (b3 : Bool) (xs4 : List (List AV)) (n5 : Int) (n6 : Int) (R : AV → List (Option Blk) → Prop) (h :
  ifK (decide (n6 < n5))
  ((0 : Int) ≤ n6 ∧
    ∃ b7 xs8,
      xs4[Int.toNat n6]? = some [AV.sl (1 : Nat) b7 none xs8] ∧
        ifK (decide (Go.IntKind.wrap Go.IntKind.i64 (n2 + (↑(List.length xs8) : Int)) < (0 : Int))) False
          (Does PG nG G0 (fnOf PG f_slices_Concat_Errno) (0 : Nat) (lp PG f_slices_Concat_Errno (0 : Nat))
            (mkT (36 : Nat)
              [((0 : Nat), AV.sl (1 : Nat) b0 none xs1), ((3 : Nat), AV.int Go.IntKind.i64 (Go.IntKind.wrap Go.IntKind.i64 (n2 + (↑(List.length xs8) : Int)))), ((9 : Nat), AV.sl (1 : Nat) b3 none xs4),
                ((10 : Nat), AV.int Go.IntKind.i64 n5), ((11 : Nat), AV.int Go.IntKind.i64 (Go.IntKind.wrap Go.IntKind.i64 (n6 + (1 : Int))))])
            [] R))
  (∃ b9 xs10,
    Good PG nG G0 f_slices_Grow_Errno [AV.sl (1 : Nat) true none [], AV.int Go.IntKind.i64 n2] [] (AV.sl (1 : Nat) b9 (some (0 : Nat)) xs10) [some (Blk.grow (1 : Nat) (List.length xs10))] ∧
      Does PG nG G0 (fnOf PG f_slices_Concat_Errno) (0 : Nat) (lp PG f_slices_Concat_Errno (1 : Nat))
        (mkT (36 : Nat) [((6 : Nat), AV.sl (1 : Nat) b9 (some (0 : Nat)) xs10), ((25 : Nat), AV.sl (1 : Nat) b0 none xs1), ((26 : Nat), AV.int Go.IntKind.i64 (↑(List.length xs1) : Int)), ((27 : Nat), AV.int Go.IntKind.i64 (0 : Int))])
        [some (Blk.grow (1 : Nat) (List.length xs10))] R)) :
  Hold (runL PG ty nG G0 an_slices_Concat_Errno f_slices_Concat_Errno (0 : Nat) (0 : Nat)
  (mkT (36 : Nat) [((0 : Nat), AV.sl (1 : Nat) b0 none xs1), ((3 : Nat), AV.int Go.IntKind.i64 n2), ((9 : Nat), AV.sl (1 : Nat) b3 none xs4), ((10 : Nat), AV.int Go.IntKind.i64 n5), ((11 : Nat), AV.int Go.IntKind.i64 n6)]) [] R) := kshow h (by kernel_rfl)

theorem slices_Concat_Errno_l1_run (G0 : Nat → Option Obj) (b11 : Bool) (xs12 : List (List AV)) (b13 : Bool) (xs14 : List (List AV)) (n15 : Int) (n16 : Int) (m17 : Nat) (R : AV → List (Option Blk) → Prop) (h :
  ifK (decide (n16 < n15))
  ((0 : Int) ≤ n16 ∧
    ∃ b18 xs19,
      xs14[Int.toNat n16]? = some [AV.sl (1 : Nat) b18 none xs19] ∧
        (List.length xs12 + List.length xs19) * (8 : Nat) ≤ (140737488355328 : Nat) ∧
          List.length xs12 = m17 ∧
            Does PG nG G0 (fnOf PG f_slices_Concat_Errno) (0 : Nat) (lp PG f_slices_Concat_Errno (1 : Nat))
              (mkT (36 : Nat)
                [((6 : Nat), AV.sl (1 : Nat) (b11 && List.isEmpty xs19) (some (0 : Nat)) (xs12 ++ xs19)), ((25 : Nat), AV.sl (1 : Nat) b13 none xs14), ((26 : Nat), AV.int Go.IntKind.i64 n15),
                  ((27 : Nat), AV.int Go.IntKind.i64 (Go.IntKind.wrap Go.IntKind.i64 (n16 + (1 : Int))))])
              [some (Blk.grow (1 : Nat) (m17 + List.length xs19))] R)
  (R (AV.sl (1 : Nat) b11 (some (0 : Nat)) xs12) [some (Blk.grow (1 : Nat) m17)])) :
  Hold (runL PG ty nG G0 an_slices_Concat_Errno f_slices_Concat_Errno (1 : Nat) (0 : Nat)
  (mkT (36 : Nat) [((6 : Nat), AV.sl (1 : Nat) b11 (some (0 : Nat)) xs12), ((25 : Nat), AV.sl (1 : Nat) b13 none xs14), ((26 : Nat), AV.int Go.IntKind.i64 n15), ((27 : Nat), AV.int Go.IntKind.i64 n16)]) [some (Blk.grow (1 : Nat) m17)] R) := kshow h (by kernel_rfl)

end Go.Ab

namespace Go.Ab
open Go.Proofs
set_option maxRecDepth 100000

def an_greatseallaw_WorldParts : FAnn := ⟨[], [], none, []⟩

theorem greatseallaw_WorldParts_run (nlw0_0 : Bool) (w0_0 : List (List AV)) (nlw0_1 : Bool) (w0_1 : List (List AV)) (nlw0_2 : Bool) (w0_2 : List (List AV)) (nll1 : Bool) (l1 : List (List AV)) (k2 : Int) (G0 : Nat → Option Go.Obj) (R : AV → List (Option Blk) → Prop) (h :
  ∃ b0 xs1 b2 xs3 b4 xs5 b6 xs7 n8,
  Good PG nG G0 f_world_Run [AV.agg [AV.sl (2 : Nat) nlw0_0 none w0_0, AV.sl (2 : Nat) nlw0_1 none w0_1, AV.sl (4 : Nat) nlw0_2 none w0_2], AV.sl (6 : Nat) nll1 none l1] []
      (AV.tup [AV.agg [AV.sl (2 : Nat) b0 none xs1, AV.sl (2 : Nat) b2 none xs3, AV.sl (4 : Nat) b4 none xs5], AV.sl (1 : Nat) b6 none xs7, AV.int Go.IntKind.i64 n8]) [] ∧
    ∃ b9,
      Good PG nG G0 f_greatseallaw_lied [] [] (AV.bool b9) [] ∧
        ifK (!b9) (∃ b10, Good PG nG G0 f_greatseallaw_lied [] [] (AV.bool b10) [] ∧ R (AV.bool b10) [])
          (ifK (n8 != (0 : Int)) (∃ b11, Good PG nG G0 f_greatseallaw_lied [] [] (AV.bool b11) [] ∧ R (AV.bool b11) [])
            (∃ n12,
              Good PG nG G0 f_greatseallaw_at [AV.int Go.IntKind.i64 k2, AV.int Go.IntKind.i64 (Go.IntKind.wrap Go.IntKind.i64 ((↑(List.length l1) : Int) + (1 : Int)))] [] (AV.int Go.IntKind.i64 n12) [] ∧
                (0 : Int) ≤ (0 : Int) ∧
                  (0 : Int) ≤ n12 ∧
                    n12 ≤ (↑(List.length l1) : Int) ∧
                      ∃ b13 xs14 b15 xs16 b17 xs18 b19 xs20 n21,
                        Good PG nG G0 f_world_Run
                            [AV.agg [AV.sl (2 : Nat) nlw0_0 none w0_0, AV.sl (2 : Nat) nlw0_1 none w0_1, AV.sl (4 : Nat) nlw0_2 none w0_2], AV.sl (6 : Nat) nll1 none (List.drop (0 : Nat) (List.take (Int.toNat n12) l1))] []
                            (AV.tup [AV.agg [AV.sl (2 : Nat) b13 none xs14, AV.sl (2 : Nat) b15 none xs16, AV.sl (4 : Nat) b17 none xs18], AV.sl (1 : Nat) b19 none xs20, AV.int Go.IntKind.i64 n21]) [] ∧
                          (0 : Int) ≤ n12 ∧
                            n12 ≤ (↑(List.length l1) : Int) ∧
                              (↑(List.length l1) : Int) ≤ (↑(List.length l1) : Int) ∧
                                ∃ b22 xs23 b24 xs25 b26 xs27 b28 xs29 n30,
                                  Good PG nG G0 f_world_Run
                                      [AV.agg [AV.sl (2 : Nat) b13 none xs14, AV.sl (2 : Nat) b15 none xs16, AV.sl (4 : Nat) b17 none xs18],
                                        AV.sl (6 : Nat) nll1 none (List.drop (Int.toNat n12) (List.take (Int.toNat (↑(List.length l1) : Int)) l1))]
                                      [] (AV.tup [AV.agg [AV.sl (2 : Nat) b22 none xs23, AV.sl (2 : Nat) b24 none xs25, AV.sl (4 : Nat) b26 none xs27], AV.sl (1 : Nat) b28 none xs29, AV.int Go.IntKind.i64 n30]) [] ∧
                                    ifK (n21 == (0 : Int))
                                      (ifK (n30 == (0 : Int))
                                        (∃ b31,
                                          Good PG nG G0 f_world_Same
                                              [AV.agg [AV.sl (2 : Nat) b0 none xs1, AV.sl (2 : Nat) b2 none xs3, AV.sl (4 : Nat) b4 none xs5],
                                                AV.agg [AV.sl (2 : Nat) b22 none xs23, AV.sl (2 : Nat) b24 none xs25, AV.sl (4 : Nat) b26 none xs27]]
                                              [] (AV.bool b31) [] ∧
                                            ifK b31
                                              (∃ b32 xs33,
                                                Good PG nG G0 f_slices_Concat_Errno [AV.sl (1 : Nat) false none [[AV.sl (1 : Nat) b19 none xs20], [AV.sl (1 : Nat) b28 none xs29]]] [] (AV.sl (1 : Nat) b32 none xs33) [] ∧
                                                  ∃ b34, Good PG nG G0 f_slices_Equal_Errno [AV.sl (1 : Nat) b6 none xs7, AV.sl (1 : Nat) b32 none xs33] [] (AV.bool b34) [] ∧ R (AV.bool b34) [])
                                              (R (AV.bool false) []))
                                        (R (AV.bool false) []))
                                      (R (AV.bool false) [])))) :
  Hold (runF PG ty nG G0 an_greatseallaw_WorldParts f_greatseallaw_WorldParts [AV.agg [AV.sl (2 : Nat) nlw0_0 none w0_0, AV.sl (2 : Nat) nlw0_1 none w0_1, AV.sl (4 : Nat) nlw0_2 none w0_2], AV.sl (6 : Nat) nll1 none l1, AV.int Go.IntKind.i64 k2] [] R) := kshow h (by kernel_rfl)

end Go.Ab

namespace Go.Proofs
open Go.Shelf
def Tryd.laysGrow_ren : Go.Shelf.Ren := ⟨fun | 4 => 59 | n => n, fun | 22 => 49 | 25 => 36 | n => n, fun | n => n⟩
theorem Tryd.laysGrow : Go.Proofs.Lays8.n4 Tryd.prog Tryd.laysGrow_ren := {
  mixed := by kernel_rfl
  f4 := ⟨Tryd.f59.name, by kernel_rfl, Tryd.func59.trans (congrArg some (by kernel_rfl))⟩
  t0 := Tryd.underlying0
  a0 := Tryd.isAgg0
  z0 := Tryd.sizeOf0
  v0 := Tryd.zeroValue0
  t3 := Tryd.underlying3
  a3 := Tryd.isAgg3
  z3 := Tryd.sizeOf3
  v3 := Tryd.zeroValue3
  t4 := Tryd.underlying4
  a4 := Tryd.isAgg4
  z4 := Tryd.sizeOf4
  v4 := Tryd.zeroValue4
  t9 := Tryd.underlying9
  a9 := Tryd.isAgg9
  z9 := Tryd.sizeOf9
  v9 := Tryd.zeroValue9
  t20 := Tryd.underlying20
  a20 := Tryd.isAgg20
  z20 := Tryd.sizeOf20
  v20 := Tryd.zeroValue20
  t22 := Tryd.underlying49
  a22 := Tryd.isAgg49
  z22 := Tryd.sizeOf49
  v22 := Tryd.zeroValue49 }
end Go.Proofs
namespace Go.Ab
open Go.Proofs Go.Gs
variable {G0 : Nat → Option Obj}

theorem upd_one (bl : Blk) : updH (hpF []) [(0, bl)] = hpF [some bl] := by
  funext id
  match id with
  | 0 => simp [updH, hpF]
  | id + 1 => simp [updH, hpF]

theorem good_GrowErrno (n : Nat) (hn : n * 8 ≤ 140737488355328) : Good PG nG G0 f_slices_Grow_Errno [.sl 1 true none [], .int .i64 n] [] (.sl 1 (decide (n = 0)) (some 0) []) [some (.grow 1 0)] := by
  have hb : hasB PG f_slices_Grow_Errno = true := by kernel_rfl
  unfold hasB at hb
  split at hb
  case h_2 => cases hb
  rename_i fn hf
  simp only [Bool.and_eq_true, Bool.not_eq_true'] at hb
  refine ⟨⟨fn, hf, hb.1, hb.2⟩, fun w K S us hrel hus => ?_⟩
  have hus' : us = [.slice none 0 0, .int .i64 n] := by
    obtain ⟨hl, hv⟩ := hus
    match us, hl with
    | [u, v], _ =>
      have h0 := hv 0 _ u rfl rfl
      simp only [VR, VRa, VRc, VR0] at h0
      rw [VR_int (hv 1 _ v rfl rfl)]
      cases h0
      rfl
  rw [hus']
  have hKn := hrel.dom_none (id := 0) rfl
  by_cases h0 : n = 0
  · subst h0
    refine (Any8.slices_Grow_room Tryd.laysGrow none 0 0 0 w (Nat.le_refl _) (by omega) (by omega) (by omega)).mono fun e w' ⟨he, hw⟩ => ?_
    subst hw
    obtain ⟨g1, g2, g3⟩ := hrel.gen (n0 := 0) (w' := w') (id := 0) (ki' := .grow none 1 0) (bl := .grow 1 0) (S' := S) rfl rfl rfl (Nat.le_refl _) (fun _ _ _ => rfl) (fun b hb => by cases hb) (fun _ _ _ => rfl) (fun _ _ h => h) (fun _ _ h => .inl h)
      (fun ki hk => by rw [hKn] at hk; cases hk) (fun _ => Nat.le_refl _) ⟨rfl, rfl, rfl⟩
    rw [upd_one] at g1
    refine ⟨_, _, _, he, g1, ?_, g2⟩
    simp only [VR, VRa, VRc, VR0, decide_true]
    exact ⟨.slNil 1, none, 0, by simp [updK], Nat.le_refl _, fun _ => trivial⟩
  · have he := prOk.tab 36 _ rfl
    obtain ⟨i0, hi, hi1, hi2, hi3⟩ := he.info
    have hz := (zero_cells (K := fun _ => none) (S := fun _ _ => True) (w := w) he).2
    refine (Any8.slices_Grow_grow Tryd.laysGrow i0 _ hi hi3 (by rw [hi1]; exact Nat.one_pos) none 0 0 n [] w (Nat.le_refl _) (by omega) (by rw [hi2, Nat.zero_add]; exact hn) (by omega) (by simp) (fun _ => rfl) (fun a ha => by cases ha)).mono fun e w' ⟨hr, hw⟩ => ?_
    have hc : n ≤ grownCap w (0 + n) 0 36 := by
      unfold grownCap
      simp only [Question.cut]
      omega
    generalize hcap : grownCap w (0 + n) 0 36 = cap at hc
    rw [show Tryd.laysGrow_ren.t 25 = 36 from rfl, hcap] at hr hw
    generalize harr : (([] : List Value).toArray ++ Builtin.zeroCells (TI.zeroV _).cells (0 + n - 0) ++ Builtin.zeroCells (TI.zeroV _).cells (cap - (0 + n))) = arr at hw
    have hsz : arr.size = cap * 1 := by
      rw [← harr]
      simp only [Array.size_append, Builtin.zeroCells, Array.size_map, Array.size_range, hz]
      show 0 + (0 + n - 0) * 1 + (cap - (0 + n)) * 1 = cap * 1
      omega
    subst hw
    obtain ⟨g1, g2, g3⟩ := hrel.gen (n0 := 0) (w' := w.drew.alloc (.cells arr 36)) (id := 0) (ki' := .grow (some (w.heap.size, cap)) 1 0) (bl := .grow 1 0) (S' := S) rfl rfl rfl (by simp) (fun b' hb' _ => heap_alloc_lt w.drew _ b' hb') (fun b' hb' => by cases hb'; exact .inr (Nat.le_refl _))
      (fun b' off hs => cell_of_heap (heap_alloc_lt w.drew _ b' (hrel.lt b' off hs))) (fun _ _ h => h) (fun _ _ h => .inl h)
      (fun ki hk => by rw [hKn] at hk; cases hk) (fun _ => Nat.le_refl _) ⟨rfl, rfl, Nat.zero_le _, arr, 36, heap_alloc_eq w.drew _, hsz⟩
    rw [upd_one] at g1
    refine ⟨_, _, _, hr, g1, ?_, g2⟩
    simp only [VR, VRa, VRc, VR0, h0, decide_false]
    exact ⟨.slEmpty 1 _ _, some (w.heap.size, cap), 0, by simp [updK], Nat.le_refl _, fun _ => ⟨rfl, rfl⟩⟩

theorem good_Concat (a b : List Int) (na nb : Bool) (ha : a.length ≤ 1000) (hb : b.length ≤ 1000) :
    ∃ nl, Good PG nG G0 f_slices_Concat_Errno [.sl 1 false none [[.sl 1 na none (a.map I1)], [.sl 1 nb none (b.map I1)]]] [] (.sl 1 nl none ((a ++ b).map I1)) [] := by
  refine ⟨decide (a.length + b.length = 0) && (a.map I1).isEmpty && (b.map I1).isEmpty, Good.forget (n := (a.map I1).length + (b.map I1).length) ?_⟩
  suffices main : ∀ R : AV → List (Option Blk) → Prop, R (.sl 1 (decide (a.length + b.length = 0) && (a.map I1).isEmpty && (b.map I1).isEmpty) (some 0) ((a ++ b).map I1)) [some (.grow 1 ((a.map I1).length + (b.map I1).length))] →
      Hold (runF PG ty nG G0 an_slices_Concat_Errno f_slices_Concat_Errno [.sl 1 false none [[.sl 1 na none (a.map I1)], [.sl 1 nb none (b.map I1)]]] [] R) from
    good_of_run prOk (by kernel_rfl) (main _ ⟨rfl, rfl⟩)
  intro R hR
  have gg := good_GrowErrno (G0 := G0) (a.length + b.length) (by omega)
  have la : (a.map I1).length = a.length := List.length_map ..
  have lb : (b.map I1).length = b.length := List.length_map ..
  have w1 : IntKind.i64.wrap (0 + 1) = 1 := by decide
  have w2 : IntKind.i64.wrap (1 + 1) = 2 := by decide
  refine slices_Concat_Errno_run _ _ G0 R (does_of_run prOk (slices_Concat_Errno_l0_run G0 _ _ _ _ _ _ _ R (ifK_dec (fun _ => ⟨by decide, _, _, rfl, ?_⟩) fun h => absurd (by simp) h)))
  rw [la, Int.zero_add, wrapI (by omega) (by omega), decide_eq_false (by omega), ifF, w1]
  refine does_of_run prOk (slices_Concat_Errno_l0_run G0 _ _ _ _ _ _ _ R (ifK_dec (fun _ => ⟨by decide, _, _, rfl, ?_⟩) fun h => absurd (by simp) h))
  rw [lb, wrapI (by omega) (by omega), decide_eq_false (by omega), ifF, w2]
  refine does_of_run prOk (slices_Concat_Errno_l0_run G0 _ _ _ _ _ _ _ R (ifK_dec (fun h => absurd h (by simp)) fun _ => ⟨_, _, gg, ?_⟩))
  refine does_of_run prOk (slices_Concat_Errno_l1_run G0 _ _ _ _ _ _ _ R (ifK_dec (fun _ => ⟨by decide, _, _, rfl, by rw [la]; simp; omega, rfl, ?_⟩) fun h => absurd (by simp) h))
  rw [w1]
  refine does_of_run prOk (slices_Concat_Errno_l1_run G0 _ _ _ _ _ _ _ R (ifK_dec (fun _ => ⟨by decide, _, _, rfl, by simp; omega, by simp, ?_⟩) fun h => absurd (by simp) h))
  rw [w2]
  refine does_of_run prOk (slices_Concat_Errno_l1_run G0 _ _ _ _ _ _ _ R (ifK_dec (fun h => absurd h (by simp)) fun _ => ?_))
  simpa using hR
theorem runR_short {w : Wd} (h : checkW w = 0) {l : List Hap} (hl : l.length ≤ 80) : runR w l = ((runW w l, saysW w l), 0) := by unfold runR; rw [if_neg (by simpa using h), if_neg (by omega)]

theorem drop_H6 (l : List Hap) (k : Nat) : List.drop k ((l.map H6).take l.length) = (l.drop k).map H6 := by
  rw [List.take_of_length_le (by simp), List.map_drop]

theorem take_H6 (l : List Hap) (k : Nat) : List.drop 0 ((l.map H6).take k) = (l.take k).map H6 := by rw [List.drop_zero, List.map_take]

theorem good_WorldParts (hG : GlobOk G0) (n0 n1 n2 : Bool) (b0 b1 : Bk) (c : List Cl0) (h0 : n0 = true → b0 = []) (h1 : n1 = true → b1 = []) (h2 : n2 = true → c = []) (l : List Hap) (nl : Bool) (k : Int) (hk : -9223372036854775808 ≤ k ∧ k ≤ 9223372036854775807) :
    Good PG nG G0 f_greatseallaw_WorldParts [.agg [.sl 2 n0 none (b0.map E2), .sl 2 n1 none (b1.map E2), .sl 4 n2 none (c.map C4)], .sl 6 nl none (l.map H6), .int .i64 k] [] (.bool true) [] := by
  rw [map_toCl c]
  have hok := mkW_ok h0 h1 h2
  suffices main : ∀ w : Wd, (checkW w = 0 → WOk w) → Good PG nG G0 f_greatseallaw_WorldParts [wV w, .sl 6 nl none (l.map H6), .int .i64 k] [] (.bool true) [] from main (mkW n0 b0 n1 b1 n2 c) hok
  intro w hok
  suffices main : ∀ R : AV → List (Option Blk) → Prop, R (.bool true) [] → Hold (runF PG ty nG G0 an_greatseallaw_WorldParts f_greatseallaw_WorldParts [wV w, .sl 6 nl none (l.map H6), .int .i64 k] [] R) from
    good_of_run prOk (by kernel_rfl) (main _ ⟨rfl, rfl⟩)
  intro R hR
  have gr := good_worldRun (G0 := G0) hG hok l nl
  have li := good_lied (G0 := G0) hG
  have hl6 : (l.map H6).length = l.length := List.length_map ..
  refine greatseallaw_WorldParts_run _ _ _ _ _ _ nl _ k G0 R ⟨_, _, _, _, _, _, _, _, _, gr, _, li, ?_⟩
  rw [Bool.not_true, ifF]
  refine ifK_ne0 (fun _ => ⟨_, li, hR⟩) fun hz => ?_
  have hck : checkW w = 0 := by
    by_cases h : checkW w = 0
    · exact h
    · unfold runR at hz
      rw [if_pos h] at hz
      exact absurd hz h
  have h80 : l.length ≤ 80 := by
    by_cases h : l.length ≤ 80
    · exact h
    · unfold runR at hz
      rw [if_neg (by simpa using hck), if_pos (by omega)] at hz
      cases hz
  have hw := hok hck
  rw [runR_short hck h80, hl6, wrapI (by omega) (by omega)]
  have ga := good_at (G0 := G0) k (l.length + 1) (by omega) (by omega) hk
  have hp := Int.emod_nonneg k (show ((l.length + 1 : Nat) : Int) ≠ 0 by omega)
  have hq := Int.emod_lt_of_pos k (show (0 : Int) < ((l.length + 1 : Nat) : Int) by omega)
  refine ⟨_, ga, by decide, hp, by omega, ?_⟩
  generalize hi : k % ((l.length + 1 : Nat) : Int) = i at hp hq
  rw [take_H6]
  have lt : (l.take i.toNat).length ≤ 80 := by rw [List.length_take]; omega
  have ld : (l.drop i.toNat).length ≤ 80 := by rw [List.length_drop]; omega
  have g1 := good_worldRun (G0 := G0) hG hok (l.take i.toNat) nl
  rw [runR_short hck lt] at g1
  have hy := hw.run (l.take i.toNat)
  have g2 := good_worldRun (G0 := G0) hG (fun _ => hy) (l.drop i.toNat) nl
  rw [runR_short hy.check ld] at g2
  refine ⟨_, _, _, _, _, _, _, _, _, g1, hp, by omega, Int.le_refl _, ?_⟩
  rw [Int.toNat_natCast, drop_H6]
  have hwr := hw.run l
  have e1 : runW (runW w (l.take i.toNat)) (l.drop i.toNat) = runW w l := by rw [← runW_append, List.take_append_drop]
  have e2 : saysW w (l.take i.toNat) ++ saysW (runW w (l.take i.toNat)) (l.drop i.toNat) = saysW w l := by rw [← saysW_append, List.take_append_drop]
  have gs := good_worldSame (G0 := G0) (runW w l) (runW w l) (by have := hwr.l0; omega) (by have := hwr.l1; omega) (by have := hwr.c3; omega)
  rw [sameW_self] at gs
  rw [e1] at g2
  obtain ⟨m, gc⟩ := good_Concat (G0 := G0) (saysW w (l.take i.toNat)) (saysW (runW w (l.take i.toNat)) (l.drop i.toNat)) (saysW w (l.take i.toNat)).isEmpty (saysW (runW w (l.take i.toNat)) (l.drop i.toNat)).isEmpty (by rw [saysW_len]; omega) (by rw [saysW_len]; omega)
  rw [e2] at gc
  have ge := good_EqualErrno (G0 := G0) (saysW w l) (saysW w l) (saysW w l).isEmpty m (by rw [saysW_len]; omega)
  rw [decide_eq_true rfl] at ge
  refine ⟨_, _, _, _, _, _, _, _, _, g2, ?_⟩
  simp only [beq_self_eq_true, ifT]
  refine ⟨_, gs, ?_⟩
  rw [ifT]
  exact ⟨_, _, gc, _, ge, hR⟩

end Go.Ab

namespace Go.Proofs.YtdolapjfihjmgaaDoor
open Go.Ab Go.Gs Go.ChangeShapes Go.WideShapes Go.ChangeAt Go.RowKit

theorem own : ownKnob Tryd.prog.godebug = none := by kernel_rfl
theorem laidOutP : laidOutB Tryd.prog = true := by kernel_rfl

/-- The three tables, as the rows list them. -/
def tabs : List (String × DataW Unit) := Rows.storyCaughtRow.laid

theorem var_heap {W : World} {name : String} {cs : Array Value} {g : Nat} (hg : Tryd.prog.globalNamed name = some g) (h : W.var? Tryd.prog name = some cs) : g < W.heap.size := by
  simp only [World.var?, hg, Option.bind_some] at h
  split at h
  · rename_i hh; exact (Array.getElem?_eq_some_iff.1 hh).1
  · cases h

theorem var_same {W w : World} {name : String} {g : Nat} (hg : Tryd.prog.globalNamed name = some g) (h : w.heap[g]? = W.heap[g]?) : w.var? Tryd.prog name = W.var? Tryd.prog name := by
  simp only [World.var?, hg, Option.bind_some, h]

theorem glob_ofM {W : World} {rest : List (String × DataW Unit)} (h : laidMet Tryd.prog (Rows.storyCaughtRow.laid ++ rest) W) : GlobOk (fun b => W.heap[b]?) ∧ nG ≤ W.heap.size := by
  obtain ⟨ps, ⟨g0, t0, cs0, f0, p0, q0, hg0, ht0, hv0, hd0, ⟨g1, t1, cs1, f1, p1, q1, hg1, ht1, hv1, hd1, ⟨g2, t2, cs2, f2, p2, q2, hg2, ht2, hv2, hd2, _, _⟩, _⟩, _⟩, _⟩ := h
  have hn0 : Tryd.prog.globalNamed "math/bits.deBruijn32tab" = some 1 := by kernel_rfl
  have hn1 : Tryd.prog.globalNamed "math/bits.deBruijn64tab" = some 2 := by kernel_rfl
  have hn2 : Tryd.prog.globalNamed "internal/strconv.uint64pow10" = some 0 := by kernel_rfl
  have l1 := var_heap hn1 hv1
  have hng : nG = 3 := rfl
  refine ⟨fun w hw => ?_, by omega⟩
  have hty : (Tryd.prog.globals[0]?).map (·.type) = some 146 := by kernel_rfl
  obtain rfl := Option.some.inj (hn2.symm.trans hg2)
  obtain rfl := Option.some.inj (hty.symm.trans ht2)
  unfold Lib.TabIs
  rw [var_same hn2 (hw 0 (by decide)), hv2]
  have := Lib.cells_of_tab (k := .u64) (zs := Lib.pow10Tab) (n := 20) Tryd.underlying146 Tryd.underlying139 (by kernel_rfl) (by kernel_rfl) (show DataW.trod (fun _ => ()) Tryd.prog W 0 (fun _ => true) false f2 146 cs2.toList = some (Lib.tabData .u64 Lib.pow10Tab, p2) from hd2)
  rw [← this]

theorem glob_of {W : World} (h : laidMetH Tryd.prog Rows.storyCaughtRow.laid W) : GlobOk (fun b => W.heap[b]?) ∧ nG ≤ W.heap.size := glob_ofM (rest := []) (show laidMet Tryd.prog Rows.storyCaughtRow.laid W from h)

/-- A world for the witness. -/
noncomputable def wit0 (os : Os) : World := World.doorLaid Tryd.prog 400 os

end Go.Proofs.YtdolapjfihjmgaaDoor

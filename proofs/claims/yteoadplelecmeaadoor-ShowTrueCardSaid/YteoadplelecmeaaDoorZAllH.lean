/- What the proofs of these laws lean on (8): What the runs come to; Contracts: a client's laws; Contracts: a client that follows a book: the law; Contracts: what a client holds is so: the law; Contracts: what two heads show of two books: the law; What the listed variables give, for any law of this seat; no condition. -/
import Derived.Test.YteoadplelecmeaaDoorZAllG
import Derived.Test.YteoadplelecmeaaDoorCards
import Derived.Test.YteoadplelecmeaaDoorTie
import Derived.OpenShut
import Derived.LaidMore
import Derived.Deep.DeepHandedRow
import Derived.Lib.LaidTab
namespace Go.Ab
open Go.Proofs
set_option maxRecDepth 100000

def an_greatseallaw_ClientFollows : FAnn := ⟨[(4, 5, ⟨[], [0], []⟩)], [(0, [2, 5, 31, 32, 33], [])], none, []⟩
def an_greatseallaw_ClientSays : FAnn := ⟨[], [], none, []⟩
def an_greatseallaw_ClientTrue : FAnn := ⟨[], [], none, []⟩
def an_greatseallaw_ClientAsks : FAnn := ⟨[], [], none, []⟩
def an_slices_Clone_int : FAnn := ⟨[], [], some [2], []⟩

theorem greatseallaw_ClientFollows_run (nlb0_0 : Bool) (b0_0 : List (List AV)) (nlstops1 : Bool) (stops1 : List (List AV)) (G0 : Nat → Option Go.Obj) (R : AV → List (Option Blk) → Prop) (h :
  ∃ b0,
  Good PG nG G0 f_greatseallaw_followed [] [] (AV.bool b0) [] ∧
    ifK (!b0) (∃ b1, Good PG nG G0 f_greatseallaw_followed [] [] (AV.bool b1) [] ∧ R (AV.bool b1) [])
      (∃ n2,
        Good PG nG G0 f_book_Check [AV.agg [AV.sl (2 : Nat) nlb0_0 none b0_0]] [] (AV.int Go.IntKind.i64 n2) [] ∧
          ifK (n2 != (0 : Int)) (∃ b3, Good PG nG G0 f_greatseallaw_followed [] [] (AV.bool b3) [] ∧ R (AV.bool b3) [])
            ((0 : Int) ≤ (0 : Int) ∧
              ((0 : Int) ≤ if (20 : Int) < (↑(List.length stops1) : Int) then (20 : Int) else (↑(List.length stops1) : Int)) ∧
                (if (20 : Int) < (↑(List.length stops1) : Int) then (20 : Int) else (↑(List.length stops1) : Int)) ≤ (↑(List.length stops1) : Int) ∧
                  ∃ b4 xs5,
                    Good PG nG G0 f_slices_Clone_int [AV.sl (1 : Nat) nlstops1 none (List.drop (0 : Nat) (List.take (Int.toNat (if (20 : Int) < (↑(List.length stops1) : Int) then (20 : Int) else (↑(List.length stops1) : Int))) stops1))] []
                        (AV.sl (1 : Nat) b4 (some (0 : Nat)) xs5) [some (Blk.grow (1 : Nat) (List.length xs5))] ∧
                      (List.length xs5 + List.length [[AV.int Go.IntKind.i64 (↑(List.length b0_0) : Int)]]) * (8 : Nat) ≤ (140737488355328 : Nat) ∧
                        List.length xs5 = List.length xs5 ∧
                          Does PG nG G0 (fnOf PG f_greatseallaw_ClientFollows) (0 : Nat) (lp PG f_greatseallaw_ClientFollows (0 : Nat))
                            (mkT (96 : Nat)
                              [((2 : Nat), AV.ref (0 : Nat) (0 : Nat)), ((5 : Nat), AV.ref (1 : Nat) (0 : Nat)),
                                ((31 : Nat), AV.sl (1 : Nat) (b4 && List.isEmpty [[AV.int Go.IntKind.i64 (↑(List.length b0_0) : Int)]]) (some (2 : Nat)) (xs5 ++ [[AV.int Go.IntKind.i64 (↑(List.length b0_0) : Int)]])),
                                ((32 : Nat), AV.int Go.IntKind.i64 (↑(List.length (xs5 ++ [[AV.int Go.IntKind.i64 (↑(List.length b0_0) : Int)]])) : Int)), ((33 : Nat), AV.int Go.IntKind.i64 (0 : Int))])
                            [some (Blk.var [AV.sl (2 : Nat) nlb0_0 none b0_0]), some (Blk.var [AV.int Go.IntKind.i64 (0 : Int), AV.str [], AV.str [], AV.bool false]),
                              some (Blk.grow (1 : Nat) (List.length xs5 + List.length [[AV.int Go.IntKind.i64 (↑(List.length b0_0) : Int)]]))]
                            R))) :
  Hold (runF PG ty nG G0 an_greatseallaw_ClientFollows f_greatseallaw_ClientFollows [AV.agg [AV.sl (2 : Nat) nlb0_0 none b0_0], AV.sl (1 : Nat) nlstops1 none stops1] [] R) := kshow h (by kernel_rfl)

theorem greatseallaw_ClientFollows_l0_run (G0 : Nat → Option Obj) (b6 : Bool) (xs7 : List (List AV)) (n8 : Int) (n9 : Int) (b10 : Bool) (xs11 : List (List AV)) (n12 : Int) (s13 : List UInt8) (s14 : List UInt8) (b15 : Bool) (m16 : Nat) (R : AV → List (Option Blk) → Prop) (h :
  ifK (decide (n9 < n8))
  ((0 : Int) ≤ n9 ∧
    ∃ n17,
      xs7[Int.toNat n9]? = some [AV.int Go.IntKind.i64 n17] ∧
        ∃ n18,
          Good PG nG G0 f_greatseallaw_at [AV.int Go.IntKind.i64 n17, AV.int Go.IntKind.i64 (Go.IntKind.wrap Go.IntKind.i64 ((↑(List.length xs11) : Int) + (1 : Int)))] [] (AV.int Go.IntKind.i64 n18) [] ∧
            ifK (decide (n18 < n12))
              (Does PG nG G0 (fnOf PG f_greatseallaw_ClientFollows) (0 : Nat) (lp PG f_greatseallaw_ClientFollows (0 : Nat))
                (mkT (96 : Nat)
                  [((2 : Nat), AV.ref (0 : Nat) (0 : Nat)), ((5 : Nat), AV.ref (1 : Nat) (0 : Nat)), ((31 : Nat), AV.sl (1 : Nat) b6 (some (2 : Nat)) xs7), ((32 : Nat), AV.int Go.IntKind.i64 n8),
                    ((33 : Nat), AV.int Go.IntKind.i64 (Go.IntKind.wrap Go.IntKind.i64 (n9 + (1 : Int))))])
                [some (Blk.var [AV.sl (2 : Nat) b10 none xs11]), some (Blk.var [AV.int Go.IntKind.i64 n12, AV.str s13, AV.str s14, AV.bool b15]), some (Blk.grow (1 : Nat) m16)] R)
              ((0 : Int) ≤ (0 : Int) ∧
                (0 : Int) ≤ n18 ∧
                  n18 ≤ (↑(List.length xs11) : Int) ∧
                    ∃ n19 s20 s21 n22,
                      Good PG nG G0 f_book_Head [AV.agg [AV.sl (2 : Nat) b10 none (List.drop (0 : Nat) (List.take (Int.toNat n18) xs11))]] []
                          (AV.tup [AV.agg [AV.int Go.IntKind.i64 n19, AV.str s20, AV.str s21], AV.int Go.IntKind.i64 n22]) [] ∧
                        ifK (decide (n12 > (0 : Int)))
                          (ifK (n22 == (0 : Int))
                            (∃ b23 xs24 n25,
                              Good PG nG G0 f_show_Growth [AV.agg [AV.sl (2 : Nat) b10 none (List.drop (0 : Nat) (List.take (Int.toNat n18) xs11))], AV.int Go.IntKind.i64 n12] []
                                  (AV.tup [AV.sl (1 : Nat) b23 none xs24, AV.int Go.IntKind.i64 n25]) [] ∧
                                ifK (n25 != (0 : Int)) (R (AV.bool false) [])
                                  (∃ n26 s27 s28 b29 n30,
                                    Good PG nG G0 f_client_Follow [AV.agg [AV.int Go.IntKind.i64 n12, AV.str s13, AV.str s14, AV.bool b15], AV.agg [AV.int Go.IntKind.i64 n19, AV.str s20, AV.str s21], AV.sl (1 : Nat) b23 none xs24] []
                                        (AV.tup [AV.agg [AV.int Go.IntKind.i64 n26, AV.str s27, AV.str s28, AV.bool b29], AV.int Go.IntKind.i64 n30]) [] ∧
                                      ifK (n30 != (0 : Int)) (R (AV.bool false) [])
                                        (ifK b29 (R (AV.bool false) [])
                                          (ifK (!eqAll [AV.int Go.IntKind.i64 n26, AV.str s27, AV.str s28] [AV.int Go.IntKind.i64 n19, AV.str s20, AV.str s21]) (R (AV.bool false) [])
                                            (Does PG nG G0 (fnOf PG f_greatseallaw_ClientFollows) (0 : Nat) (lp PG f_greatseallaw_ClientFollows (0 : Nat))
                                              (mkT (96 : Nat)
                                                [((2 : Nat), AV.ref (0 : Nat) (0 : Nat)), ((5 : Nat), AV.ref (1 : Nat) (0 : Nat)), ((31 : Nat), AV.sl (1 : Nat) b6 (some (2 : Nat)) xs7), ((32 : Nat), AV.int Go.IntKind.i64 n8),
                                                  ((33 : Nat), AV.int Go.IntKind.i64 (Go.IntKind.wrap Go.IntKind.i64 (n9 + (1 : Int))))])
                                              [some (Blk.var [AV.sl (2 : Nat) b10 none xs11]), some (Blk.var [AV.int Go.IntKind.i64 n26, AV.str s27, AV.str s28, AV.bool b29]), some (Blk.grow (1 : Nat) m16)] R)))))
                            (ifK (n22 != (0 : Int)) (R (AV.bool false) [])
                              (∃ n31 s32 s33 b34 n35,
                                Good PG nG G0 f_client_Follow [AV.agg [AV.int Go.IntKind.i64 n12, AV.str s13, AV.str s14, AV.bool b15], AV.agg [AV.int Go.IntKind.i64 n19, AV.str s20, AV.str s21], AV.sl (1 : Nat) true none []] []
                                    (AV.tup [AV.agg [AV.int Go.IntKind.i64 n31, AV.str s32, AV.str s33, AV.bool b34], AV.int Go.IntKind.i64 n35]) [] ∧
                                  ifK (n35 != (0 : Int)) (R (AV.bool false) [])
                                    (ifK b34 (R (AV.bool false) [])
                                      (ifK (!eqAll [AV.int Go.IntKind.i64 n31, AV.str s32, AV.str s33] [AV.int Go.IntKind.i64 n19, AV.str s20, AV.str s21]) (R (AV.bool false) [])
                                        (Does PG nG G0 (fnOf PG f_greatseallaw_ClientFollows) (0 : Nat) (lp PG f_greatseallaw_ClientFollows (0 : Nat))
                                          (mkT (96 : Nat)
                                            [((2 : Nat), AV.ref (0 : Nat) (0 : Nat)), ((5 : Nat), AV.ref (1 : Nat) (0 : Nat)), ((31 : Nat), AV.sl (1 : Nat) b6 (some (2 : Nat)) xs7), ((32 : Nat), AV.int Go.IntKind.i64 n8),
                                              ((33 : Nat), AV.int Go.IntKind.i64 (Go.IntKind.wrap Go.IntKind.i64 (n9 + (1 : Int))))])
                                          [some (Blk.var [AV.sl (2 : Nat) b10 none xs11]), some (Blk.var [AV.int Go.IntKind.i64 n31, AV.str s32, AV.str s33, AV.bool b34]), some (Blk.grow (1 : Nat) m16)] R))))))
                          (ifK (n22 != (0 : Int)) (R (AV.bool false) [])
                            (∃ n36 s37 s38 b39 n40,
                              Good PG nG G0 f_client_Follow [AV.agg [AV.int Go.IntKind.i64 n12, AV.str s13, AV.str s14, AV.bool b15], AV.agg [AV.int Go.IntKind.i64 n19, AV.str s20, AV.str s21], AV.sl (1 : Nat) true none []] []
                                  (AV.tup [AV.agg [AV.int Go.IntKind.i64 n36, AV.str s37, AV.str s38, AV.bool b39], AV.int Go.IntKind.i64 n40]) [] ∧
                                ifK (n40 != (0 : Int)) (R (AV.bool false) [])
                                  (ifK b39 (R (AV.bool false) [])
                                    (ifK (!eqAll [AV.int Go.IntKind.i64 n36, AV.str s37, AV.str s38] [AV.int Go.IntKind.i64 n19, AV.str s20, AV.str s21]) (R (AV.bool false) [])
                                      (Does PG nG G0 (fnOf PG f_greatseallaw_ClientFollows) (0 : Nat) (lp PG f_greatseallaw_ClientFollows (0 : Nat))
                                        (mkT (96 : Nat)
                                          [((2 : Nat), AV.ref (0 : Nat) (0 : Nat)), ((5 : Nat), AV.ref (1 : Nat) (0 : Nat)), ((31 : Nat), AV.sl (1 : Nat) b6 (some (2 : Nat)) xs7), ((32 : Nat), AV.int Go.IntKind.i64 n8),
                                            ((33 : Nat), AV.int Go.IntKind.i64 (Go.IntKind.wrap Go.IntKind.i64 (n9 + (1 : Int))))])
                                        [some (Blk.var [AV.sl (2 : Nat) b10 none xs11]), some (Blk.var [AV.int Go.IntKind.i64 n36, AV.str s37, AV.str s38, AV.bool b39]), some (Blk.grow (1 : Nat) m16)] R)))))))
  (R (AV.bool true) [])) :
  Hold (runL PG ty nG G0 an_greatseallaw_ClientFollows f_greatseallaw_ClientFollows (0 : Nat) (0 : Nat)
  (mkT (96 : Nat) [((2 : Nat), AV.ref (0 : Nat) (0 : Nat)), ((5 : Nat), AV.ref (1 : Nat) (0 : Nat)), ((31 : Nat), AV.sl (1 : Nat) b6 (some (2 : Nat)) xs7), ((32 : Nat), AV.int Go.IntKind.i64 n8), ((33 : Nat), AV.int Go.IntKind.i64 n9)])
  [some (Blk.var [AV.sl (2 : Nat) b10 none xs11]), some (Blk.var [AV.int Go.IntKind.i64 n12, AV.str s13, AV.str s14, AV.bool b15]), some (Blk.grow (1 : Nat) m16)] R) := kshow h (by kernel_rfl)

theorem greatseallaw_ClientSays_run (c0_0 : Int) (c0_1 : List UInt8) (c0_2 : List UInt8) (c0_3 : Bool) (h1_0 : Int) (h1_1 : List UInt8) (h1_2 : List UInt8) (nll2 : Bool) (l2 : List (List AV)) (i3 : Int) (x4_0 : Int) (x4_1 : List UInt8) (nls5 : Bool) (s5 : List (List AV)) (there6 : Bool) (G0 : Nat → Option Go.Obj) (R : AV → List (Option Blk) → Prop) (h :
  ∃ n0 s1 s2 b3 n4,
  Good PG nG G0 f_client_Follow [AV.agg [AV.int Go.IntKind.i64 c0_0, AV.str c0_1, AV.str c0_2, AV.bool c0_3], AV.agg [AV.int Go.IntKind.i64 h1_0, AV.str h1_1, AV.str h1_2], AV.sl (1 : Nat) nll2 none l2] []
      (AV.tup [AV.agg [AV.int Go.IntKind.i64 n0, AV.str s1, AV.str s2, AV.bool b3], AV.int Go.IntKind.i64 n4]) [] ∧
    ∃ n5 s6 s7 b8 n9,
      Good PG nG G0 f_greatsealref_Follows [AV.agg [AV.int Go.IntKind.i64 c0_0, AV.str c0_1, AV.str c0_2, AV.bool c0_3], AV.agg [AV.int Go.IntKind.i64 h1_0, AV.str h1_1, AV.str h1_2], AV.sl (1 : Nat) nll2 none l2] []
          (AV.tup [AV.agg [AV.int Go.IntKind.i64 n5, AV.str s6, AV.str s7, AV.bool b8], AV.int Go.IntKind.i64 n9]) [] ∧
        ∃ n10,
          Good PG nG G0 f_greatsealref_CheckHead [AV.agg [AV.int Go.IntKind.i64 c0_0, AV.str c0_1, AV.str c0_2]] [] (AV.int Go.IntKind.i64 n10) [] ∧
            ∃ n11,
              Good PG nG G0 f_client_Sees [AV.agg [AV.int Go.IntKind.i64 c0_0, AV.str c0_1, AV.str c0_2, AV.bool c0_3], AV.int Go.IntKind.i64 i3, AV.agg [AV.int Go.IntKind.i64 x4_0, AV.str x4_1], AV.sl (2 : Nat) nls5 none s5] []
                  (AV.int Go.IntKind.i64 n11) [] ∧
                ∃ n12,
                  Good PG nG G0 f_client_Finds [AV.agg [AV.int Go.IntKind.i64 c0_0, AV.str c0_1, AV.str c0_2, AV.bool c0_3], AV.int Go.IntKind.i64 i3, AV.str x4_1, AV.bool there6, AV.sl (1 : Nat) nll2 none l2] []
                      (AV.int Go.IntKind.i64 n12) [] ∧
                    ∃ b13,
                      Good PG nG G0 f_greatseallaw_followed [] [] (AV.bool b13) [] ∧
                        ifK (!b13) (R (AV.bool false) [])
                          (ifK (n4 != n9) (R (AV.bool false) [])
                            (ifK (!eqAll [AV.int Go.IntKind.i64 n0, AV.str s1, AV.str s2, AV.bool b3] [AV.int Go.IntKind.i64 n5, AV.str s6, AV.str s7, AV.bool b8]) (R (AV.bool false) [])
                              (ifK (n10 != (0 : Int)) (ifK (n11 == n10) (R (AV.bool (n12 == n10)) []) (R (AV.bool false) []))
                                (∃ s14,
                                  Good PG nG G0 f_greatsealref_TextOf [AV.agg [AV.int Go.IntKind.i64 x4_0, AV.str x4_1]] [] (AV.str s14) [] ∧
                                    ∃ n15,
                                      Good PG nG G0 f_greatsealref_PathShows [AV.str c0_1, AV.int Go.IntKind.i64 c0_0, AV.int Go.IntKind.i64 i3, AV.str s14, AV.sl (2 : Nat) nls5 none s5] [] (AV.int Go.IntKind.i64 n15) [] ∧
                                        ifK (n11 == n15)
                                          (∃ n16,
                                            Good PG nG G0 f_greatsealref_MapShows [AV.str c0_2, AV.int Go.IntKind.i64 i3, AV.str x4_1, AV.bool there6, AV.sl (1 : Nat) nll2 none l2] [] (AV.int Go.IntKind.i64 n16) [] ∧ R (AV.bool (n12 == n16)) [])
                                          (R (AV.bool false) [])))))) :
  Hold (runF PG ty nG G0 an_greatseallaw_ClientSays f_greatseallaw_ClientSays
  [AV.agg [AV.int Go.IntKind.i64 c0_0, AV.str c0_1, AV.str c0_2, AV.bool c0_3], AV.agg [AV.int Go.IntKind.i64 h1_0, AV.str h1_1, AV.str h1_2], AV.sl (1 : Nat) nll2 none l2, AV.int Go.IntKind.i64 i3,
    AV.agg [AV.int Go.IntKind.i64 x4_0, AV.str x4_1], AV.sl (2 : Nat) nls5 none s5, AV.bool there6]
  [] R) := kshow h (by kernel_rfl)

theorem greatseallaw_ClientTrue_run (nlb0_0 : Bool) (b0_0 : List (List AV)) (nlo1_0 : Bool) (o1_0 : List (List AV)) (nll2 : Bool) (l2 : List (List AV)) (i3 : Int) (x4_0 : Int) (x4_1 : List UInt8) (nls5 : Bool) (s5 : List (List AV)) (there6 : Bool) (G0 : Nat → Option Go.Obj) (R : AV → List (Option Blk) → Prop) (h :
  ∃ n0 s1 s2 n3,
  Good PG nG G0 f_book_Head [AV.agg [AV.sl (2 : Nat) nlb0_0 none b0_0]] [] (AV.tup [AV.agg [AV.int Go.IntKind.i64 n0, AV.str s1, AV.str s2], AV.int Go.IntKind.i64 n3]) [] ∧
    ∃ n4 s5_1 s6 n7,
      Good PG nG G0 f_book_Head [AV.agg [AV.sl (2 : Nat) nlo1_0 none o1_0]] [] (AV.tup [AV.agg [AV.int Go.IntKind.i64 n4, AV.str s5_1, AV.str s6], AV.int Go.IntKind.i64 n7]) [] ∧
        ∃ b8,
          Good PG nG G0 f_greatseallaw_followed [] [] (AV.bool b8) [] ∧
            ifK (!b8) (∃ b9, Good PG nG G0 f_greatseallaw_followed [] [] (AV.bool b9) [] ∧ R (AV.bool b9) [])
              (ifK (n3 != (0 : Int)) (∃ b10, Good PG nG G0 f_greatseallaw_followed [] [] (AV.bool b10) [] ∧ R (AV.bool b10) [])
                (ifK (n7 != (0 : Int)) (∃ b11, Good PG nG G0 f_greatseallaw_followed [] [] (AV.bool b11) [] ∧ R (AV.bool b11) [])
                  (∃ n12 s13 s14 b15 n16,
                    Good PG nG G0 f_client_Follow [AV.agg [AV.int Go.IntKind.i64 n0, AV.str s1, AV.str s2, AV.bool false], AV.agg [AV.int Go.IntKind.i64 n4, AV.str s5_1, AV.str s6], AV.sl (1 : Nat) nll2 none l2] []
                        (AV.tup [AV.agg [AV.int Go.IntKind.i64 n12, AV.str s13, AV.str s14, AV.bool b15], AV.int Go.IntKind.i64 n16]) [] ∧
                      ifK (n16 == (0 : Int))
                        (ifK (decide (n0 > (0 : Int)))
                          (ifK (decide ((↑(List.length o1_0) : Int) < (↑(List.length b0_0) : Int))) (R (AV.bool false) [])
                            ((0 : Int) ≤ (0 : Int) ∧
                              (0 : Int) ≤ (↑(List.length b0_0) : Int) ∧
                                (↑(List.length b0_0) : Int) ≤ (↑(List.length o1_0) : Int) ∧
                                  ∃ b17,
                                    Good PG nG G0 f_slices_Equal_Entry [AV.sl (2 : Nat) nlo1_0 none (List.drop (0 : Nat) (List.take (Int.toNat (↑(List.length b0_0) : Int)) o1_0)), AV.sl (2 : Nat) nlb0_0 none b0_0] [] (AV.bool b17) [] ∧
                                      ifK (!b17) (R (AV.bool false) [])
                                        (ifK (!eqAll [AV.int Go.IntKind.i64 n12, AV.str s13, AV.str s14] [AV.int Go.IntKind.i64 n4, AV.str s5_1, AV.str s6]) (R (AV.bool false) [])
                                          (∃ n18,
                                            Good PG nG G0 f_client_Sees
                                                [AV.agg [AV.int Go.IntKind.i64 n0, AV.str s1, AV.str s2, AV.bool false], AV.int Go.IntKind.i64 i3, AV.agg [AV.int Go.IntKind.i64 x4_0, AV.str x4_1], AV.sl (2 : Nat) nls5 none s5] []
                                                (AV.int Go.IntKind.i64 n18) [] ∧
                                              ifK (n18 == (0 : Int))
                                                (ifK (decide (i3 < (0 : Int))) (R (AV.bool false) [])
                                                  (ifK (decide (i3 ≥ (↑(List.length b0_0) : Int))) (R (AV.bool false) [])
                                                    ((0 : Int) ≤ i3 ∧
                                                      ∃ n19 s20,
                                                        b0_0[Int.toNat i3]? = some [AV.int Go.IntKind.i64 n19, AV.str s20] ∧
                                                          ∃ s21,
                                                            Good PG nG G0 f_book_Text [AV.agg [AV.int Go.IntKind.i64 n19, AV.str s20]] [] (AV.str s21) [] ∧
                                                              ∃ s22,
                                                                Good PG nG G0 f_book_Text [AV.agg [AV.int Go.IntKind.i64 x4_0, AV.str x4_1]] [] (AV.str s22) [] ∧
                                                                  ifK (!s21 == s22) (R (AV.bool false) [])
                                                                    (∃ b23 xs24 n25,
                                                                      Good PG nG G0 f_book_Values [AV.agg [AV.sl (2 : Nat) nlb0_0 none b0_0]] [] (AV.tup [AV.mp b23 xs24, AV.int Go.IntKind.i64 n25]) [] ∧
                                                                        ∃ s26 b27,
                                                                          mlookD Go.IntKind.i64 i3 (AV.str []) xs24 = some (AV.str s26, b27) ∧
                                                                            ifK (n25 == (0 : Int))
                                                                              (∃ n28,
                                                                                Good PG nG G0 f_client_Finds
                                                                                    [AV.agg [AV.int Go.IntKind.i64 n0, AV.str s1, AV.str s2, AV.bool false], AV.int Go.IntKind.i64 i3, AV.str x4_1, AV.bool there6,
                                                                                      AV.sl (1 : Nat) nll2 none l2]
                                                                                    [] (AV.int Go.IntKind.i64 n28) [] ∧
                                                                                  ifK (n28 != (0 : Int)) (R (AV.bool true) []) (ifK (there6 == b27) (R (AV.bool (x4_1 == s26)) []) (R (AV.bool false) [])))
                                                                              (R (AV.bool false) [])))))
                                                (∃ b29 xs30 n31,
                                                  Good PG nG G0 f_book_Values [AV.agg [AV.sl (2 : Nat) nlb0_0 none b0_0]] [] (AV.tup [AV.mp b29 xs30, AV.int Go.IntKind.i64 n31]) [] ∧
                                                    ∃ s32 b33,
                                                      mlookD Go.IntKind.i64 i3 (AV.str []) xs30 = some (AV.str s32, b33) ∧
                                                        ifK (n31 == (0 : Int))
                                                          (∃ n34,
                                                            Good PG nG G0 f_client_Finds
                                                                [AV.agg [AV.int Go.IntKind.i64 n0, AV.str s1, AV.str s2, AV.bool false], AV.int Go.IntKind.i64 i3, AV.str x4_1, AV.bool there6, AV.sl (1 : Nat) nll2 none l2] []
                                                                (AV.int Go.IntKind.i64 n34) [] ∧
                                                              ifK (n34 != (0 : Int)) (R (AV.bool true) []) (ifK (there6 == b33) (R (AV.bool (x4_1 == s32)) []) (R (AV.bool false) [])))
                                                          (R (AV.bool false) []))))))
                          (∃ n35,
                            Good PG nG G0 f_client_Sees [AV.agg [AV.int Go.IntKind.i64 n0, AV.str s1, AV.str s2, AV.bool false], AV.int Go.IntKind.i64 i3, AV.agg [AV.int Go.IntKind.i64 x4_0, AV.str x4_1], AV.sl (2 : Nat) nls5 none s5]
                                [] (AV.int Go.IntKind.i64 n35) [] ∧
                              ifK (n35 == (0 : Int))
                                (ifK (decide (i3 < (0 : Int))) (R (AV.bool false) [])
                                  (ifK (decide (i3 ≥ (↑(List.length b0_0) : Int))) (R (AV.bool false) [])
                                    ((0 : Int) ≤ i3 ∧
                                      ∃ n36 s37,
                                        b0_0[Int.toNat i3]? = some [AV.int Go.IntKind.i64 n36, AV.str s37] ∧
                                          ∃ s38,
                                            Good PG nG G0 f_book_Text [AV.agg [AV.int Go.IntKind.i64 n36, AV.str s37]] [] (AV.str s38) [] ∧
                                              ∃ s39,
                                                Good PG nG G0 f_book_Text [AV.agg [AV.int Go.IntKind.i64 x4_0, AV.str x4_1]] [] (AV.str s39) [] ∧
                                                  ifK (!s38 == s39) (R (AV.bool false) [])
                                                    (∃ b40 xs41 n42,
                                                      Good PG nG G0 f_book_Values [AV.agg [AV.sl (2 : Nat) nlb0_0 none b0_0]] [] (AV.tup [AV.mp b40 xs41, AV.int Go.IntKind.i64 n42]) [] ∧
                                                        ∃ s43 b44,
                                                          mlookD Go.IntKind.i64 i3 (AV.str []) xs41 = some (AV.str s43, b44) ∧
                                                            ifK (n42 == (0 : Int))
                                                              (∃ n45,
                                                                Good PG nG G0 f_client_Finds
                                                                    [AV.agg [AV.int Go.IntKind.i64 n0, AV.str s1, AV.str s2, AV.bool false], AV.int Go.IntKind.i64 i3, AV.str x4_1, AV.bool there6, AV.sl (1 : Nat) nll2 none l2] []
                                                                    (AV.int Go.IntKind.i64 n45) [] ∧
                                                                  ifK (n45 != (0 : Int)) (R (AV.bool true) []) (ifK (there6 == b44) (R (AV.bool (x4_1 == s43)) []) (R (AV.bool false) [])))
                                                              (R (AV.bool false) [])))))
                                (∃ b46 xs47 n48,
                                  Good PG nG G0 f_book_Values [AV.agg [AV.sl (2 : Nat) nlb0_0 none b0_0]] [] (AV.tup [AV.mp b46 xs47, AV.int Go.IntKind.i64 n48]) [] ∧
                                    ∃ s49 b50,
                                      mlookD Go.IntKind.i64 i3 (AV.str []) xs47 = some (AV.str s49, b50) ∧
                                        ifK (n48 == (0 : Int))
                                          (∃ n51,
                                            Good PG nG G0 f_client_Finds [AV.agg [AV.int Go.IntKind.i64 n0, AV.str s1, AV.str s2, AV.bool false], AV.int Go.IntKind.i64 i3, AV.str x4_1, AV.bool there6, AV.sl (1 : Nat) nll2 none l2] []
                                                (AV.int Go.IntKind.i64 n51) [] ∧
                                              ifK (n51 != (0 : Int)) (R (AV.bool true) []) (ifK (there6 == b50) (R (AV.bool (x4_1 == s49)) []) (R (AV.bool false) [])))
                                          (R (AV.bool false) []))))
                        (∃ n52,
                          Good PG nG G0 f_client_Sees [AV.agg [AV.int Go.IntKind.i64 n0, AV.str s1, AV.str s2, AV.bool false], AV.int Go.IntKind.i64 i3, AV.agg [AV.int Go.IntKind.i64 x4_0, AV.str x4_1], AV.sl (2 : Nat) nls5 none s5] []
                              (AV.int Go.IntKind.i64 n52) [] ∧
                            ifK (n52 == (0 : Int))
                              (ifK (decide (i3 < (0 : Int))) (R (AV.bool false) [])
                                (ifK (decide (i3 ≥ (↑(List.length b0_0) : Int))) (R (AV.bool false) [])
                                  ((0 : Int) ≤ i3 ∧
                                    ∃ n53 s54,
                                      b0_0[Int.toNat i3]? = some [AV.int Go.IntKind.i64 n53, AV.str s54] ∧
                                        ∃ s55,
                                          Good PG nG G0 f_book_Text [AV.agg [AV.int Go.IntKind.i64 n53, AV.str s54]] [] (AV.str s55) [] ∧
                                            ∃ s56,
                                              Good PG nG G0 f_book_Text [AV.agg [AV.int Go.IntKind.i64 x4_0, AV.str x4_1]] [] (AV.str s56) [] ∧
                                                ifK (!s55 == s56) (R (AV.bool false) [])
                                                  (∃ b57 xs58 n59,
                                                    Good PG nG G0 f_book_Values [AV.agg [AV.sl (2 : Nat) nlb0_0 none b0_0]] [] (AV.tup [AV.mp b57 xs58, AV.int Go.IntKind.i64 n59]) [] ∧
                                                      ∃ s60 b61,
                                                        mlookD Go.IntKind.i64 i3 (AV.str []) xs58 = some (AV.str s60, b61) ∧
                                                          ifK (n59 == (0 : Int))
                                                            (∃ n62,
                                                              Good PG nG G0 f_client_Finds
                                                                  [AV.agg [AV.int Go.IntKind.i64 n0, AV.str s1, AV.str s2, AV.bool false], AV.int Go.IntKind.i64 i3, AV.str x4_1, AV.bool there6, AV.sl (1 : Nat) nll2 none l2] []
                                                                  (AV.int Go.IntKind.i64 n62) [] ∧
                                                                ifK (n62 != (0 : Int)) (R (AV.bool true) []) (ifK (there6 == b61) (R (AV.bool (x4_1 == s60)) []) (R (AV.bool false) [])))
                                                            (R (AV.bool false) [])))))
                              (∃ b63 xs64 n65,
                                Good PG nG G0 f_book_Values [AV.agg [AV.sl (2 : Nat) nlb0_0 none b0_0]] [] (AV.tup [AV.mp b63 xs64, AV.int Go.IntKind.i64 n65]) [] ∧
                                  ∃ s66 b67,
                                    mlookD Go.IntKind.i64 i3 (AV.str []) xs64 = some (AV.str s66, b67) ∧
                                      ifK (n65 == (0 : Int))
                                        (∃ n68,
                                          Good PG nG G0 f_client_Finds [AV.agg [AV.int Go.IntKind.i64 n0, AV.str s1, AV.str s2, AV.bool false], AV.int Go.IntKind.i64 i3, AV.str x4_1, AV.bool there6, AV.sl (1 : Nat) nll2 none l2] []
                                              (AV.int Go.IntKind.i64 n68) [] ∧
                                            ifK (n68 != (0 : Int)) (R (AV.bool true) []) (ifK (there6 == b67) (R (AV.bool (x4_1 == s66)) []) (R (AV.bool false) [])))
                                        (R (AV.bool false) []))))))) :
  Hold (runF PG ty nG G0 an_greatseallaw_ClientTrue f_greatseallaw_ClientTrue
  [AV.agg [AV.sl (2 : Nat) nlb0_0 none b0_0], AV.agg [AV.sl (2 : Nat) nlo1_0 none o1_0], AV.sl (1 : Nat) nll2 none l2, AV.int Go.IntKind.i64 i3, AV.agg [AV.int Go.IntKind.i64 x4_0, AV.str x4_1], AV.sl (2 : Nat) nls5 none s5, AV.bool there6]
  [] R) := kshow h (by kernel_rfl)

theorem greatseallaw_ClientAsks_run (nlb0_0 : Bool) (b0_0 : List (List AV)) (x1_0 : Int) (x1_1 : List UInt8) (i2 : Int) (key3 : Int) (G0 : Nat → Option Go.Obj) (R : AV → List (Option Blk) → Prop) (h :
  ∃ n0 s1 s2 n3,
  Good PG nG G0 f_book_Head [AV.agg [AV.sl (2 : Nat) nlb0_0 none b0_0]] [] (AV.tup [AV.agg [AV.int Go.IntKind.i64 n0, AV.str s1, AV.str s2], AV.int Go.IntKind.i64 n3]) [] ∧
    ∃ b4,
      Good PG nG G0 f_greatseallaw_followed [] [] (AV.bool b4) [] ∧
        ifK (!b4) (∃ b5, Good PG nG G0 f_greatseallaw_followed [] [] (AV.bool b5) [] ∧ R (AV.bool b5) [])
          (ifK (n3 != (0 : Int)) (∃ b6, Good PG nG G0 f_greatseallaw_followed [] [] (AV.bool b6) [] ∧ R (AV.bool b6) [])
            (∃ n7,
              Good PG nG G0 f_greatseallaw_at [AV.int Go.IntKind.i64 key3, AV.int Go.IntKind.i64 (16 : Int)] [] (AV.int Go.IntKind.i64 n7) [] ∧
                ∃ s8 b9 b10 xs11 n12,
                  Good PG nG G0 f_show_Value [AV.agg [AV.sl (2 : Nat) nlb0_0 none b0_0], AV.int Go.IntKind.i64 n7] [] (AV.tup [AV.str s8, AV.bool b9, AV.sl (1 : Nat) b10 none xs11, AV.int Go.IntKind.i64 n12]) [] ∧
                    ifK (n12 != (0 : Int)) (R (AV.bool false) [])
                      (∃ n13,
                        Good PG nG G0 f_client_Finds [AV.agg [AV.int Go.IntKind.i64 n0, AV.str s1, AV.str s2, AV.bool false], AV.int Go.IntKind.i64 n7, AV.str s8, AV.bool b9, AV.sl (1 : Nat) b10 none xs11] [] (AV.int Go.IntKind.i64 n13)
                            [] ∧
                          ifK (n13 != (0 : Int)) (R (AV.bool false) [])
                            (ifK (decide ((↑(List.length b0_0) : Int) > (0 : Int)))
                              (∃ n14,
                                Good PG nG G0 f_greatseallaw_at [AV.int Go.IntKind.i64 i2, AV.int Go.IntKind.i64 (↑(List.length b0_0) : Int)] [] (AV.int Go.IntKind.i64 n14) [] ∧
                                  ∃ n15 s16 b17 xs18 n19,
                                    Good PG nG G0 f_show_Entry [AV.agg [AV.sl (2 : Nat) nlb0_0 none b0_0], AV.int Go.IntKind.i64 n14] []
                                        (AV.tup [AV.agg [AV.int Go.IntKind.i64 n15, AV.str s16], AV.sl (2 : Nat) b17 none xs18, AV.int Go.IntKind.i64 n19]) [] ∧
                                      ifK (n19 != (0 : Int)) (R (AV.bool false) [])
                                        (∃ n20,
                                          Good PG nG G0 f_client_Sees
                                              [AV.agg [AV.int Go.IntKind.i64 n0, AV.str s1, AV.str s2, AV.bool false], AV.int Go.IntKind.i64 n14, AV.agg [AV.int Go.IntKind.i64 n15, AV.str s16], AV.sl (2 : Nat) b17 none xs18] []
                                              (AV.int Go.IntKind.i64 n20) [] ∧
                                            ifK (n20 != (0 : Int)) (R (AV.bool false) [])
                                              (∃ b21 xs22 n23,
                                                Good PG nG G0 f_book_Put [AV.agg [AV.sl (2 : Nat) nlb0_0 none b0_0], AV.agg [AV.int Go.IntKind.i64 x1_0, AV.str x1_1]] []
                                                    (AV.tup [AV.agg [AV.sl (2 : Nat) b21 none xs22], AV.int Go.IntKind.i64 n23]) [] ∧
                                                  ifK (n23 != (0 : Int)) (R (AV.bool true) [])
                                                    (∃ s24 b25 b26 xs27 n28,
                                                      Good PG nG G0 f_show_Value [AV.agg [AV.sl (2 : Nat) b21 none xs22], AV.int Go.IntKind.i64 x1_0] []
                                                          (AV.tup [AV.str s24, AV.bool b25, AV.sl (1 : Nat) b26 none xs27, AV.int Go.IntKind.i64 n28]) [] ∧
                                                        ifK (n28 != (0 : Int)) (R (AV.bool false) [])
                                                          (ifK (!b25) (R (AV.bool false) [])
                                                            (ifK (!s24 == x1_1) (R (AV.bool false) [])
                                                              (∃ s29 b30 b31 xs32 n33,
                                                                Good PG nG G0 f_show_Value [AV.agg [AV.sl (2 : Nat) nlb0_0 none b0_0], AV.int Go.IntKind.i64 x1_0] []
                                                                    (AV.tup [AV.str s29, AV.bool b30, AV.sl (1 : Nat) b31 none xs32, AV.int Go.IntKind.i64 n33]) [] ∧
                                                                  ifK (n33 == (0 : Int))
                                                                    (∃ n34,
                                                                      Good PG nG G0 f_client_Finds
                                                                          [AV.agg [AV.int Go.IntKind.i64 n0, AV.str s1, AV.str s2, AV.bool false], AV.int Go.IntKind.i64 x1_0, AV.str s24, AV.bool b25, AV.sl (1 : Nat) b26 none xs27] []
                                                                          (AV.int Go.IntKind.i64 n34) [] ∧
                                                                        ifK b30 (R (AV.bool ((n34 == (0 : Int)) == (s29 == s24))) []) (R (AV.bool ((n34 == (0 : Int)) == false)) []))
                                                                    (R (AV.bool false) []))))))))
                              (∃ b35 xs36 n37,
                                Good PG nG G0 f_book_Put [AV.agg [AV.sl (2 : Nat) nlb0_0 none b0_0], AV.agg [AV.int Go.IntKind.i64 x1_0, AV.str x1_1]] [] (AV.tup [AV.agg [AV.sl (2 : Nat) b35 none xs36], AV.int Go.IntKind.i64 n37])
                                    [] ∧
                                  ifK (n37 != (0 : Int)) (R (AV.bool true) [])
                                    (∃ s38 b39 b40 xs41 n42,
                                      Good PG nG G0 f_show_Value [AV.agg [AV.sl (2 : Nat) b35 none xs36], AV.int Go.IntKind.i64 x1_0] [] (AV.tup [AV.str s38, AV.bool b39, AV.sl (1 : Nat) b40 none xs41, AV.int Go.IntKind.i64 n42]) [] ∧
                                        ifK (n42 != (0 : Int)) (R (AV.bool false) [])
                                          (ifK (!b39) (R (AV.bool false) [])
                                            (ifK (!s38 == x1_1) (R (AV.bool false) [])
                                              (∃ s43 b44 b45 xs46 n47,
                                                Good PG nG G0 f_show_Value [AV.agg [AV.sl (2 : Nat) nlb0_0 none b0_0], AV.int Go.IntKind.i64 x1_0] []
                                                    (AV.tup [AV.str s43, AV.bool b44, AV.sl (1 : Nat) b45 none xs46, AV.int Go.IntKind.i64 n47]) [] ∧
                                                  ifK (n47 == (0 : Int))
                                                    (∃ n48,
                                                      Good PG nG G0 f_client_Finds
                                                          [AV.agg [AV.int Go.IntKind.i64 n0, AV.str s1, AV.str s2, AV.bool false], AV.int Go.IntKind.i64 x1_0, AV.str s38, AV.bool b39, AV.sl (1 : Nat) b40 none xs41] []
                                                          (AV.int Go.IntKind.i64 n48) [] ∧
                                                        ifK b44 (R (AV.bool ((n48 == (0 : Int)) == (s43 == s38))) []) (R (AV.bool ((n48 == (0 : Int)) == false)) []))
                                                    (R (AV.bool false) []))))))))))) :
  Hold (runF PG ty nG G0 an_greatseallaw_ClientAsks f_greatseallaw_ClientAsks [AV.agg [AV.sl (2 : Nat) nlb0_0 none b0_0], AV.agg [AV.int Go.IntKind.i64 x1_0, AV.str x1_1], AV.int Go.IntKind.i64 i2, AV.int Go.IntKind.i64 key3] [] R) := kshow h (by kernel_rfl)

theorem slices_Clone_int_run (nls0 : Bool) (s0 : List (List AV)) (G0 : Nat → Option Go.Obj) (R : AV → List (Option Blk) → Prop) (h :
  ifK nls0 (R (AV.sl (1 : Nat) true (some (0 : Nat)) []) [some (Blk.grow (1 : Nat) (0 : Nat))])
  (((0 : Nat) + List.length s0) * (8 : Nat) ≤ (140737488355328 : Nat) ∧ (0 : Nat) = (0 : Nat) ∧ R (AV.sl (1 : Nat) (false && List.isEmpty s0) (some (0 : Nat)) ([] ++ s0)) [some (Blk.grow (1 : Nat) ((0 : Nat) + List.length s0))])) :
  Hold (runF PG ty nG G0 an_slices_Clone_int f_slices_Clone_int [AV.sl (1 : Nat) nls0 none s0] [] R) := kshow h (by kernel_rfl)

end Go.Ab

namespace Go.Ab
open Go.Proofs Go.Gs
variable {G0 : Nat → Option Obj}

theorem eqAll_cl (c d : Cl) : eqAll [.int .i64 c.1.n, .str c.1.log, .str c.1.mp, .bool c.2] [.int .i64 d.1.n, .str d.1.log, .str d.1.mp, .bool d.2] = decide (c = d) := by
  obtain ⟨⟨a, b, c⟩, x⟩ := c
  obtain ⟨⟨d, e, f⟩, y⟩ := d
  by_cases h1 : a = d <;> by_cases h2 : b = e <;> by_cases h3 : c = f <;> by_cases h4 : x = y <;> simp [eqAll, eqC, h1, h2, h3, h4]

theorem good_ClientSays (hG : GlobOk G0) (c : Cl) (hcn : -9223372036854775808 ≤ c.1.n ∧ c.1.n ≤ 9223372036854775807) (h : Hd) (nl : Bool) (l : List By) (hs : ∀ s ∈ l, s.length ≤ 4611686018427387903) (hl : l.length ≤ 1000000000000000000) (i : Int)
    (x : En) (hx : (-9223372036854775808 ≤ x.1 ∧ x.1 ≤ 9223372036854775807) ∧ x.2.length ≤ 140737488351232) (ns : Bool) (st : List (Bool × By)) (hst : ∀ s ∈ st, s.2.length ≤ 4611686018427387903) (there : Bool) :
    Good PG nG G0 f_greatseallaw_ClientSays [.agg [.int .i64 c.1.n, .str c.1.log, .str c.1.mp, .bool c.2], .agg [.int .i64 h.n, .str h.log, .str h.mp], .sl 1 nl none (l.map S1), .int .i64 i, .agg [.int .i64 x.1, .str x.2], .sl 2 ns none (st.map S2), .bool there] [] (.bool true) [] := by
  suffices main : ∀ R : AV → List (Option Blk) → Prop, R (.bool true) [] → Hold (runF PG ty nG G0 an_greatseallaw_ClientSays f_greatseallaw_ClientSays [.agg [.int .i64 c.1.n, .str c.1.log, .str c.1.mp, .bool c.2], .agg [.int .i64 h.n, .str h.log, .str h.mp], .sl 1 nl none (l.map S1), .int .i64 i, .agg [.int .i64 x.1, .str x.2], .sl 2 ns none (st.map S2), .bool there] [] R) from
    good_of_run prOk (by kernel_rfl) (main _ ⟨rfl, rfl⟩)
  intro R hR
  refine greatseallaw_ClientSays_run _ _ _ _ _ _ _ nl _ i _ _ ns _ there G0 R ⟨_, _, _, _, _, good_Follow hG c h nl l hl, _, _, _, _, _, good_Follows hG c h nl l hs hl, _, good_CheckHead c.1, _, good_Sees hG c i x hx ns st, _, good_Finds hG c i x.2 there nl l, _, good_followed hG, ?_⟩
  rw [eqAll_cl, decide_eq_true rfl]
  simp only [Bool.not_true, ifF, bne_self_eq_false]
  refine ifK_ne0 (fun h1 => ?_) fun h1 => ?_
  · have e1 : seesR c i x st = checkH c.1 := by rw [seesR, if_pos h1]
    have e2 : findsR c i x.2 there l = checkH c.1 := by rw [findsR, if_pos h1]
    rw [e1, e2]
    simp only [beq_self_eq_true, ifT]
    exact hR
  · have e1 : seesR c i x st = pathShows c.1.log c.1.n i (textE x) st := by rw [seesR, if_neg (by simpa using h1)]
    have e2 : findsR c i x.2 there l = trieShows c.1.mp i x.2 there l := by rw [findsR, if_neg (by simpa using h1)]
    rw [e1, e2]
    refine ⟨_, good_TextOf hG x hx, _, good_PathShows hG c.1.log c.1.n i hcn (textE x) ns st hst, ?_⟩
    simp only [beq_self_eq_true, ifT]
    refine ⟨_, good_MapShows hG c.1.mp i x.2 there nl l hs, ?_⟩
    rw [beq_self_eq_true]
    exact hR

theorem finds_iff {b : Bk} (hc : checkB b = 0) {k : Nat} (hk : k < 16) (v : By) (there : Bool) (l : List By) :
    findsR ((headOf b).1, false) k v there l = 0 ↔ (there = (mGet (valsOf b) k).isSome ∧ v = (mGet (valsOf b) k).getD [] ∧ l = triePath (fM (valsOf b)) k 4) := by
  unfold findsR
  rw [if_neg (by simpa using headOf_check hc), headOf_ok hc, mapRoot_ok (valsOf_check hc)]
  exact trieShows_iff (fM_good (valsOf_check hc)) hk v there l

theorem sees_iff {b : Bk} (hc : checkB b = 0) {i : Nat} (hi : i < b.length) (x : En) (st : List (Bool × By)) :
    seesR ((headOf b).1, false) i x st = 0 ↔ textE x = textE b[i] ∧ st = pathOf (textsOf b) i := by
  unfold seesR
  rw [if_neg (by simpa using headOf_check hc), headOf_ok hc]
  exact book_pathShows hc hi _ _

theorem check_snoc {b : Bk} {x : En} (h : checkB (b ++ [x]) = 0) : 0 ≤ x.1 ∧ x.1 < 16 ∧ x.2.length ≤ 12 := (checkB_ok h).2 x (by simp)

theorem good_ClientAsks (hG : GlobOk G0) (b : Bk) (nl : Bool) (hnl : nl = true → b = []) (x : En) (i : Int) (hi : -9223372036854775808 ≤ i ∧ i ≤ 9223372036854775807) (key : Int) (hk : -9223372036854775808 ≤ key ∧ key ≤ 9223372036854775807) :
    Good PG nG G0 f_greatseallaw_ClientAsks [.agg [.sl 2 nl none (b.map E2)], .agg [.int .i64 x.1, .str x.2], .int .i64 i, .int .i64 key] [] (.bool true) [] := by
  suffices main : ∀ R : AV → List (Option Blk) → Prop, R (.bool true) [] → Hold (runF PG ty nG G0 an_greatseallaw_ClientAsks f_greatseallaw_ClientAsks [.agg [.sl 2 nl none (b.map E2)], .agg [.int .i64 x.1, .str x.2], .int .i64 i, .int .i64 key] [] R) from
    good_of_run prOk (by kernel_rfl) (main _ ⟨rfl, rfl⟩)
  intro R hR
  have gh := good_Head (G0 := G0) hG b nl
  rw [show (headOf b).2 = checkB b from headOf_code b] at gh
  have fo := good_followed (G0 := G0) hG
  refine greatseallaw_ClientAsks_run nl _ _ _ i key G0 R ⟨_, _, _, _, gh, _, fo, ?_⟩
  rw [Bool.not_true, ifF]
  refine ifK_ne0 (fun _ => ⟨_, fo, hR⟩) fun hc => ?_
  have hb := (checkB_ok hc).1
  have hka := atN_lt key (n := 16) (by omega)
  refine ⟨_, good_at' key 16 (by omega) (by omega) hk, ?_⟩
  generalize atN key 16 = k at hka
  have gv := good_showValue (G0 := G0) hG b nl k
  rw [showV_ok hc hka] at gv
  refine ⟨_, _, _, _, _, gv, ?_⟩
  simp only [bne_self_eq_false, ifF]
  have gt := good_Finds (G0 := G0) hG ((headOf b).1, false) k ((mGet (valsOf b) k).getD []) (mGet (valsOf b) k).isSome (triePath (fM (valsOf b)) k 4).isEmpty (triePath (fM (valsOf b)) k 4)
  rw [(finds_iff hc hka _ _ _).2 ⟨rfl, rfl, rfl⟩] at gt
  refine ⟨_, gt, ?_⟩
  simp only [bne_self_eq_false, ifF, List.length_map]
  have gp := good_Put (G0 := G0) b nl hnl x
  have last : ∃ b21 xs22 n23, Good PG nG G0 f_book_Put [.agg [.sl 2 nl none (b.map E2)], .agg [.int .i64 x.1, .str x.2]] [] (.tup [.agg [.sl 2 b21 none xs22], .int .i64 n23]) [] ∧
      ifK (n23 != (0 : Int)) (R (.bool true) [])
        (∃ s24 b25 b26 xs27 n28, Good PG nG G0 f_show_Value [.agg [.sl 2 b21 none xs22], .int .i64 x.1] [] (.tup [.str s24, .bool b25, .sl 1 b26 none xs27, .int .i64 n28]) [] ∧
          ifK (n28 != (0 : Int)) (R (.bool false) [])
            (ifK (!b25) (R (.bool false) [])
              (ifK (!s24 == x.2) (R (.bool false) [])
                (∃ s29 b30 b31 xs32 n33, Good PG nG G0 f_show_Value [.agg [.sl 2 nl none (b.map E2)], .int .i64 x.1] [] (.tup [.str s29, .bool b30, .sl 1 b31 none xs32, .int .i64 n33]) [] ∧
                  ifK (n33 == (0 : Int))
                    (∃ n34, Good PG nG G0 f_client_Finds [.agg [.int .i64 (headOf b).1.n, .str (headOf b).1.log, .str (headOf b).1.mp, .bool false], .int .i64 x.1, .str s24, .bool b25, .sl 1 b26 none xs27] [] (.int .i64 n34) [] ∧
                      ifK b30 (R (.bool ((n34 == (0 : Int)) == (s29 == s24))) []) (R (.bool ((n34 == (0 : Int)) == false)) []))
                    (R (.bool false) []))))) := by
    refine ⟨_, _, _, gp, ifK_ne0 (fun _ => hR) fun h0 => ?_⟩
    by_cases h2 : checkB (b ++ [x]) = 0
    · rw [putBk_ok hc h2]
      obtain ⟨x1, x2, x3⟩ := check_snoc h2
      obtain ⟨j, hj⟩ : ∃ j : Nat, x.1 = j := ⟨x.1.toNat, by omega⟩
      have hj16 : j < 16 := by omega
      have g1 := good_showValue (G0 := G0) hG (b ++ [x]) false j
      rw [showV_ok h2 hj16] at g1
      have em : mGet (valsOf (b ++ [x])) (j : Int) = some x.2 := by rw [valsOf_snoc, mGet_put, if_pos hj.symm]
      rw [em] at g1
      have g2 := good_showValue (G0 := G0) hG b nl j
      rw [showV_ok hc hj16] at g2
      have hf : triePath (fM (valsOf (b ++ [x]))) j 4 = triePath (fM (valsOf b)) j 4 := triePath_same (fun k hk => by
        unfold fM
        rw [valsOf_snoc, mGet_put, if_neg]
        omega) 4
      rw [hf] at g1
      rw [hj]
      refine ⟨_, _, _, _, _, g1, ?_⟩
      simp only [bne_self_eq_false, ifF, Option.isSome_some, Bool.not_true, Option.getD_some, beq_self_eq_true]
      refine ⟨_, _, _, _, _, g2, ?_⟩
      simp only [beq_self_eq_true, ifT]
      refine ⟨_, good_Finds hG ((headOf b).1, false) j x.2 true _ _, ?_⟩
      have iff := finds_iff hc hj16 x.2 true (triePath (fM (valsOf b)) j 4)
      cases hm : mGet (valsOf b) (j : Int) with
      | none =>
        rw [hm] at iff
        have : (findsR ((headOf b).1, false) j x.2 true (triePath (fM (valsOf b)) j 4) == 0) = false := by
          rw [beq_eq_false_iff_ne]
          intro e
          have := (iff.1 e).1
          cases this
        rw [this]
        exact hR
      | some u =>
        rw [hm] at iff
        have : (findsR ((headOf b).1, false) j x.2 true (triePath (fM (valsOf b)) j 4) == 0) = (u == x.2) := by
          by_cases hu : u = x.2
          · rw [iff.2 ⟨rfl, hu.symm, rfl⟩, hu]; simp
          · have a : (u == x.2) = false := by simpa using hu
            rw [a, beq_eq_false_iff_ne]
            exact fun e => hu (iff.1 e).2.1.symm
        rw [this]
        simp only [Option.isSome_some, ifT, Option.getD_some, beq_self_eq_true]
        exact hR
    · rw [putBk_full hc h2] at h0; exact absurd h0 h2
  rw [ifK_iff]
  refine ⟨fun h0 => ?_, fun _ => last⟩
  have h0 : 0 < b.length := by
    have : (b.length : Int) > 0 := by simpa using h0
    omega
  have hia := atN_lt i (n := b.length) (by omega)
  refine ⟨_, good_atN i b.length (by omega) (by omega) hi, ?_⟩
  generalize atN i b.length = j at hia
  have ge := good_showEntry (G0 := G0) hG b nl j
  rw [showE_ok hc hia] at ge
  refine ⟨_, _, _, _, _, ge, ?_⟩
  simp only [bne_self_eq_false, ifF]
  have gs := good_Sees (G0 := G0) hG ((headOf b).1, false) j b[j] (BkR_of_check hc _ (List.getElem_mem hia)) (pathOf (textsOf b) j).isEmpty (pathOf (textsOf b) j)
  rw [(sees_iff hc hia _ _).2 ⟨rfl, rfl⟩] at gs
  refine ⟨_, gs, ?_⟩
  simp only [bne_self_eq_false, ifF]
  exact last
end Go.Ab

namespace Go.Ab
open Go.Proofs Go.Gs
variable {G0 : Nat → Option Obj}

theorem good_CloneInt (l : List Int) (nl : Bool) (hnl : nl = true → l = []) (hl : l.length * 8 ≤ 140737488355328) : Good PG nG G0 f_slices_Clone_int [.sl 1 nl none (l.map I1)] [] (.sl 1 nl (some 0) (l.map I1)) [some (.grow 1 (l.map I1).length)] := by
  refine good_of_run prOk (by kernel_rfl) (slices_Clone_int_run nl _ G0 _ ?_)
  simp only [ifK_iff, List.length_map, Nat.zero_add, List.nil_append, Bool.false_and]
  refine ⟨fun h => ?_, fun h => ⟨hl, trivial, ?_⟩⟩
  · have := hnl h
    subst this; subst h
    exact ⟨rfl, rfl⟩
  · subst h; exact ⟨rfl, trivial⟩

theorem headOf_take_n {b : Bk} (h : checkB b = 0) {m : Nat} (hm : m ≤ b.length) : (headOf (b.take m)).1.n = m := by
  rw [headOf_n (checkB_take h m), List.length_take, Nat.min_eq_left hm]

theorem follow_ok {b : Bk} (hc : checkB b = 0) {m n : Nat} (hmn : m ≤ n) (hn : n ≤ b.length) {c : Hd} (hcn : c.n = m) (hck : checkH c = 0) (h : m ≠ 0 → c = (headOf (b.take m)).1) :
    followR (c, false) (headOf (b.take n)).1 (if m = 0 then [] else growOf (textsOf (b.take n)) m true) = (((headOf (b.take n)).1, false), 0) := by
  have hcN := checkB_take hc n
  have hhn := headOf_take_n hc hn
  unfold followR
  rw [if_neg (by simpa using hck), if_neg (by simpa using headOf_check hcN), if_neg (by rw [hhn, hcn]; omega), if_pos]
  by_cases hm : m = 0
  · left
    exact ⟨by rw [hcn, hm]; rfl, by rw [if_pos hm]⟩
  · right
    have hcm := h hm
    have hl : (b.take n).length = n := by rw [List.length_take, Nat.min_eq_left hn]
    refine ⟨by rw [hcn]; omega, ?_, ?_⟩
    · rw [if_neg hm, hhn, hcn]
      have := book_growShows hcN (m := m) (by omega) (by rw [hl]; exact hmn) c.log (growOf (textsOf (b.take n)) m true)
      rw [hl] at this
      rw [headOf_ok hcN]
      refine this.2 ⟨?_, rfl⟩
      rw [hcm, headOf_ok (checkB_take hc m), List.take_take, Nat.min_eq_left hmn]
    · rcases Nat.lt_or_ge m n with h3 | h3
      · left; rw [hhn, hcn]; omega
      · right
        have : m = n := by omega
        rw [hcm, this]

theorem showG_ok {b : Bk} (hc : checkB b = 0) {m : Nat} (h1 : 1 ≤ m) (hm : m ≤ b.length) : showG b m = (growOf (textsOf b) m true, 0) := by
  rw [showG, if_neg (by simpa using hc), growR_ok (book_rooted hc).1 h1 (by rw [texts_len]; exact hm)]

theorem good_ClientFollows (hG : GlobOk G0) (b : Bk) (nl : Bool) (stops : List Int) (ns : Bool) (hns : ns = true → stops = []) (hst : ∀ n ∈ stops, -9223372036854775808 ≤ n ∧ n ≤ 9223372036854775807) :
    Good PG nG G0 f_greatseallaw_ClientFollows [.agg [.sl 2 nl none (b.map E2)], .sl 1 ns none (stops.map I1)] [] (.bool true) [] := by
  suffices main : ∀ R : AV → List (Option Blk) → Prop, R (.bool true) [] → Hold (runF PG ty nG G0 an_greatseallaw_ClientFollows f_greatseallaw_ClientFollows [.agg [.sl 2 nl none (b.map E2)], .sl 1 ns none (stops.map I1)] [] R) from
    good_of_run prOk (by kernel_rfl) (main _ ⟨rfl, rfl⟩)
  intro R hR
  have fo := good_followed (G0 := G0) hG
  refine greatseallaw_ClientFollows_run nl _ ns _ G0 R ⟨_, fo, ?_⟩
  rw [Bool.not_true, ifF]
  refine ⟨_, good_bookCheck b nl, ifK_ne0 (fun _ => ⟨_, fo, hR⟩) fun hc => ?_⟩
  have hb := (checkB_ok hc).1
  simp only [List.length_map]
  obtain ⟨k, hk, hk20, hkl⟩ : ∃ k : Nat, (if (20 : Int) < stops.length then (20 : Int) else stops.length) = k ∧ k ≤ 20 ∧ k ≤ stops.length := by
    by_cases h : (20 : Int) < stops.length
    · exact ⟨20, by rw [if_pos h]; rfl, Nat.le_refl _, by omega⟩
    · exact ⟨stops.length, by rw [if_neg h], by omega, Nat.le_refl _⟩
  rw [hk, Int.toNat_natCast]
  have hd : List.drop 0 ((stops.map I1).take k) = (stops.take k).map I1 := by rw [List.drop_zero, List.map_take]
  rw [hd]
  have htl : (stops.take k).length = k := by rw [List.length_take, Nat.min_eq_left hkl]
  refine ⟨Int.le_refl _, by omega, by omega, _, _, good_CloneInt (stops.take k) ns (fun h => by rw [hns h]; simp) (by omega), by simp only [List.length_map, List.length_cons, List.length_nil]; omega, trivial, ?_⟩
  have e0 : ∀ x : List AV, (ns && List.isEmpty [x]) = false := fun x => by cases ns <;> rfl
  rw [e0]
  obtain ⟨sts, hsts⟩ : ∃ sts : List Int, sts = stops.take k ++ [(b.length : Int)] := ⟨_, rfl⟩
  have em : (stops.take k).map I1 ++ [[AV.int .i64 (b.length : Int)]] = sts.map I1 := by rw [hsts, List.map_append]; rfl
  have hsr : ∀ n ∈ sts, -9223372036854775808 ≤ n ∧ n ≤ 9223372036854775807 := by
    intro n hn
    rw [hsts] at hn
    rcases List.mem_append.1 hn with hn | hn
    · exact hst n (List.mem_of_mem_take hn)
    · have : n = b.length := by simpa using hn
      omega
  have hsl : sts.length = k + 1 := by rw [hsts, List.length_append, htl]; rfl
  rw [em]
  generalize ((stops.take k).map I1).length + List.length [[AV.int .i64 (b.length : Int)]] = gr
  rw [List.length_map]
  have loop : ∀ c : Hd, (checkH c = 0 ∧ ∃ m : Nat, m ≤ b.length ∧ c.n = m ∧ (m ≠ 0 → c = (headOf (b.take m)).1)) →
      Does PG nG G0 (fnOf PG f_greatseallaw_ClientFollows) 0 (lp PG f_greatseallaw_ClientFollows 0) (mkT 96 [(2, .ref 0 0), (5, .ref 1 0), (31, .sl 1 false (some 2) (sts.map I1)), (32, .int .i64 sts.length), (33, .int .i64 ((0 : Nat) : Int))])
        [some (.var [.sl 2 nl none (b.map E2)]), some (.var [.int .i64 c.n, .str c.log, .str c.mp, .bool false]), some (.grow 1 gr)] R := by
    refine loop_down (D := fun i : Nat => ∀ c : Hd, (checkH c = 0 ∧ ∃ m : Nat, m ≤ b.length ∧ c.n = m ∧ (m ≠ 0 → c = (headOf (b.take m)).1)) →
      Does PG nG G0 (fnOf PG f_greatseallaw_ClientFollows) 0 (lp PG f_greatseallaw_ClientFollows 0) (mkT 96 [(2, .ref 0 0), (5, .ref 1 0), (31, .sl 1 false (some 2) (sts.map I1)), (32, .int .i64 sts.length), (33, .int .i64 (i : Int))])
        [some (.var [.sl 2 nl none (b.map E2)]), some (.var [.int .i64 c.n, .str c.log, .str c.mp, .bool false]), some (.grow 1 gr)] R) sts.length (fun c _ => ?_) (fun i hi ih c hcc => ?_)
    · refine does_of_run prOk (greatseallaw_ClientFollows_l0_run G0 _ _ _ _ _ _ _ _ _ _ _ R ?_)
      simp only [ifK_iff, decide_eq_true_eq, decide_eq_false_iff_not]
      exact ⟨fun h => by omega, fun _ => hR⟩
    · obtain ⟨hck, m, hm, hcn, hcm⟩ := hcc
      refine does_of_run prOk (greatseallaw_ClientFollows_l0_run G0 _ _ _ _ _ _ _ _ _ _ _ R ?_)
      rw [decide_eq_true (show (i : Int) < sts.length by omega), ifT, Int.toNat_natCast, List.length_map, wrap64 (show -9223372036854775808 ≤ (b.length : Int) + 1 by omega) (by omega), wrapN (show 0 ≤ (i : Int) + 1 by omega) (by omega)]
      have hat := atN_lt sts[i] (n := b.length + 1) (by omega)
      have gat := good_atN (G0 := G0) sts[i] (b.length + 1) (by omega) (by omega) (hsr _ (List.getElem_mem hi))
      refine ⟨by omega, _, getX hi, _, gat, ?_⟩
      generalize atN sts[i] (b.length + 1) = n at hat
      rw [ifK_iff]
      refine ⟨fun _ => ih c ⟨hck, m, hm, hcn, hcm⟩, fun h1 => ?_⟩
      have hmn : m ≤ n := by
        have : ¬ (n : Int) < c.n := by simpa using h1
        omega
      have hnb : n ≤ b.length := by omega
      rw [Int.toNat_natCast, take_E2]
      have hcN := checkB_take hc n
      have hl : (b.take n).length = n := by rw [List.length_take, Nat.min_eq_left hnb]
      have gh := good_Head (G0 := G0) hG (b.take n) nl
      rw [show (headOf (b.take n)).2 = 0 by rw [headOf_code, hcN]] at gh
      refine ⟨Int.le_refl _, by omega, by omega, _, _, _, _, gh, ?_⟩
      have hfo := follow_ok hc hmn hnb hcn hck hcm
      have nxt := ih (headOf (b.take n)).1 ⟨headOf_check hcN, n, hnb, headOf_take_n hc hnb, fun _ => rfl⟩
      by_cases hm0 : m = 0
      · rw [if_pos hm0] at hfo
        have gf := good_Follow (G0 := G0) hG (c, false) (headOf (b.take n)).1 true [] (by decide)
        rw [hfo] at gf
        rw [decide_eq_false (show ¬ c.n > 0 by omega), ifF]
        simp only [bne_self_eq_false, ifF]
        refine ⟨_, _, _, _, _, gf, ?_⟩
        simp only [bne_self_eq_false, ifF]
        rw [eqAll_hd, decide_eq_true rfl, Bool.not_true, ifF]
        exact nxt
      · rw [if_neg hm0] at hfo
        have gg := good_showGrowth (G0 := G0) hG (b.take n) nl m
        rw [showG_ok hcN (by omega) (by omega)] at gg
        have gf := good_Follow (G0 := G0) hG (c, false) (headOf (b.take n)).1 (growOf (textsOf (b.take n)) m true).isEmpty (growOf (textsOf (b.take n)) m true) (by have := growOf_len _ (textsOf (b.take n)) m true (Nat.le_refl _); rw [texts_len] at this; omega)
        rw [hfo] at gf
        rw [decide_eq_true (show c.n > 0 by omega), ifT]
        simp only [beq_self_eq_true, ifT]
        rw [← hcn] at gg
        refine ⟨_, _, _, gg, ?_⟩
        simp only [bne_self_eq_false, ifF]
        refine ⟨_, _, _, _, _, gf, ?_⟩
        simp only [bne_self_eq_false, ifF]
        rw [eqAll_hd, decide_eq_true rfl, Bool.not_true, ifF]
        exact nxt
  exact loop hd0 ⟨by decide, 0, Nat.zero_le _, rfl, fun h => absurd rfl h⟩
end Go.Ab

namespace Go.Ab
open Go.Proofs Go.Gs
variable {G0 : Nat → Option Obj}

theorem pathShows_zero {root : By} {n i : Int} {text : By} {st : List (Bool × By)} (h : pathShows root n i text st = 0) : 1 ≤ n ∧ 0 ≤ i ∧ i < n := by
  unfold pathShows at h
  split at h
  · cases h
  · split at h
    · cases h
    · omega

theorem trieShows_zero {all : By} {k : Int} {v : By} {there : Bool} {l : List By} (h : trieShows all k v there l = 0) : 0 ≤ k ∧ k < 16 := by
  unfold trieShows at h
  split at h
  · cases h
  · omega

theorem grow_begins {b o : Bk} (hb : checkB b = 0) (ho : checkB o = 0) (h1 : 1 ≤ b.length) (h2 : b.length ≤ o.length) {l : List By} (h : growShows (headOf b).1.log b.length (headOf o).1.log o.length l = 0) : o.take b.length = b := by
  rw [headOf_ok hb, headOf_ok ho] at h
  have := ((book_growShows ho h1 h2 _ _).1 h).1
  have hct := checkB_take ho b.length
  have := tRoot_inj _ _ _ (Nat.le_refl _) (texts_good hb).1 (texts_good hct).1 this
  exact (textsOf_inj (fun e he => ((checkB_ok hb).2 e he).1) (fun e he => ((checkB_ok hct).2 e he).1) this).symm

theorem good_ClientTrue (hG : GlobOk G0) (b o : Bk) (nl no : Bool) (ll : Bool) (l : List By) (hl : l.length ≤ 1000000000000000000) (i : Int)
    (x : En) (hx : (-9223372036854775808 ≤ x.1 ∧ x.1 ≤ 9223372036854775807) ∧ x.2.length ≤ 140737488351232) (ns : Bool) (st : List (Bool × By)) (there : Bool) :
    Good PG nG G0 f_greatseallaw_ClientTrue [.agg [.sl 2 nl none (b.map E2)], .agg [.sl 2 no none (o.map E2)], .sl 1 ll none (l.map S1), .int .i64 i, .agg [.int .i64 x.1, .str x.2], .sl 2 ns none (st.map S2), .bool there] [] (.bool true) [] := by
  suffices main : ∀ R : AV → List (Option Blk) → Prop, R (.bool true) [] → Hold (runF PG ty nG G0 an_greatseallaw_ClientTrue f_greatseallaw_ClientTrue [.agg [.sl 2 nl none (b.map E2)], .agg [.sl 2 no none (o.map E2)], .sl 1 ll none (l.map S1), .int .i64 i, .agg [.int .i64 x.1, .str x.2], .sl 2 ns none (st.map S2), .bool there] [] R) from
    good_of_run prOk (by kernel_rfl) (main _ ⟨rfl, rfl⟩)
  intro R hR
  have gh := good_Head (G0 := G0) hG b nl
  rw [show (headOf b).2 = checkB b from headOf_code b] at gh
  have go := good_Head (G0 := G0) hG o no
  rw [show (headOf o).2 = checkB o from headOf_code o] at go
  have fo := good_followed (G0 := G0) hG
  refine greatseallaw_ClientTrue_run nl _ no _ ll _ i _ _ ns _ there G0 R ⟨_, _, _, _, gh, _, _, _, _, go, _, fo, ?_⟩
  rw [Bool.not_true, ifF]
  refine ifK_ne0 (fun _ => ⟨_, fo, hR⟩) fun hb => ifK_ne0 (fun _ => ⟨_, fo, hR⟩) fun ho => ?_
  have hb24 := (checkB_ok hb).1
  have ho24 := (checkB_ok ho).1
  refine ⟨_, _, _, _, _, good_Follow hG ((headOf b).1, false) (headOf o).1 ll l hl, ?_⟩
  have T1 : ∃ b23 xs24 n25, Good PG nG G0 f_book_Values [.agg [.sl 2 nl none (b.map E2)]] [] (.tup [.mp b23 xs24, .int .i64 n25]) [] ∧
      ∃ s26 b27, mlookD .i64 i (.str []) xs24 = some (.str s26, b27) ∧
        ifK (n25 == (0 : Int))
          (∃ n28, Good PG nG G0 f_client_Finds [.agg [.int .i64 (headOf b).1.n, .str (headOf b).1.log, .str (headOf b).1.mp, .bool false], .int .i64 i, .str x.2, .bool there, .sl 1 ll none (l.map S1)] [] (.int .i64 n28) [] ∧
            ifK (n28 != (0 : Int)) (R (.bool true) []) (ifK (there == b27) (R (.bool (x.2 == s26)) []) (R (.bool false) [])))
          (R (.bool false) []) := by
    refine ⟨_, _, _, good_Values b nl hb, _, _, mlookD_KV _ _, ?_⟩
    simp only [beq_self_eq_true, ifT]
    refine ⟨_, good_Finds hG ((headOf b).1, false) i x.2 there ll l, ifK_ne0 (fun _ => hR) fun h => ?_⟩
    have h' := h
    unfold findsR at h'
    rw [if_neg (by simpa using headOf_check hb)] at h'
    obtain ⟨i1, i2⟩ := trieShows_zero h'
    obtain ⟨k, rfl⟩ : ∃ k : Nat, i = k := ⟨i.toNat, by omega⟩
    obtain ⟨r1, r2, _⟩ := (finds_iff hb (show k < 16 by omega) _ _ _).1 h
    rw [r1, r2]
    simp only [beq_self_eq_true, ifT]
    exact hR
  have T2 : ∃ n18, Good PG nG G0 f_client_Sees [.agg [.int .i64 (headOf b).1.n, .str (headOf b).1.log, .str (headOf b).1.mp, .bool false], .int .i64 i, .agg [.int .i64 x.1, .str x.2], .sl 2 ns none (st.map S2)] [] (.int .i64 n18) [] ∧
      ifK (n18 == (0 : Int))
        (ifK (decide (i < 0)) (R (.bool false) [])
          (ifK (decide (i ≥ (((b.map E2).length : Nat) : Int))) (R (.bool false) [])
            (0 ≤ i ∧ ∃ n19 s20, (b.map E2)[i.toNat]? = some [.int .i64 n19, .str s20] ∧
              ∃ s21, Good PG nG G0 f_book_Text [.agg [.int .i64 n19, .str s20]] [] (.str s21) [] ∧
                ∃ s22, Good PG nG G0 f_book_Text [.agg [.int .i64 x.1, .str x.2]] [] (.str s22) [] ∧
                  ifK (!s21 == s22) (R (.bool false) [])
                    (∃ b23 xs24 n25, Good PG nG G0 f_book_Values [.agg [.sl 2 nl none (b.map E2)]] [] (.tup [.mp b23 xs24, .int .i64 n25]) [] ∧
                      ∃ s26 b27, mlookD .i64 i (.str []) xs24 = some (.str s26, b27) ∧
                        ifK (n25 == (0 : Int))
                          (∃ n28, Good PG nG G0 f_client_Finds [.agg [.int .i64 (headOf b).1.n, .str (headOf b).1.log, .str (headOf b).1.mp, .bool false], .int .i64 i, .str x.2, .bool there, .sl 1 ll none (l.map S1)] [] (.int .i64 n28) [] ∧
                            ifK (n28 != (0 : Int)) (R (.bool true) []) (ifK (there == b27) (R (.bool (x.2 == s26)) []) (R (.bool false) [])))
                          (R (.bool false) [])))))
        (∃ b23 xs24 n25, Good PG nG G0 f_book_Values [.agg [.sl 2 nl none (b.map E2)]] [] (.tup [.mp b23 xs24, .int .i64 n25]) [] ∧
          ∃ s26 b27, mlookD .i64 i (.str []) xs24 = some (.str s26, b27) ∧
            ifK (n25 == (0 : Int))
              (∃ n28, Good PG nG G0 f_client_Finds [.agg [.int .i64 (headOf b).1.n, .str (headOf b).1.log, .str (headOf b).1.mp, .bool false], .int .i64 i, .str x.2, .bool there, .sl 1 ll none (l.map S1)] [] (.int .i64 n28) [] ∧
                ifK (n28 != (0 : Int)) (R (.bool true) []) (ifK (there == b27) (R (.bool (x.2 == s26)) []) (R (.bool false) [])))
              (R (.bool false) [])) := by
    refine ⟨_, good_Sees hG ((headOf b).1, false) i x hx ns st, ?_⟩
    rw [ifK_iff]
    refine ⟨fun h => ?_, fun _ => T1⟩
    have h : seesR ((headOf b).1, false) i x st = 0 := by simpa using h
    have h' := h
    unfold seesR at h'
    rw [if_neg (by simpa using headOf_check hb)] at h'
    obtain ⟨_, i1, i2⟩ := pathShows_zero h'
    have i2 : i < b.length := by rw [← headOf_n hb]; exact i2
    obtain ⟨k, rfl⟩ : ∃ k : Nat, i = k := ⟨i.toNat, by omega⟩
    have hk : k < b.length := by omega
    have he := ((sees_iff hb hk _ _).1 h).1
    rw [decide_eq_false (show ¬ (k : Int) < 0 by omega), ifF, decide_eq_false (show ¬ (k : Int) ≥ (((b.map E2).length : Nat) : Int) by rw [List.length_map]; omega), ifF, Int.toNat_natCast]
    refine ⟨by omega, _, _, getX hk, _, good_Text hG _ (BkR_of_check hb _ (List.getElem_mem hk)), _, good_Text hG x hx, ?_⟩
    have : (!textE b[k] == textE x) = false := by rw [he]; simp
    rw [this, ifF]
    exact T1
  rw [ifK_iff]
  refine ⟨fun h => ?_, fun _ => T2⟩
  have h : (followR ((headOf b).1, false) (headOf o).1 l).2 = 0 := by simpa using h
  rw [ifK_iff]
  refine ⟨fun h0 => ?_, fun _ => T2⟩
  have h0 : 0 < b.length := by
    have h0 : (headOf b).1.n > 0 := by simpa using h0
    rw [headOf_n hb] at h0
    omega
  have key : b.length ≤ o.length ∧ o.take b.length = b ∧ (followR ((headOf b).1, false) (headOf o).1 l).1.1 = (headOf o).1 := by
    unfold followR at h ⊢
    rw [if_neg (by simpa using headOf_check hb), if_neg (by simpa using headOf_check ho)] at h ⊢
    split at h
    · cases h
    · rename_i hn
      simp only [headOf_n hb, headOf_n ho] at hn
      split at h
      · rename_i hf
        rw [if_neg (by simp only [headOf_n hb, headOf_n ho]; exact hn), if_pos hf]
        refine ⟨by omega, ?_, rfl⟩
        rcases hf with ⟨e, _⟩ | ⟨_, e, _⟩
        · rw [headOf_n hb] at e; omega
        · rw [headOf_n hb, headOf_n ho] at e
          exact grow_begins hb ho (by omega) (by omega) e
      · cases h
  obtain ⟨k1, k2, k3⟩ := key
  simp only [List.length_map]
  rw [decide_eq_false (by omega), ifF, Int.toNat_natCast, take_E2, k2, k3]
  refine ⟨Int.le_refl _, by omega, by omega, _, good_EqualEntry b b no nl (by omega), ?_⟩
  rw [eqAll_hd, decide_eq_true rfl, decide_eq_true rfl, Bool.not_true, ifF, ifF]
  have T2' := T2
  simp only [List.length_map] at T2'
  exact T2'
end Go.Ab

namespace Go.Ab
open Go.Proofs Go.Gs
variable {G0 : Nat → Option Obj}

theorem meetR_eq {a b : Hd} (ha : checkH a = 0) (hb : checkH b = 0) (l : List By) : meetR a b l = if b.n < a.n then meetS b a l else meetS a b l := by
  rw [meetR, if_neg (by simpa using ha), if_neg (by simpa using hb)]

theorem meetS_zero {b o : Bk} (hb : checkB b = 0) (ho : checkB o = 0) (hlen : b.length ≤ o.length) {l : List By} (h : meetS (headOf b).1 (headOf o).1 l = 0) : o.take b.length = b := by
  unfold meetS at h
  rw [headOf_n hb, headOf_n ho] at h
  split at h
  · rename_i h0
    have : b = [] := List.eq_nil_of_length_eq_zero (by omega)
    rw [this]; rfl
  · rename_i h0
    split at h
    · cases h
    · exact grow_begins hb ho (by omega) hlen h

theorem meetS_ok {b : Bk} (hb : checkB b = 0) {n : Nat} (h1 : 1 ≤ n) (hn : n ≤ b.length) : meetS (headOf (b.take n)).1 (headOf b).1 (growOf (textsOf b) n true) = 0 := by
  have hcn := checkB_take hb n
  unfold meetS
  rw [headOf_take_n hb hn, headOf_n hb, if_neg (by omega), if_neg]
  · rw [headOf_ok hcn, headOf_ok hb]
    exact (book_growShows hb h1 hn _ _).2 ⟨rfl, rfl⟩
  · rintro ⟨e, e2⟩
    apply e2
    rw [show b.take n = b from List.take_of_length_le (by omega)]

theorem good_MeetTrue (hG : GlobOk G0) (b o : Bk) (nl no : Bool) (ll : Bool) (l : List By) (hl : l.length ≤ 1000000000000000000) (i : Int) (hi : -9223372036854775808 ≤ i ∧ i ≤ 9223372036854775807) :
    Good PG nG G0 f_greatseallaw_MeetTrue [.agg [.sl 2 nl none (b.map E2)], .agg [.sl 2 no none (o.map E2)], .sl 1 ll none (l.map S1), .int .i64 i] [] (.bool true) [] := by
  suffices main : ∀ R : AV → List (Option Blk) → Prop, R (.bool true) [] → Hold (runF PG ty nG G0 an_greatseallaw_MeetTrue f_greatseallaw_MeetTrue [.agg [.sl 2 nl none (b.map E2)], .agg [.sl 2 no none (o.map E2)], .sl 1 ll none (l.map S1), .int .i64 i] [] R) from
    good_of_run prOk (by kernel_rfl) (main _ ⟨rfl, rfl⟩)
  intro R hR
  have gh := good_Head (G0 := G0) hG b nl
  rw [show (headOf b).2 = checkB b from headOf_code b] at gh
  have go := good_Head (G0 := G0) hG o no
  rw [show (headOf o).2 = checkB o from headOf_code o] at go
  have fo := good_together (G0 := G0) hG
  refine greatseallaw_MeetTrue_run nl _ no _ ll _ i G0 R ⟨_, _, _, _, gh, _, _, _, _, go, _, fo, ?_⟩
  rw [Bool.not_true, ifF]
  refine ifK_ne0 (fun _ => ⟨_, fo, hR⟩) fun hb => ifK_ne0 (fun _ => ⟨_, fo, hR⟩) fun ho => ?_
  have hb24 := (checkB_ok hb).1
  have ho24 := (checkB_ok ho).1
  have gs1 := good_Same (G0 := G0) hG (headOf b).1 (headOf o).1 ll l hl
  have gs2 := good_Same (G0 := G0) hG (headOf o).1 (headOf b).1 ll l hl
  obtain ⟨k, hk, hkb, hko, hkm⟩ : ∃ k : Nat, (if (o.length : Int) < b.length then (o.length : Int) else b.length) = k ∧ k ≤ b.length ∧ k ≤ o.length ∧ (k = b.length ∨ k = o.length) := by
    by_cases h : (o.length : Int) < b.length
    · exact ⟨o.length, by rw [if_pos h], by omega, Nat.le_refl _, .inr rfl⟩
    · exact ⟨b.length, by rw [if_neg h], Nat.le_refl _, by omega, .inl rfl⟩
  -- the last part
  have last : ifK ((b.length : Int) == (0 : Int)) (R (.bool true) [])
      (∃ n15, Good PG nG G0 f_greatseallaw_at [.int .i64 i, .int .i64 (b.length : Int)] [] (.int .i64 n15) [] ∧
        (0 : Int) ≤ 0 ∧ 0 ≤ IntKind.i64.wrap (1 + n15) ∧ IntKind.i64.wrap (1 + n15) ≤ (b.length : Int) ∧
          ∃ n16 s17 s18 n19, Good PG nG G0 f_book_Head [.agg [.sl 2 nl none (List.drop 0 (List.take (IntKind.i64.wrap (1 + n15)).toNat (b.map E2)))]] [] (.tup [.agg [.int .i64 n16, .str s17, .str s18], .int .i64 n19]) [] ∧
            ∃ b20 xs21 n22, Good PG nG G0 f_show_Growth [.agg [.sl 2 nl none (b.map E2)], .int .i64 (IntKind.i64.wrap (1 + n15))] [] (.tup [.sl 1 b20 none xs21, .int .i64 n22]) [] ∧
              ifK (n19 == (0 : Int))
                (ifK (n22 == (0 : Int))
                  (∃ n23, Good PG nG G0 f_meet_Same [.agg [.int .i64 n16, .str s17, .str s18], .agg [.int .i64 (headOf b).1.n, .str (headOf b).1.log, .str (headOf b).1.mp], .sl 1 b20 none xs21] [] (.int .i64 n23) [] ∧
                    ifK (n23 == (0 : Int))
                      (∃ n24, Good PG nG G0 f_meet_Same [.agg [.int .i64 (headOf b).1.n, .str (headOf b).1.log, .str (headOf b).1.mp], .agg [.int .i64 n16, .str s17, .str s18], .sl 1 b20 none xs21] [] (.int .i64 n24) [] ∧ R (.bool (n24 == (0 : Int))) [])
                      (R (.bool false) []))
                  (R (.bool false) []))
                (R (.bool false) [])) := by
    rw [ifK_iff]
    refine ⟨fun _ => hR, fun h0 => ?_⟩
    have h0 : b.length ≠ 0 := by
      intro e
      rw [e] at h0
      simp at h0
    have hat := atN_lt i (n := b.length) (by omega)
    refine ⟨_, good_atN i b.length (by omega) (by omega) hi, ?_⟩
    generalize atN i b.length = j at hat
    have ew : IntKind.i64.wrap (1 + (j : Int)) = ((j + 1 : Nat) : Int) := by rw [wrap64 (by omega) (by omega)]; omega
    rw [ew, Int.toNat_natCast, take_E2]
    have hcn := checkB_take hb (j + 1)
    have g1 := good_Head (G0 := G0) hG (b.take (j + 1)) nl
    rw [show (headOf (b.take (j + 1))).2 = 0 by rw [headOf_code, hcn]] at g1
    have g2 := good_showGrowth (G0 := G0) hG b nl ((j + 1 : Nat) : Int)
    rw [showG_ok hb (by omega) (by omega)] at g2
    have hgl : (growOf (textsOf b) (j + 1) true).length ≤ 1000000000000000000 := by have := growOf_len _ (textsOf b) (j + 1) true (Nat.le_refl _); rw [texts_len] at this; omega
    have ms := meetS_ok hb (n := j + 1) (by omega) (by omega)
    have s1 := good_Same (G0 := G0) hG (headOf (b.take (j + 1))).1 (headOf b).1 (growOf (textsOf b) (j + 1) true).isEmpty (growOf (textsOf b) (j + 1) true) hgl
    have s2 := good_Same (G0 := G0) hG (headOf b).1 (headOf (b.take (j + 1))).1 (growOf (textsOf b) (j + 1) true).isEmpty (growOf (textsOf b) (j + 1) true) hgl
    have e1 : meetR (headOf (b.take (j + 1))).1 (headOf b).1 (growOf (textsOf b) (j + 1) true) = 0 := by
      unfold meetR
      rw [if_neg (by simpa using headOf_check hcn), if_neg (by simpa using headOf_check hb), if_neg (by rw [headOf_n hb, headOf_take_n hb (by omega)]; omega)]
      exact ms
    have e2 : meetR (headOf b).1 (headOf (b.take (j + 1))).1 (growOf (textsOf b) (j + 1) true) = 0 := by
      unfold meetR
      rw [if_neg (by simpa using headOf_check hb), if_neg (by simpa using headOf_check hcn)]
      by_cases h : j + 1 = b.length
      · have : b.take (j + 1) = b := List.take_of_length_le (by omega)
        rw [this] at ms ⊢
        rw [if_neg (by omega)]
        exact ms
      · rw [if_pos (by rw [headOf_n hb, headOf_take_n hb (by omega)]; omega)]
        exact ms
    rw [e1] at s1
    rw [e2] at s2
    refine ⟨Int.le_refl _, by omega, by omega, _, _, _, _, g1, _, _, _, g2, ?_⟩
    simp only [beq_self_eq_true, ifT]
    refine ⟨_, s1, ?_⟩
    simp only [beq_self_eq_true, ifT]
    exact ⟨_, s2, hR⟩
  -- what is alike
  have one : meetR (headOf b).1 (headOf o).1 l = 0 → b.take k = o.take k := by
    intro h
    unfold meetR at h
    rw [if_neg (by simpa using headOf_check hb), if_neg (by simpa using headOf_check ho), headOf_n hb, headOf_n ho] at h
    split at h
    · have := meetS_zero ho hb (by omega) h
      have ek : k = o.length := by omega
      rw [ek, this, List.take_length]
    · have := meetS_zero hb ho (by omega) h
      have ek : k = b.length := by omega
      rw [ek, this, List.take_length]
  have flip : b.length ≠ o.length → meetR (headOf o).1 (headOf b).1 l = meetR (headOf b).1 (headOf o).1 l := by
    intro h
    rw [meetR_eq (headOf_check ho) (headOf_check hb), meetR_eq (headOf_check hb) (headOf_check ho), headOf_n hb, headOf_n ho]
    by_cases h2 : b.length < o.length
    · rw [if_pos (by omega), if_neg (by omega)]
    · rw [if_neg (by omega), if_pos (by omega)]
  have mid : ifK ((b.length : Int) != (o.length : Int))
      (∃ n14, Good PG nG G0 f_meet_Same [.agg [.int .i64 (headOf o).1.n, .str (headOf o).1.log, .str (headOf o).1.mp], .agg [.int .i64 (headOf b).1.n, .str (headOf b).1.log, .str (headOf b).1.mp], .sl 1 ll none (l.map S1)] [] (.int .i64 n14) [] ∧
        ifK (meetR (headOf b).1 (headOf o).1 l != n14) (R (.bool false) []) (ifK ((b.length : Int) == (0 : Int)) (R (.bool true) [])
      (∃ n15, Good PG nG G0 f_greatseallaw_at [.int .i64 i, .int .i64 (b.length : Int)] [] (.int .i64 n15) [] ∧
        (0 : Int) ≤ 0 ∧ 0 ≤ IntKind.i64.wrap (1 + n15) ∧ IntKind.i64.wrap (1 + n15) ≤ (b.length : Int) ∧
          ∃ n16 s17 s18 n19, Good PG nG G0 f_book_Head [.agg [.sl 2 nl none (List.drop 0 (List.take (IntKind.i64.wrap (1 + n15)).toNat (b.map E2)))]] [] (.tup [.agg [.int .i64 n16, .str s17, .str s18], .int .i64 n19]) [] ∧
            ∃ b20 xs21 n22, Good PG nG G0 f_show_Growth [.agg [.sl 2 nl none (b.map E2)], .int .i64 (IntKind.i64.wrap (1 + n15))] [] (.tup [.sl 1 b20 none xs21, .int .i64 n22]) [] ∧
              ifK (n19 == (0 : Int))
                (ifK (n22 == (0 : Int))
                  (∃ n23, Good PG nG G0 f_meet_Same [.agg [.int .i64 n16, .str s17, .str s18], .agg [.int .i64 (headOf b).1.n, .str (headOf b).1.log, .str (headOf b).1.mp], .sl 1 b20 none xs21] [] (.int .i64 n23) [] ∧
                    ifK (n23 == (0 : Int))
                      (∃ n24, Good PG nG G0 f_meet_Same [.agg [.int .i64 (headOf b).1.n, .str (headOf b).1.log, .str (headOf b).1.mp], .agg [.int .i64 n16, .str s17, .str s18], .sl 1 b20 none xs21] [] (.int .i64 n24) [] ∧ R (.bool (n24 == (0 : Int))) [])
                      (R (.bool false) []))
                  (R (.bool false) []))
                (R (.bool false) []))))
      (ifK ((b.length : Int) == (0 : Int)) (R (.bool true) [])
      (∃ n15, Good PG nG G0 f_greatseallaw_at [.int .i64 i, .int .i64 (b.length : Int)] [] (.int .i64 n15) [] ∧
        (0 : Int) ≤ 0 ∧ 0 ≤ IntKind.i64.wrap (1 + n15) ∧ IntKind.i64.wrap (1 + n15) ≤ (b.length : Int) ∧
          ∃ n16 s17 s18 n19, Good PG nG G0 f_book_Head [.agg [.sl 2 nl none (List.drop 0 (List.take (IntKind.i64.wrap (1 + n15)).toNat (b.map E2)))]] [] (.tup [.agg [.int .i64 n16, .str s17, .str s18], .int .i64 n19]) [] ∧
            ∃ b20 xs21 n22, Good PG nG G0 f_show_Growth [.agg [.sl 2 nl none (b.map E2)], .int .i64 (IntKind.i64.wrap (1 + n15))] [] (.tup [.sl 1 b20 none xs21, .int .i64 n22]) [] ∧
              ifK (n19 == (0 : Int))
                (ifK (n22 == (0 : Int))
                  (∃ n23, Good PG nG G0 f_meet_Same [.agg [.int .i64 n16, .str s17, .str s18], .agg [.int .i64 (headOf b).1.n, .str (headOf b).1.log, .str (headOf b).1.mp], .sl 1 b20 none xs21] [] (.int .i64 n23) [] ∧
                    ifK (n23 == (0 : Int))
                      (∃ n24, Good PG nG G0 f_meet_Same [.agg [.int .i64 (headOf b).1.n, .str (headOf b).1.log, .str (headOf b).1.mp], .agg [.int .i64 n16, .str s17, .str s18], .sl 1 b20 none xs21] [] (.int .i64 n24) [] ∧ R (.bool (n24 == (0 : Int))) [])
                      (R (.bool false) []))
                  (R (.bool false) []))
                (R (.bool false) []))) := by
    rw [ifK_iff]
    refine ⟨fun h => ⟨_, gs2, ?_⟩, fun _ => last⟩
    have h : b.length ≠ o.length := by
      intro e
      rw [e] at h
      simp at h
    rw [flip h, bne_self_eq_false, ifF]
    exact last
  simp only [List.length_map]
  rw [hk, Int.toNat_natCast, take_E2, take_E2]
  refine ⟨Int.le_refl _, by omega, by omega, Int.le_refl _, by omega, by omega, _, good_EqualEntry (b.take k) (o.take k) nl no (by rw [List.length_take]; omega), _, gs1, ?_⟩
  rw [ifK_iff]
  refine ⟨fun h => ?_, fun _ => mid⟩
  have h : meetR (headOf b).1 (headOf o).1 l = 0 := by simpa using h
  rw [decide_eq_true (one h), Bool.not_true, ifF]
  exact mid
end Go.Ab

namespace Go.Proofs.YteoadplelecmeaaDoor
open Go.Ab Go.Gs Go.ChangeShapes Go.WideShapes Go.ChangeAt Go.RowKit

theorem own : ownKnob Tryd.prog.godebug = none := by kernel_rfl
theorem laidOutP : laidOutB Tryd.prog = true := by kernel_rfl

/-- The three tables, as the rows list them. -/
def tabs : List (String × DataW Unit) := Rows.bookOneRow.laid

theorem var_heap {W : World} {name : String} {cs : Array Value} {g : Nat} (hg : Tryd.prog.globalNamed name = some g) (h : W.var? Tryd.prog name = some cs) : g < W.heap.size := by
  simp only [World.var?, hg, Option.bind_some] at h
  split at h
  · rename_i hh; exact (Array.getElem?_eq_some_iff.1 hh).1
  · cases h

theorem var_same {W w : World} {name : String} {g : Nat} (hg : Tryd.prog.globalNamed name = some g) (h : w.heap[g]? = W.heap[g]?) : w.var? Tryd.prog name = W.var? Tryd.prog name := by
  simp only [World.var?, hg, Option.bind_some, h]

theorem glob_of {W : World} (h : laidMetH Tryd.prog Rows.bookOneRow.laid W) : GlobOk (fun b => W.heap[b]?) ∧ nG ≤ W.heap.size := by
  have h : laidMet Tryd.prog Rows.bookOneRow.laid W := h
  obtain ⟨ps, ⟨g0, t0, cs0, f0, p0, q0, hg0, ht0, hv0, hd0, ⟨g1, t1, cs1, f1, p1, q1, hg1, ht1, hv1, hd1, ⟨g2, t2, cs2, f2, p2, q2, hg2, ht2, hv2, hd2, _, _⟩, _⟩, _⟩, _⟩ := h
  have hn0 : Tryd.prog.globalNamed "math/bits.deBruijn32tab" = some 1 := by kernel_rfl
  have hn1 : Tryd.prog.globalNamed "math/bits.deBruijn64tab" = some 2 := by kernel_rfl
  have hn2 : Tryd.prog.globalNamed "internal/strconv.uint64pow10" = some 0 := by kernel_rfl
  have l1 := var_heap hn1 hv1
  have hng : nG = 3 := rfl
  refine ⟨fun w hw => ?_, by omega⟩
  have hty : (Tryd.prog.globals[0]?).map (·.type) = some 131 := by kernel_rfl
  obtain rfl := Option.some.inj (hn2.symm.trans hg2)
  obtain rfl := Option.some.inj (hty.symm.trans ht2)
  unfold Lib.TabIs
  rw [var_same hn2 (hw 0 (by decide)), hv2]
  have := Lib.cells_of_tab (k := .u64) (zs := Lib.pow10Tab) (n := 20) Tryd.underlying131 Tryd.underlying124 (by kernel_rfl) (by kernel_rfl) (show DataW.trod (fun _ => ()) Tryd.prog W 0 (fun _ => true) false f2 131 cs2.toList = some (Lib.tabData .u64 Lib.pow10Tab, p2) from hd2)
  rw [← this]

/-- A world for the witness. -/
noncomputable def wit0 (os : Os) : World := World.doorLaid Tryd.prog 400 os

end Go.Proofs.YteoadplelecmeaaDoor

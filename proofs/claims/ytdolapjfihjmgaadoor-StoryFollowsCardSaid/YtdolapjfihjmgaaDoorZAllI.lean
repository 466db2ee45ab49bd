/- What the proofs of these laws lean on (9): What the runs come to; Contracts: stories; What the runs come to; Contracts: the laws of stories; What the listed variables give, for any law of this seat; no condition. -/
import Derived.Test.YtdolapjfihjmgaaDoorZAllH
import Derived.Test.YtdolapjfihjmgaaDoorCards
import Derived.Test.YtdolapjfihjmgaaDoorTie
import Derived.OpenShut
import Derived.LaidMore
import Derived.Deep.DeepHandedRow
import Derived.Lib.LaidTab
namespace Go.Ab
open Go.Proofs
set_option maxRecDepth 100000

def an_greatseallaw_StoryCaught_c1 : FAnn := ⟨[], [], none, []⟩
def an_greatseallaw_StoryFork_c1 : FAnn := ⟨[], [], none, []⟩
def an_greatseallaw_StoryHonest_c1 : FAnn := ⟨[], [(0, [4, 12, 13, 14], [])], none, []⟩
def an_greatseallaw_StoryFollows_c1_not : FAnn := ⟨[], [], none, []⟩
def an_greatseallaw_StoryFollows_c1_w0s0 : FAnn := ⟨[], [], none, []⟩
def an_greatseallaw_StoryFollows_c1_w0s1 : FAnn := ⟨[], [], none, []⟩
def an_greatseallaw_StoryFollows_c1_w1s0 : FAnn := ⟨[], [], none, []⟩
def an_greatseallaw_StoryFollows_c1_w1s1 : FAnn := ⟨[], [], none, []⟩
def an_greatseallaw_StoryFollows_c1_w2s0 : FAnn := ⟨[], [], none, []⟩
def an_greatseallaw_StoryFollows_c1_w2s1 : FAnn := ⟨[], [], none, []⟩
def an_greatseallaw_played_Caught : FAnn := ⟨[], [(0, [1, 4, 6, 17, 18, 19], [])], none, []⟩
def an_greatseallaw_played_Fork : FAnn := ⟨[], [(0, [1, 4, 6, 17, 18, 19], [])], none, []⟩
def an_greatseallaw_played_Honest : FAnn := ⟨[], [(0, [1, 4, 6, 17, 18, 19], [])], none, []⟩
def an_greatseallaw_played_Follows : FAnn := ⟨[(9, 4, ⟨[0], [], []⟩)], [(0, [1, 4, 6, 17, 18, 19], [])], none, []⟩

theorem greatseallaw_StoryCaught_c1_run (nlwas0_0 : Bool) (was0_0 : List (List AV)) (nlwas0_1 : Bool) (was0_1 : List (List AV)) (nlwas0_2 : Bool) (was0_2 : List (List AV)) (nlw1_0 : Bool) (w1_0 : List (List AV)) (nlw1_1 : Bool) (w1_1 : List (List AV)) (nlw1_2 : Bool) (w1_2 : List (List AV)) (x2_0 : Int) (x2_1 : Int) (x2_2 : Int) (x2_3 : Int) (x2_4 : Int) (x2_5 : List UInt8) (G0 : Nat → Option Go.Obj) (R : AV → List (Option Blk) → Prop) (h :
  ifK (x2_0 != (4 : Int)) (R (AV.bool true) [])
  (∃ n0 n1,
    Good PG nG G0 f_story_Split [AV.agg [AV.sl (2 : Nat) nlw1_0 none w1_0, AV.sl (2 : Nat) nlw1_1 none w1_1, AV.sl (4 : Nat) nlw1_2 none w1_2]] [] (AV.tup [AV.int Go.IntKind.i64 n0, AV.int Go.IntKind.i64 n1]) [] ∧
      ∃ b2 n3,
        Good PG nG G0 f_story_Of [AV.agg [AV.sl (2 : Nat) nlw1_0 none w1_0, AV.sl (2 : Nat) nlw1_1 none w1_1, AV.sl (4 : Nat) nlw1_2 none w1_2], AV.int Go.IntKind.i64 x2_2, AV.int Go.IntKind.i64 (0 : Int)] []
            (AV.tup [AV.bool b2, AV.int Go.IntKind.i64 n3]) [] ∧
          ∃ b4 n5,
            Good PG nG G0 f_story_Of [AV.agg [AV.sl (2 : Nat) nlw1_0 none w1_0, AV.sl (2 : Nat) nlw1_1 none w1_1, AV.sl (4 : Nat) nlw1_2 none w1_2], AV.int Go.IntKind.i64 x2_3, AV.int Go.IntKind.i64 (0 : Int)] []
                (AV.tup [AV.bool b4, AV.int Go.IntKind.i64 n5]) [] ∧
              ∃ b6 n7,
                Good PG nG G0 f_story_Of [AV.agg [AV.sl (2 : Nat) nlw1_0 none w1_0, AV.sl (2 : Nat) nlw1_1 none w1_1, AV.sl (4 : Nat) nlw1_2 none w1_2], AV.int Go.IntKind.i64 x2_2, AV.int Go.IntKind.i64 (1 : Int)] []
                    (AV.tup [AV.bool b6, AV.int Go.IntKind.i64 n7]) [] ∧
                  ∃ b8 n9,
                    Good PG nG G0 f_story_Of [AV.agg [AV.sl (2 : Nat) nlw1_0 none w1_0, AV.sl (2 : Nat) nlw1_1 none w1_1, AV.sl (4 : Nat) nlw1_2 none w1_2], AV.int Go.IntKind.i64 x2_3, AV.int Go.IntKind.i64 (1 : Int)] []
                        (AV.tup [AV.bool b8, AV.int Go.IntKind.i64 n9]) [] ∧
                      ifK (n1 != (0 : Int)) (R (AV.bool false) [])
                        (ifK (n3 != (0 : Int)) (R (AV.bool false) [])
                          (ifK (n5 != (0 : Int)) (R (AV.bool false) [])
                            (ifK (n7 != (0 : Int)) (R (AV.bool false) [])
                              (ifK (n9 != (0 : Int)) (R (AV.bool false) [])
                                (ifK (decide (x2_2 < (0 : Int))) (R (AV.bool false) [])
                                  (ifK (decide (x2_2 ≥ (↑(List.length w1_2) : Int))) (R (AV.bool false) [])
                                    (ifK (decide (x2_3 < (0 : Int))) (R (AV.bool false) [])
                                      (ifK (decide (x2_3 ≥ (↑(List.length w1_2) : Int))) (R (AV.bool false) [])
                                        ((0 : Int) ≤ x2_2 ∧
                                          ∃ n10 s11 s12 b13,
                                            w1_2[Int.toNat x2_2]? = some [AV.int Go.IntKind.i64 n10, AV.str s11, AV.str s12, AV.bool b13] ∧
                                              (0 : Int) ≤ x2_3 ∧
                                                ∃ n14 s15 s16 b17,
                                                  w1_2[Int.toNat x2_3]? = some [AV.int Go.IntKind.i64 n14, AV.str s15, AV.str s16, AV.bool b17] ∧
                                                    ifK b2
                                                      (ifK b4
                                                        (∃ b18,
                                                          Good PG nG G0 f_world_Same
                                                              [AV.agg [AV.sl (2 : Nat) nlwas0_0 none was0_0, AV.sl (2 : Nat) nlwas0_1 none was0_1, AV.sl (4 : Nat) nlwas0_2 none was0_2],
                                                                AV.agg [AV.sl (2 : Nat) nlw1_0 none w1_0, AV.sl (2 : Nat) nlw1_1 none w1_1, AV.sl (4 : Nat) nlw1_2 none w1_2]]
                                                              [] (AV.bool b18) [] ∧
                                                            R (AV.bool b18) [])
                                                        (ifK b6
                                                          (ifK b8
                                                            (∃ b19,
                                                              Good PG nG G0 f_world_Same
                                                                  [AV.agg [AV.sl (2 : Nat) nlwas0_0 none was0_0, AV.sl (2 : Nat) nlwas0_1 none was0_1, AV.sl (4 : Nat) nlwas0_2 none was0_2],
                                                                    AV.agg [AV.sl (2 : Nat) nlw1_0 none w1_0, AV.sl (2 : Nat) nlw1_1 none w1_1, AV.sl (4 : Nat) nlw1_2 none w1_2]]
                                                                  [] (AV.bool b19) [] ∧
                                                                R (AV.bool b19) [])
                                                            (ifK (decide (n10 > n0))
                                                              (ifK (decide (n14 > n0))
                                                                (ifK b2
                                                                  (ifK b8 (ifK b13 (R (AV.bool b17) []) (R (AV.bool false) []))
                                                                    (ifK b6 (ifK b4 (ifK b13 (R (AV.bool b17) []) (R (AV.bool false) [])) (R (AV.bool true) [])) (R (AV.bool true) [])))
                                                                  (ifK b6 (ifK b4 (ifK b13 (R (AV.bool b17) []) (R (AV.bool false) [])) (R (AV.bool true) [])) (R (AV.bool true) [])))
                                                                (R (AV.bool true) []))
                                                              (R (AV.bool true) [])))
                                                          (ifK (decide (n10 > n0))
                                                            (ifK (decide (n14 > n0))
                                                              (ifK b2
                                                                (ifK b8 (ifK b13 (R (AV.bool b17) []) (R (AV.bool false) []))
                                                                  (ifK b6 (ifK b4 (ifK b13 (R (AV.bool b17) []) (R (AV.bool false) [])) (R (AV.bool true) [])) (R (AV.bool true) [])))
                                                                (ifK b6 (ifK b4 (ifK b13 (R (AV.bool b17) []) (R (AV.bool false) [])) (R (AV.bool true) [])) (R (AV.bool true) [])))
                                                              (R (AV.bool true) []))
                                                            (R (AV.bool true) []))))
                                                      (ifK b6
                                                        (ifK b8
                                                          (∃ b20,
                                                            Good PG nG G0 f_world_Same
                                                                [AV.agg [AV.sl (2 : Nat) nlwas0_0 none was0_0, AV.sl (2 : Nat) nlwas0_1 none was0_1, AV.sl (4 : Nat) nlwas0_2 none was0_2],
                                                                  AV.agg [AV.sl (2 : Nat) nlw1_0 none w1_0, AV.sl (2 : Nat) nlw1_1 none w1_1, AV.sl (4 : Nat) nlw1_2 none w1_2]]
                                                                [] (AV.bool b20) [] ∧
                                                              R (AV.bool b20) [])
                                                          (ifK (decide (n10 > n0))
                                                            (ifK (decide (n14 > n0))
                                                              (ifK b2
                                                                (ifK b8 (ifK b13 (R (AV.bool b17) []) (R (AV.bool false) []))
                                                                  (ifK b6 (ifK b4 (ifK b13 (R (AV.bool b17) []) (R (AV.bool false) [])) (R (AV.bool true) [])) (R (AV.bool true) [])))
                                                                (ifK b6 (ifK b4 (ifK b13 (R (AV.bool b17) []) (R (AV.bool false) [])) (R (AV.bool true) [])) (R (AV.bool true) [])))
                                                              (R (AV.bool true) []))
                                                            (R (AV.bool true) [])))
                                                        (ifK (decide (n10 > n0))
                                                          (ifK (decide (n14 > n0))
                                                            (ifK b2
                                                              (ifK b8 (ifK b13 (R (AV.bool b17) []) (R (AV.bool false) [])) (ifK b6 (ifK b4 (ifK b13 (R (AV.bool b17) []) (R (AV.bool false) [])) (R (AV.bool true) [])) (R (AV.bool true) [])))
                                                              (ifK b6 (ifK b4 (ifK b13 (R (AV.bool b17) []) (R (AV.bool false) [])) (R (AV.bool true) [])) (R (AV.bool true) [])))
                                                            (R (AV.bool true) []))
                                                          (R (AV.bool true) [])))))))))))))) :
  Hold (runF PG ty nG G0 an_greatseallaw_StoryCaught_c1 f_greatseallaw_StoryCaught_c1
  [AV.agg [AV.sl (2 : Nat) nlwas0_0 none was0_0, AV.sl (2 : Nat) nlwas0_1 none was0_1, AV.sl (4 : Nat) nlwas0_2 none was0_2], AV.agg [AV.sl (2 : Nat) nlw1_0 none w1_0, AV.sl (2 : Nat) nlw1_1 none w1_1, AV.sl (4 : Nat) nlw1_2 none w1_2],
    AV.agg [AV.int Go.IntKind.i64 x2_0, AV.int Go.IntKind.i64 x2_1, AV.int Go.IntKind.i64 x2_2, AV.int Go.IntKind.i64 x2_3, AV.int Go.IntKind.i64 x2_4, AV.str x2_5]]
  [] R) := kshow h (by kernel_rfl)

theorem greatseallaw_StoryFork_c1_run (nlp0_0 : Bool) (p0_0 : List (List AV)) (nlp0_1 : Bool) (p0_1 : List (List AV)) (nlp0_2 : Bool) (p0_2 : List (List AV)) (nlp1_0 : Bool) (p1_0 : List (List AV)) (nlp1_1 : Bool) (p1_1 : List (List AV)) (nlp1_2 : Bool) (p1_2 : List (List AV)) (p2_0 : Int) (p2_1 : Int) (p2_2 : Int) (p2_3 : Int) (p2_4 : Int) (p2_5 : List UInt8) (G0 : Nat → Option Go.Obj) (R : AV → List (Option Blk) → Prop) (h :
  R (AV.bool true) []) :
  Hold (runF PG ty nG G0 an_greatseallaw_StoryFork_c1 f_greatseallaw_StoryFork_c1
  [AV.agg [AV.sl (2 : Nat) nlp0_0 none p0_0, AV.sl (2 : Nat) nlp0_1 none p0_1, AV.sl (4 : Nat) nlp0_2 none p0_2], AV.agg [AV.sl (2 : Nat) nlp1_0 none p1_0, AV.sl (2 : Nat) nlp1_1 none p1_1, AV.sl (4 : Nat) nlp1_2 none p1_2],
    AV.agg [AV.int Go.IntKind.i64 p2_0, AV.int Go.IntKind.i64 p2_1, AV.int Go.IntKind.i64 p2_2, AV.int Go.IntKind.i64 p2_3, AV.int Go.IntKind.i64 p2_4, AV.str p2_5]]
  [] R) := kshow h (by kernel_rfl)

theorem greatseallaw_StoryHonest_c1_run (nlp0_0 : Bool) (p0_0 : List (List AV)) (nlp0_1 : Bool) (p0_1 : List (List AV)) (nlp0_2 : Bool) (p0_2 : List (List AV)) (nlw1_0 : Bool) (w1_0 : List (List AV)) (nlw1_1 : Bool) (w1_1 : List (List AV)) (nlw1_2 : Bool) (w1_2 : List (List AV)) (p2_0 : Int) (p2_1 : Int) (p2_2 : Int) (p2_3 : Int) (p2_4 : Int) (p2_5 : List UInt8) (G0 : Nat → Option Go.Obj) (R : AV → List (Option Blk) → Prop) (h :
  Does PG nG G0 (fnOf PG f_greatseallaw_StoryHonest_c1) (0 : Nat) (lp PG f_greatseallaw_StoryHonest_c1 (0 : Nat))
  (mkT (36 : Nat) [((4 : Nat), AV.ref (0 : Nat) (0 : Nat)), ((12 : Nat), AV.sl (4 : Nat) nlw1_2 none w1_2), ((13 : Nat), AV.int Go.IntKind.i64 (↑(List.length w1_2) : Int)), ((14 : Nat), AV.int Go.IntKind.i64 (0 : Int))])
  [some (Blk.var [AV.sl (2 : Nat) nlw1_0 none w1_0, AV.sl (2 : Nat) nlw1_1 none w1_1, AV.sl (4 : Nat) nlw1_2 none w1_2])] R) :
  Hold (runF PG ty nG G0 an_greatseallaw_StoryHonest_c1 f_greatseallaw_StoryHonest_c1
  [AV.agg [AV.sl (2 : Nat) nlp0_0 none p0_0, AV.sl (2 : Nat) nlp0_1 none p0_1, AV.sl (4 : Nat) nlp0_2 none p0_2], AV.agg [AV.sl (2 : Nat) nlw1_0 none w1_0, AV.sl (2 : Nat) nlw1_1 none w1_1, AV.sl (4 : Nat) nlw1_2 none w1_2],
    AV.agg [AV.int Go.IntKind.i64 p2_0, AV.int Go.IntKind.i64 p2_1, AV.int Go.IntKind.i64 p2_2, AV.int Go.IntKind.i64 p2_3, AV.int Go.IntKind.i64 p2_4, AV.str p2_5]]
  [] R) := kshow h (by kernel_rfl)

theorem greatseallaw_StoryHonest_c1_l0_run (G0 : Nat → Option Obj) (b0 : Bool) (xs1 : List (List AV)) (n2 : Int) (n3 : Int) (b4 : Bool) (xs5 : List (List AV)) (b6 : Bool) (xs7 : List (List AV)) (b8 : Bool) (xs9 : List (List AV)) (R : AV → List (Option Blk) → Prop) (h :
  ifK (decide (n3 < n2))
  ((0 : Int) ≤ n3 ∧
    ∃ n10 s11 s12 b13,
      xs1[Int.toNat n3]? = some [AV.int Go.IntKind.i64 n10, AV.str s11, AV.str s12, AV.bool b13] ∧
        ∃ b14 n15,
          Good PG nG G0 f_story_Of [AV.agg [AV.sl (2 : Nat) b4 none xs5, AV.sl (2 : Nat) b6 none xs7, AV.sl (4 : Nat) b8 none xs9], AV.int Go.IntKind.i64 n3, AV.int Go.IntKind.i64 (0 : Int)] []
              (AV.tup [AV.bool b14, AV.int Go.IntKind.i64 n15]) [] ∧
            ifK (n15 != (0 : Int)) (R (AV.bool false) [])
              (ifK (!b14) (R (AV.bool false) [])
                (ifK b13 (R (AV.bool false) [])
                  (Does PG nG G0 (fnOf PG f_greatseallaw_StoryHonest_c1) (0 : Nat) (lp PG f_greatseallaw_StoryHonest_c1 (0 : Nat))
                    (mkT (36 : Nat)
                      [((4 : Nat), AV.ref (0 : Nat) (0 : Nat)), ((12 : Nat), AV.sl (4 : Nat) b0 none xs1), ((13 : Nat), AV.int Go.IntKind.i64 n2), ((14 : Nat), AV.int Go.IntKind.i64 (Go.IntKind.wrap Go.IntKind.i64 (n3 + (1 : Int))))])
                    [some (Blk.var [AV.sl (2 : Nat) b4 none xs5, AV.sl (2 : Nat) b6 none xs7, AV.sl (4 : Nat) b8 none xs9])] R))))
  (R (AV.bool true) [])) :
  Hold (runL PG ty nG G0 an_greatseallaw_StoryHonest_c1 f_greatseallaw_StoryHonest_c1 (0 : Nat) (0 : Nat)
  (mkT (36 : Nat) [((4 : Nat), AV.ref (0 : Nat) (0 : Nat)), ((12 : Nat), AV.sl (4 : Nat) b0 none xs1), ((13 : Nat), AV.int Go.IntKind.i64 n2), ((14 : Nat), AV.int Go.IntKind.i64 n3)])
  [some (Blk.var [AV.sl (2 : Nat) b4 none xs5, AV.sl (2 : Nat) b6 none xs7, AV.sl (4 : Nat) b8 none xs9])] R) := kshow h (by kernel_rfl)

theorem greatseallaw_StoryFollows_c1_not_run (v0 : Bool) (d0 : List (List AV)) (v1 : Bool) (d1 : List (List AV)) (v2 : Bool) (d : List (List AV)) (n0 : Bool) (b0 : List (List AV)) (n1 : Bool) (b1 : List (List AV)) (n2 : Bool) (c : List (List AV)) (xk : Int) (xs : Int) (xw : Int) (xo : Int) (ek : Int) (ev : List UInt8) (m0 : Bool) (o0 : List (List AV)) (m1 : Bool) (o1 : List (List AV)) (m2 : Bool) (o2 : List (List AV)) (G0 : Nat → Option Go.Obj) (R : AV → List (Option Blk) → Prop) (h :
  ifK (xk != (3 : Int)) (R (AV.bool true) [some (Blk.var [AV.sl (2 : Nat) m0 none o0, AV.sl (2 : Nat) m1 none o1, AV.sl (2 : Nat) m2 none o2])])
  ((0 : Int) ≤ xw ∧
    ∃ n0_1 s1 s2 b3,
      c[Int.toNat xw]? = some [AV.int Go.IntKind.i64 n0_1, AV.str s1, AV.str s2, AV.bool b3] ∧
        (0 : Int) ≤ xs ∧
          xs < (2 : Int) ∧
            ifK (xs == (0 : Int))
              (ifK (n0_1 != (↑(List.length b0) : Int)) (R (AV.bool true) [some (Blk.var [AV.sl (2 : Nat) m0 none o0, AV.sl (2 : Nat) m1 none o1, AV.sl (2 : Nat) m2 none o2])])
                ((0 : Int) ≤ xs ∧
                  xs < (2 : Int) ∧
                    ifK (xs == (0 : Int)) (∃ n4 s5 s6 n7, Good PG nG G0 f_book_Head [AV.agg [AV.sl (2 : Nat) n0 none b0]] [] (AV.tup [AV.agg [AV.int Go.IntKind.i64 n4, AV.str s5, AV.str s6], AV.int Go.IntKind.i64 n7]) [] ∧ False)
                      (∃ n8 s9 s10 n11, Good PG nG G0 f_book_Head [AV.agg [AV.sl (2 : Nat) n1 none b1]] [] (AV.tup [AV.agg [AV.int Go.IntKind.i64 n8, AV.str s9, AV.str s10], AV.int Go.IntKind.i64 n11]) [] ∧ False)))
              (ifK (n0_1 != (↑(List.length b1) : Int)) (R (AV.bool true) [some (Blk.var [AV.sl (2 : Nat) m0 none o0, AV.sl (2 : Nat) m1 none o1, AV.sl (2 : Nat) m2 none o2])])
                ((0 : Int) ≤ xs ∧
                  xs < (2 : Int) ∧
                    ifK (xs == (0 : Int))
                      (∃ n12 s13 s14 n15, Good PG nG G0 f_book_Head [AV.agg [AV.sl (2 : Nat) n0 none b0]] [] (AV.tup [AV.agg [AV.int Go.IntKind.i64 n12, AV.str s13, AV.str s14], AV.int Go.IntKind.i64 n15]) [] ∧ False)
                      (∃ n16 s17 s18 n19, Good PG nG G0 f_book_Head [AV.agg [AV.sl (2 : Nat) n1 none b1]] [] (AV.tup [AV.agg [AV.int Go.IntKind.i64 n16, AV.str s17, AV.str s18], AV.int Go.IntKind.i64 n19]) [] ∧ False))))) :
  Hold (runN (12 : Nat) PG ty nG G0 an_greatseallaw_StoryFollows_c1_not f_greatseallaw_StoryFollows_c1
  [AV.agg [AV.sl (2 : Nat) v0 none d0, AV.sl (2 : Nat) v1 none d1, AV.sl (4 : Nat) v2 none d], AV.agg [AV.sl (2 : Nat) n0 none b0, AV.sl (2 : Nat) n1 none b1, AV.sl (4 : Nat) n2 none c],
    AV.agg [AV.int Go.IntKind.i64 xk, AV.int Go.IntKind.i64 xs, AV.int Go.IntKind.i64 xw, AV.int Go.IntKind.i64 xo, AV.int Go.IntKind.i64 ek, AV.str ev], AV.ref (0 : Nat) (0 : Nat)]
  [some (Blk.var [AV.sl (2 : Nat) m0 none o0, AV.sl (2 : Nat) m1 none o1, AV.sl (2 : Nat) m2 none o2])] R) := kshow h (by kernel_rfl)

theorem greatseallaw_StoryFollows_c1_w0s0_run (v0 : Bool) (d0 : List (List AV)) (v1 : Bool) (d1 : List (List AV)) (v2 : Bool) (d : List (List AV)) (n0 : Bool) (b0 : List (List AV)) (n1 : Bool) (b1 : List (List AV)) (n2 : Bool) (c : List (List AV)) (xo : Int) (ek : Int) (ev : List UInt8) (m0 : Bool) (o0 : List (List AV)) (m1 : Bool) (o1 : List (List AV)) (m2 : Bool) (o2 : List (List AV)) (G0 : Nat → Option Go.Obj) (R : AV → List (Option Blk) → Prop) (h :
  (0 : Int) ≤ (0 : Int) ∧
  ∃ n0_1 s1 s2 b3,
    c[(0 : Nat)]? = some [AV.int Go.IntKind.i64 n0_1, AV.str s1, AV.str s2, AV.bool b3] ∧
      (0 : Int) ≤ (0 : Int) ∧
        (0 : Int) < (2 : Int) ∧
          ifK (n0_1 != (↑(List.length b0) : Int)) (R (AV.bool true) [some (Blk.var [AV.sl (2 : Nat) m0 none o0, AV.sl (2 : Nat) m1 none o1, AV.sl (2 : Nat) m2 none o2])])
            ((0 : Int) ≤ (0 : Int) ∧
              (0 : Int) < (2 : Int) ∧
                ∃ n4 s5 s6 n7,
                  Good PG nG G0 f_book_Head [AV.agg [AV.sl (2 : Nat) n0 none b0]] [] (AV.tup [AV.agg [AV.int Go.IntKind.i64 n4, AV.str s5, AV.str s6], AV.int Go.IntKind.i64 n7]) [] ∧
                    ifK (n7 != (0 : Int)) (R (AV.bool false) [some (Blk.var [AV.sl (2 : Nat) m0 none o0, AV.sl (2 : Nat) m1 none o1, AV.sl (2 : Nat) m2 none o2])])
                      ((0 : Int) ≤ (0 : Int) ∧
                        ∃ n8 s9 s10 b11,
                          c[(0 : Nat)]? = some [AV.int Go.IntKind.i64 n8, AV.str s9, AV.str s10, AV.bool b11] ∧
                            ifK (!eqAll [AV.int Go.IntKind.i64 n4, AV.str s5, AV.str s6] [AV.int Go.IntKind.i64 n8, AV.str s9, AV.str s10])
                              (R (AV.bool true) [some (Blk.var [AV.sl (2 : Nat) m0 none o0, AV.sl (2 : Nat) m1 none o1, AV.sl (2 : Nat) m2 none o2])])
                              ((0 : Int) ≤ (0 : Int) ∧
                                (0 : Int) < (3 : Int) ∧
                                  (0 : Int) ≤ (0 : Int) ∧
                                    (0 : Int) < (2 : Int) ∧
                                      ∃ b12 xs13,
                                        Good PG nG G0 f_slices_Clone_Entry [AV.sl (2 : Nat) n0 none b0] [] (AV.sl (2 : Nat) b12 none xs13) [] ∧
                                          (0 : Int) ≤ (0 : Int) ∧
                                            (0 : Int) < (3 : Int) ∧
                                              (0 : Int) ≤ (0 : Int) ∧
                                                (0 : Int) < (3 : Int) ∧
                                                  ifK (decide ((↑(List.length o0) : Int) ≤ (↑(List.length xs13) : Int)))
                                                    ((0 : Int) ≤ (0 : Int) ∧
                                                      (0 : Int) < (3 : Int) ∧
                                                        (0 : Int) ≤ (0 : Int) ∧
                                                          (0 : Int) ≤ (↑(List.length o0) : Int) ∧
                                                            (↑(List.length o0) : Int) ≤ (↑(List.length xs13) : Int) ∧
                                                              ∃ b14,
                                                                Good PG nG G0 f_slices_Equal_Entry [AV.sl (2 : Nat) m0 none o0, AV.sl (2 : Nat) b12 none (List.drop (0 : Nat) (List.take (Int.toNat (↑(List.length o0) : Int)) xs13))] []
                                                                    (AV.bool b14) [] ∧
                                                                  R (AV.bool b14) [some (Blk.var [AV.sl (2 : Nat) b12 none xs13, AV.sl (2 : Nat) m1 none o1, AV.sl (2 : Nat) m2 none o2])])
                                                    (R (AV.bool false) [some (Blk.var [AV.sl (2 : Nat) b12 none xs13, AV.sl (2 : Nat) m1 none o1, AV.sl (2 : Nat) m2 none o2])]))))) :
  Hold (runF PG ty nG G0 an_greatseallaw_StoryFollows_c1_w0s0 f_greatseallaw_StoryFollows_c1
  [AV.agg [AV.sl (2 : Nat) v0 none d0, AV.sl (2 : Nat) v1 none d1, AV.sl (4 : Nat) v2 none d], AV.agg [AV.sl (2 : Nat) n0 none b0, AV.sl (2 : Nat) n1 none b1, AV.sl (4 : Nat) n2 none c],
    AV.agg [AV.int Go.IntKind.i64 (3 : Int), AV.int Go.IntKind.i64 (0 : Int), AV.int Go.IntKind.i64 (0 : Int), AV.int Go.IntKind.i64 xo, AV.int Go.IntKind.i64 ek, AV.str ev], AV.ref (0 : Nat) (0 : Nat)]
  [some (Blk.var [AV.sl (2 : Nat) m0 none o0, AV.sl (2 : Nat) m1 none o1, AV.sl (2 : Nat) m2 none o2])] R) := kshow h (by kernel_rfl)

theorem greatseallaw_StoryFollows_c1_w0s1_run (v0 : Bool) (d0 : List (List AV)) (v1 : Bool) (d1 : List (List AV)) (v2 : Bool) (d : List (List AV)) (n0 : Bool) (b0 : List (List AV)) (n1 : Bool) (b1 : List (List AV)) (n2 : Bool) (c : List (List AV)) (xo : Int) (ek : Int) (ev : List UInt8) (m0 : Bool) (o0 : List (List AV)) (m1 : Bool) (o1 : List (List AV)) (m2 : Bool) (o2 : List (List AV)) (G0 : Nat → Option Go.Obj) (R : AV → List (Option Blk) → Prop) (h :
  (0 : Int) ≤ (0 : Int) ∧
  ∃ n0 s1 s2 b3,
    c[(0 : Nat)]? = some [AV.int Go.IntKind.i64 n0, AV.str s1, AV.str s2, AV.bool b3] ∧
      (0 : Int) ≤ (1 : Int) ∧
        (1 : Int) < (2 : Int) ∧
          ifK (n0 != (↑(List.length b1) : Int)) (R (AV.bool true) [some (Blk.var [AV.sl (2 : Nat) m0 none o0, AV.sl (2 : Nat) m1 none o1, AV.sl (2 : Nat) m2 none o2])])
            ((0 : Int) ≤ (1 : Int) ∧
              (1 : Int) < (2 : Int) ∧
                ∃ n4 s5 s6 n7,
                  Good PG nG G0 f_book_Head [AV.agg [AV.sl (2 : Nat) n1 none b1]] [] (AV.tup [AV.agg [AV.int Go.IntKind.i64 n4, AV.str s5, AV.str s6], AV.int Go.IntKind.i64 n7]) [] ∧
                    ifK (n7 != (0 : Int)) (R (AV.bool false) [some (Blk.var [AV.sl (2 : Nat) m0 none o0, AV.sl (2 : Nat) m1 none o1, AV.sl (2 : Nat) m2 none o2])])
                      ((0 : Int) ≤ (0 : Int) ∧
                        ∃ n8 s9 s10 b11,
                          c[(0 : Nat)]? = some [AV.int Go.IntKind.i64 n8, AV.str s9, AV.str s10, AV.bool b11] ∧
                            ifK (!eqAll [AV.int Go.IntKind.i64 n4, AV.str s5, AV.str s6] [AV.int Go.IntKind.i64 n8, AV.str s9, AV.str s10])
                              (R (AV.bool true) [some (Blk.var [AV.sl (2 : Nat) m0 none o0, AV.sl (2 : Nat) m1 none o1, AV.sl (2 : Nat) m2 none o2])])
                              ((0 : Int) ≤ (0 : Int) ∧
                                (0 : Int) < (3 : Int) ∧
                                  (0 : Int) ≤ (1 : Int) ∧
                                    (1 : Int) < (2 : Int) ∧
                                      ∃ b12 xs13,
                                        Good PG nG G0 f_slices_Clone_Entry [AV.sl (2 : Nat) n1 none b1] [] (AV.sl (2 : Nat) b12 none xs13) [] ∧
                                          (0 : Int) ≤ (0 : Int) ∧
                                            (0 : Int) < (3 : Int) ∧
                                              (0 : Int) ≤ (0 : Int) ∧
                                                (0 : Int) < (3 : Int) ∧
                                                  ifK (decide ((↑(List.length o0) : Int) ≤ (↑(List.length xs13) : Int)))
                                                    ((0 : Int) ≤ (0 : Int) ∧
                                                      (0 : Int) < (3 : Int) ∧
                                                        (0 : Int) ≤ (0 : Int) ∧
                                                          (0 : Int) ≤ (↑(List.length o0) : Int) ∧
                                                            (↑(List.length o0) : Int) ≤ (↑(List.length xs13) : Int) ∧
                                                              ∃ b14,
                                                                Good PG nG G0 f_slices_Equal_Entry [AV.sl (2 : Nat) m0 none o0, AV.sl (2 : Nat) b12 none (List.drop (0 : Nat) (List.take (Int.toNat (↑(List.length o0) : Int)) xs13))] []
                                                                    (AV.bool b14) [] ∧
                                                                  R (AV.bool b14) [some (Blk.var [AV.sl (2 : Nat) b12 none xs13, AV.sl (2 : Nat) m1 none o1, AV.sl (2 : Nat) m2 none o2])])
                                                    (R (AV.bool false) [some (Blk.var [AV.sl (2 : Nat) b12 none xs13, AV.sl (2 : Nat) m1 none o1, AV.sl (2 : Nat) m2 none o2])]))))) :
  Hold (runF PG ty nG G0 an_greatseallaw_StoryFollows_c1_w0s1 f_greatseallaw_StoryFollows_c1
  [AV.agg [AV.sl (2 : Nat) v0 none d0, AV.sl (2 : Nat) v1 none d1, AV.sl (4 : Nat) v2 none d], AV.agg [AV.sl (2 : Nat) n0 none b0, AV.sl (2 : Nat) n1 none b1, AV.sl (4 : Nat) n2 none c],
    AV.agg [AV.int Go.IntKind.i64 (3 : Int), AV.int Go.IntKind.i64 (1 : Int), AV.int Go.IntKind.i64 (0 : Int), AV.int Go.IntKind.i64 xo, AV.int Go.IntKind.i64 ek, AV.str ev], AV.ref (0 : Nat) (0 : Nat)]
  [some (Blk.var [AV.sl (2 : Nat) m0 none o0, AV.sl (2 : Nat) m1 none o1, AV.sl (2 : Nat) m2 none o2])] R) := kshow h (by kernel_rfl)

theorem greatseallaw_StoryFollows_c1_w1s0_run (v0 : Bool) (d0 : List (List AV)) (v1 : Bool) (d1 : List (List AV)) (v2 : Bool) (d : List (List AV)) (n0 : Bool) (b0 : List (List AV)) (n1 : Bool) (b1 : List (List AV)) (n2 : Bool) (c : List (List AV)) (xo : Int) (ek : Int) (ev : List UInt8) (m0 : Bool) (o0 : List (List AV)) (m1 : Bool) (o1 : List (List AV)) (m2 : Bool) (o2 : List (List AV)) (G0 : Nat → Option Go.Obj) (R : AV → List (Option Blk) → Prop) (h :
  (0 : Int) ≤ (1 : Int) ∧
  ∃ n0_1 s1 s2 b3,
    c[(1 : Nat)]? = some [AV.int Go.IntKind.i64 n0_1, AV.str s1, AV.str s2, AV.bool b3] ∧
      (0 : Int) ≤ (0 : Int) ∧
        (0 : Int) < (2 : Int) ∧
          ifK (n0_1 != (↑(List.length b0) : Int)) (R (AV.bool true) [some (Blk.var [AV.sl (2 : Nat) m0 none o0, AV.sl (2 : Nat) m1 none o1, AV.sl (2 : Nat) m2 none o2])])
            ((0 : Int) ≤ (0 : Int) ∧
              (0 : Int) < (2 : Int) ∧
                ∃ n4 s5 s6 n7,
                  Good PG nG G0 f_book_Head [AV.agg [AV.sl (2 : Nat) n0 none b0]] [] (AV.tup [AV.agg [AV.int Go.IntKind.i64 n4, AV.str s5, AV.str s6], AV.int Go.IntKind.i64 n7]) [] ∧
                    ifK (n7 != (0 : Int)) (R (AV.bool false) [some (Blk.var [AV.sl (2 : Nat) m0 none o0, AV.sl (2 : Nat) m1 none o1, AV.sl (2 : Nat) m2 none o2])])
                      ((0 : Int) ≤ (1 : Int) ∧
                        ∃ n8 s9 s10 b11,
                          c[(1 : Nat)]? = some [AV.int Go.IntKind.i64 n8, AV.str s9, AV.str s10, AV.bool b11] ∧
                            ifK (!eqAll [AV.int Go.IntKind.i64 n4, AV.str s5, AV.str s6] [AV.int Go.IntKind.i64 n8, AV.str s9, AV.str s10])
                              (R (AV.bool true) [some (Blk.var [AV.sl (2 : Nat) m0 none o0, AV.sl (2 : Nat) m1 none o1, AV.sl (2 : Nat) m2 none o2])])
                              ((0 : Int) ≤ (1 : Int) ∧
                                (1 : Int) < (3 : Int) ∧
                                  (0 : Int) ≤ (0 : Int) ∧
                                    (0 : Int) < (2 : Int) ∧
                                      ∃ b12 xs13,
                                        Good PG nG G0 f_slices_Clone_Entry [AV.sl (2 : Nat) n0 none b0] [] (AV.sl (2 : Nat) b12 none xs13) [] ∧
                                          (0 : Int) ≤ (1 : Int) ∧
                                            (1 : Int) < (3 : Int) ∧
                                              (0 : Int) ≤ (1 : Int) ∧
                                                (1 : Int) < (3 : Int) ∧
                                                  ifK (decide ((↑(List.length o1) : Int) ≤ (↑(List.length xs13) : Int)))
                                                    ((0 : Int) ≤ (1 : Int) ∧
                                                      (1 : Int) < (3 : Int) ∧
                                                        (0 : Int) ≤ (0 : Int) ∧
                                                          (0 : Int) ≤ (↑(List.length o1) : Int) ∧
                                                            (↑(List.length o1) : Int) ≤ (↑(List.length xs13) : Int) ∧
                                                              ∃ b14,
                                                                Good PG nG G0 f_slices_Equal_Entry [AV.sl (2 : Nat) m1 none o1, AV.sl (2 : Nat) b12 none (List.drop (0 : Nat) (List.take (Int.toNat (↑(List.length o1) : Int)) xs13))] []
                                                                    (AV.bool b14) [] ∧
                                                                  R (AV.bool b14) [some (Blk.var [AV.sl (2 : Nat) m0 none o0, AV.sl (2 : Nat) b12 none xs13, AV.sl (2 : Nat) m2 none o2])])
                                                    (R (AV.bool false) [some (Blk.var [AV.sl (2 : Nat) m0 none o0, AV.sl (2 : Nat) b12 none xs13, AV.sl (2 : Nat) m2 none o2])]))))) :
  Hold (runF PG ty nG G0 an_greatseallaw_StoryFollows_c1_w1s0 f_greatseallaw_StoryFollows_c1
  [AV.agg [AV.sl (2 : Nat) v0 none d0, AV.sl (2 : Nat) v1 none d1, AV.sl (4 : Nat) v2 none d], AV.agg [AV.sl (2 : Nat) n0 none b0, AV.sl (2 : Nat) n1 none b1, AV.sl (4 : Nat) n2 none c],
    AV.agg [AV.int Go.IntKind.i64 (3 : Int), AV.int Go.IntKind.i64 (0 : Int), AV.int Go.IntKind.i64 (1 : Int), AV.int Go.IntKind.i64 xo, AV.int Go.IntKind.i64 ek, AV.str ev], AV.ref (0 : Nat) (0 : Nat)]
  [some (Blk.var [AV.sl (2 : Nat) m0 none o0, AV.sl (2 : Nat) m1 none o1, AV.sl (2 : Nat) m2 none o2])] R) := kshow h (by kernel_rfl)

theorem greatseallaw_StoryFollows_c1_w1s1_run (v0 : Bool) (d0 : List (List AV)) (v1 : Bool) (d1 : List (List AV)) (v2 : Bool) (d : List (List AV)) (n0 : Bool) (b0 : List (List AV)) (n1 : Bool) (b1 : List (List AV)) (n2 : Bool) (c : List (List AV)) (xo : Int) (ek : Int) (ev : List UInt8) (m0 : Bool) (o0 : List (List AV)) (m1 : Bool) (o1 : List (List AV)) (m2 : Bool) (o2 : List (List AV)) (G0 : Nat → Option Go.Obj) (R : AV → List (Option Blk) → Prop) (h :
  (0 : Int) ≤ (1 : Int) ∧
  ∃ n0 s1 s2 b3,
    c[(1 : Nat)]? = some [AV.int Go.IntKind.i64 n0, AV.str s1, AV.str s2, AV.bool b3] ∧
      (0 : Int) ≤ (1 : Int) ∧
        (1 : Int) < (2 : Int) ∧
          ifK (n0 != (↑(List.length b1) : Int)) (R (AV.bool true) [some (Blk.var [AV.sl (2 : Nat) m0 none o0, AV.sl (2 : Nat) m1 none o1, AV.sl (2 : Nat) m2 none o2])])
            ((0 : Int) ≤ (1 : Int) ∧
              (1 : Int) < (2 : Int) ∧
                ∃ n4 s5 s6 n7,
                  Good PG nG G0 f_book_Head [AV.agg [AV.sl (2 : Nat) n1 none b1]] [] (AV.tup [AV.agg [AV.int Go.IntKind.i64 n4, AV.str s5, AV.str s6], AV.int Go.IntKind.i64 n7]) [] ∧
                    ifK (n7 != (0 : Int)) (R (AV.bool false) [some (Blk.var [AV.sl (2 : Nat) m0 none o0, AV.sl (2 : Nat) m1 none o1, AV.sl (2 : Nat) m2 none o2])])
                      ((0 : Int) ≤ (1 : Int) ∧
                        ∃ n8 s9 s10 b11,
                          c[(1 : Nat)]? = some [AV.int Go.IntKind.i64 n8, AV.str s9, AV.str s10, AV.bool b11] ∧
                            ifK (!eqAll [AV.int Go.IntKind.i64 n4, AV.str s5, AV.str s6] [AV.int Go.IntKind.i64 n8, AV.str s9, AV.str s10])
                              (R (AV.bool true) [some (Blk.var [AV.sl (2 : Nat) m0 none o0, AV.sl (2 : Nat) m1 none o1, AV.sl (2 : Nat) m2 none o2])])
                              ((0 : Int) ≤ (1 : Int) ∧
                                (1 : Int) < (3 : Int) ∧
                                  (0 : Int) ≤ (1 : Int) ∧
                                    (1 : Int) < (2 : Int) ∧
                                      ∃ b12 xs13,
                                        Good PG nG G0 f_slices_Clone_Entry [AV.sl (2 : Nat) n1 none b1] [] (AV.sl (2 : Nat) b12 none xs13) [] ∧
                                          (0 : Int) ≤ (1 : Int) ∧
                                            (1 : Int) < (3 : Int) ∧
                                              (0 : Int) ≤ (1 : Int) ∧
                                                (1 : Int) < (3 : Int) ∧
                                                  ifK (decide ((↑(List.length o1) : Int) ≤ (↑(List.length xs13) : Int)))
                                                    ((0 : Int) ≤ (1 : Int) ∧
                                                      (1 : Int) < (3 : Int) ∧
                                                        (0 : Int) ≤ (0 : Int) ∧
                                                          (0 : Int) ≤ (↑(List.length o1) : Int) ∧
                                                            (↑(List.length o1) : Int) ≤ (↑(List.length xs13) : Int) ∧
                                                              ∃ b14,
                                                                Good PG nG G0 f_slices_Equal_Entry [AV.sl (2 : Nat) m1 none o1, AV.sl (2 : Nat) b12 none (List.drop (0 : Nat) (List.take (Int.toNat (↑(List.length o1) : Int)) xs13))] []
                                                                    (AV.bool b14) [] ∧
                                                                  R (AV.bool b14) [some (Blk.var [AV.sl (2 : Nat) m0 none o0, AV.sl (2 : Nat) b12 none xs13, AV.sl (2 : Nat) m2 none o2])])
                                                    (R (AV.bool false) [some (Blk.var [AV.sl (2 : Nat) m0 none o0, AV.sl (2 : Nat) b12 none xs13, AV.sl (2 : Nat) m2 none o2])]))))) :
  Hold (runF PG ty nG G0 an_greatseallaw_StoryFollows_c1_w1s1 f_greatseallaw_StoryFollows_c1
  [AV.agg [AV.sl (2 : Nat) v0 none d0, AV.sl (2 : Nat) v1 none d1, AV.sl (4 : Nat) v2 none d], AV.agg [AV.sl (2 : Nat) n0 none b0, AV.sl (2 : Nat) n1 none b1, AV.sl (4 : Nat) n2 none c],
    AV.agg [AV.int Go.IntKind.i64 (3 : Int), AV.int Go.IntKind.i64 (1 : Int), AV.int Go.IntKind.i64 (1 : Int), AV.int Go.IntKind.i64 xo, AV.int Go.IntKind.i64 ek, AV.str ev], AV.ref (0 : Nat) (0 : Nat)]
  [some (Blk.var [AV.sl (2 : Nat) m0 none o0, AV.sl (2 : Nat) m1 none o1, AV.sl (2 : Nat) m2 none o2])] R) := kshow h (by kernel_rfl)

theorem greatseallaw_StoryFollows_c1_w2s0_run (v0 : Bool) (d0 : List (List AV)) (v1 : Bool) (d1 : List (List AV)) (v2 : Bool) (d : List (List AV)) (n0 : Bool) (b0 : List (List AV)) (n1 : Bool) (b1 : List (List AV)) (n2 : Bool) (c : List (List AV)) (xo : Int) (ek : Int) (ev : List UInt8) (m0 : Bool) (o0 : List (List AV)) (m1 : Bool) (o1 : List (List AV)) (m2 : Bool) (o2 : List (List AV)) (G0 : Nat → Option Go.Obj) (R : AV → List (Option Blk) → Prop) (h :
  (0 : Int) ≤ (2 : Int) ∧
  ∃ n0_1 s1 s2 b3,
    c[(2 : Nat)]? = some [AV.int Go.IntKind.i64 n0_1, AV.str s1, AV.str s2, AV.bool b3] ∧
      (0 : Int) ≤ (0 : Int) ∧
        (0 : Int) < (2 : Int) ∧
          ifK (n0_1 != (↑(List.length b0) : Int)) (R (AV.bool true) [some (Blk.var [AV.sl (2 : Nat) m0 none o0, AV.sl (2 : Nat) m1 none o1, AV.sl (2 : Nat) m2 none o2])])
            ((0 : Int) ≤ (0 : Int) ∧
              (0 : Int) < (2 : Int) ∧
                ∃ n4 s5 s6 n7,
                  Good PG nG G0 f_book_Head [AV.agg [AV.sl (2 : Nat) n0 none b0]] [] (AV.tup [AV.agg [AV.int Go.IntKind.i64 n4, AV.str s5, AV.str s6], AV.int Go.IntKind.i64 n7]) [] ∧
                    ifK (n7 != (0 : Int)) (R (AV.bool false) [some (Blk.var [AV.sl (2 : Nat) m0 none o0, AV.sl (2 : Nat) m1 none o1, AV.sl (2 : Nat) m2 none o2])])
                      ((0 : Int) ≤ (2 : Int) ∧
                        ∃ n8 s9 s10 b11,
                          c[(2 : Nat)]? = some [AV.int Go.IntKind.i64 n8, AV.str s9, AV.str s10, AV.bool b11] ∧
                            ifK (!eqAll [AV.int Go.IntKind.i64 n4, AV.str s5, AV.str s6] [AV.int Go.IntKind.i64 n8, AV.str s9, AV.str s10])
                              (R (AV.bool true) [some (Blk.var [AV.sl (2 : Nat) m0 none o0, AV.sl (2 : Nat) m1 none o1, AV.sl (2 : Nat) m2 none o2])])
                              ((0 : Int) ≤ (2 : Int) ∧
                                (2 : Int) < (3 : Int) ∧
                                  (0 : Int) ≤ (0 : Int) ∧
                                    (0 : Int) < (2 : Int) ∧
                                      ∃ b12 xs13,
                                        Good PG nG G0 f_slices_Clone_Entry [AV.sl (2 : Nat) n0 none b0] [] (AV.sl (2 : Nat) b12 none xs13) [] ∧
                                          (0 : Int) ≤ (2 : Int) ∧
                                            (2 : Int) < (3 : Int) ∧
                                              (0 : Int) ≤ (2 : Int) ∧
                                                (2 : Int) < (3 : Int) ∧
                                                  ifK (decide ((↑(List.length o2) : Int) ≤ (↑(List.length xs13) : Int)))
                                                    ((0 : Int) ≤ (2 : Int) ∧
                                                      (2 : Int) < (3 : Int) ∧
                                                        (0 : Int) ≤ (0 : Int) ∧
                                                          (0 : Int) ≤ (↑(List.length o2) : Int) ∧
                                                            (↑(List.length o2) : Int) ≤ (↑(List.length xs13) : Int) ∧
                                                              ∃ b14,
                                                                Good PG nG G0 f_slices_Equal_Entry [AV.sl (2 : Nat) m2 none o2, AV.sl (2 : Nat) b12 none (List.drop (0 : Nat) (List.take (Int.toNat (↑(List.length o2) : Int)) xs13))] []
                                                                    (AV.bool b14) [] ∧
                                                                  R (AV.bool b14) [some (Blk.var [AV.sl (2 : Nat) m0 none o0, AV.sl (2 : Nat) m1 none o1, AV.sl (2 : Nat) b12 none xs13])])
                                                    (R (AV.bool false) [some (Blk.var [AV.sl (2 : Nat) m0 none o0, AV.sl (2 : Nat) m1 none o1, AV.sl (2 : Nat) b12 none xs13])]))))) :
  Hold (runF PG ty nG G0 an_greatseallaw_StoryFollows_c1_w2s0 f_greatseallaw_StoryFollows_c1
  [AV.agg [AV.sl (2 : Nat) v0 none d0, AV.sl (2 : Nat) v1 none d1, AV.sl (4 : Nat) v2 none d], AV.agg [AV.sl (2 : Nat) n0 none b0, AV.sl (2 : Nat) n1 none b1, AV.sl (4 : Nat) n2 none c],
    AV.agg [AV.int Go.IntKind.i64 (3 : Int), AV.int Go.IntKind.i64 (0 : Int), AV.int Go.IntKind.i64 (2 : Int), AV.int Go.IntKind.i64 xo, AV.int Go.IntKind.i64 ek, AV.str ev], AV.ref (0 : Nat) (0 : Nat)]
  [some (Blk.var [AV.sl (2 : Nat) m0 none o0, AV.sl (2 : Nat) m1 none o1, AV.sl (2 : Nat) m2 none o2])] R) := kshow h (by kernel_rfl)

theorem greatseallaw_StoryFollows_c1_w2s1_run (v0 : Bool) (d0 : List (List AV)) (v1 : Bool) (d1 : List (List AV)) (v2 : Bool) (d : List (List AV)) (n0 : Bool) (b0 : List (List AV)) (n1 : Bool) (b1 : List (List AV)) (n2 : Bool) (c : List (List AV)) (xo : Int) (ek : Int) (ev : List UInt8) (m0 : Bool) (o0 : List (List AV)) (m1 : Bool) (o1 : List (List AV)) (m2 : Bool) (o2 : List (List AV)) (G0 : Nat → Option Go.Obj) (R : AV → List (Option Blk) → Prop) (h :
  (0 : Int) ≤ (2 : Int) ∧
  ∃ n0 s1 s2 b3,
    c[(2 : Nat)]? = some [AV.int Go.IntKind.i64 n0, AV.str s1, AV.str s2, AV.bool b3] ∧
      (0 : Int) ≤ (1 : Int) ∧
        (1 : Int) < (2 : Int) ∧
          ifK (n0 != (↑(List.length b1) : Int)) (R (AV.bool true) [some (Blk.var [AV.sl (2 : Nat) m0 none o0, AV.sl (2 : Nat) m1 none o1, AV.sl (2 : Nat) m2 none o2])])
            ((0 : Int) ≤ (1 : Int) ∧
              (1 : Int) < (2 : Int) ∧
                ∃ n4 s5 s6 n7,
                  Good PG nG G0 f_book_Head [AV.agg [AV.sl (2 : Nat) n1 none b1]] [] (AV.tup [AV.agg [AV.int Go.IntKind.i64 n4, AV.str s5, AV.str s6], AV.int Go.IntKind.i64 n7]) [] ∧
                    ifK (n7 != (0 : Int)) (R (AV.bool false) [some (Blk.var [AV.sl (2 : Nat) m0 none o0, AV.sl (2 : Nat) m1 none o1, AV.sl (2 : Nat) m2 none o2])])
                      ((0 : Int) ≤ (2 : Int) ∧
                        ∃ n8 s9 s10 b11,
                          c[(2 : Nat)]? = some [AV.int Go.IntKind.i64 n8, AV.str s9, AV.str s10, AV.bool b11] ∧
                            ifK (!eqAll [AV.int Go.IntKind.i64 n4, AV.str s5, AV.str s6] [AV.int Go.IntKind.i64 n8, AV.str s9, AV.str s10])
                              (R (AV.bool true) [some (Blk.var [AV.sl (2 : Nat) m0 none o0, AV.sl (2 : Nat) m1 none o1, AV.sl (2 : Nat) m2 none o2])])
                              ((0 : Int) ≤ (2 : Int) ∧
                                (2 : Int) < (3 : Int) ∧
                                  (0 : Int) ≤ (1 : Int) ∧
                                    (1 : Int) < (2 : Int) ∧
                                      ∃ b12 xs13,
                                        Good PG nG G0 f_slices_Clone_Entry [AV.sl (2 : Nat) n1 none b1] [] (AV.sl (2 : Nat) b12 none xs13) [] ∧
                                          (0 : Int) ≤ (2 : Int) ∧
                                            (2 : Int) < (3 : Int) ∧
                                              (0 : Int) ≤ (2 : Int) ∧
                                                (2 : Int) < (3 : Int) ∧
                                                  ifK (decide ((↑(List.length o2) : Int) ≤ (↑(List.length xs13) : Int)))
                                                    ((0 : Int) ≤ (2 : Int) ∧
                                                      (2 : Int) < (3 : Int) ∧
                                                        (0 : Int) ≤ (0 : Int) ∧
                                                          (0 : Int) ≤ (↑(List.length o2) : Int) ∧
                                                            (↑(List.length o2) : Int) ≤ (↑(List.length xs13) : Int) ∧
                                                              ∃ b14,
                                                                Good PG nG G0 f_slices_Equal_Entry [AV.sl (2 : Nat) m2 none o2, AV.sl (2 : Nat) b12 none (List.drop (0 : Nat) (List.take (Int.toNat (↑(List.length o2) : Int)) xs13))] []
                                                                    (AV.bool b14) [] ∧
                                                                  R (AV.bool b14) [some (Blk.var [AV.sl (2 : Nat) m0 none o0, AV.sl (2 : Nat) m1 none o1, AV.sl (2 : Nat) b12 none xs13])])
                                                    (R (AV.bool false) [some (Blk.var [AV.sl (2 : Nat) m0 none o0, AV.sl (2 : Nat) m1 none o1, AV.sl (2 : Nat) b12 none xs13])]))))) :
  Hold (runF PG ty nG G0 an_greatseallaw_StoryFollows_c1_w2s1 f_greatseallaw_StoryFollows_c1
  [AV.agg [AV.sl (2 : Nat) v0 none d0, AV.sl (2 : Nat) v1 none d1, AV.sl (4 : Nat) v2 none d], AV.agg [AV.sl (2 : Nat) n0 none b0, AV.sl (2 : Nat) n1 none b1, AV.sl (4 : Nat) n2 none c],
    AV.agg [AV.int Go.IntKind.i64 (3 : Int), AV.int Go.IntKind.i64 (1 : Int), AV.int Go.IntKind.i64 (2 : Int), AV.int Go.IntKind.i64 xo, AV.int Go.IntKind.i64 ek, AV.str ev], AV.ref (0 : Nat) (0 : Nat)]
  [some (Blk.var [AV.sl (2 : Nat) m0 none o0, AV.sl (2 : Nat) m1 none o1, AV.sl (2 : Nat) m2 none o2])] R) := kshow h (by kernel_rfl)

theorem greatseallaw_played_Caught_run (nl : Bool) (l : List (List AV)) (G0 : Nat → Option Go.Obj) (R : AV → List (Option Blk) → Prop) (h :
  ∃ b0 xs1 b2 xs3 b4 xs5,
  Good PG nG G0 f_world_New [] [] (AV.agg [AV.sl (2 : Nat) b0 none xs1, AV.sl (2 : Nat) b2 none xs3, AV.sl (4 : Nat) b4 none xs5]) [] ∧
    (0 : Int) ≤ (0 : Int) ∧
      ((0 : Int) ≤ if (60 : Int) < (↑(List.length l) : Int) then (60 : Int) else (↑(List.length l) : Int)) ∧
        (if (60 : Int) < (↑(List.length l) : Int) then (60 : Int) else (↑(List.length l) : Int)) ≤ (↑(List.length l) : Int) ∧
          Does PG nG G0 (fnOf PG f_greatseallaw_played) (0 : Nat) (lp PG f_greatseallaw_played (0 : Nat))
            (mkT (42 : Nat)
              [((1 : Nat), AV.func f_greatseallaw_StoryCaught_c1 []), ((4 : Nat), AV.ref (0 : Nat) (0 : Nat)), ((6 : Nat), AV.ref (1 : Nat) (0 : Nat)),
                ((17 : Nat), AV.sl (6 : Nat) nl none (List.drop (0 : Nat) (List.take (Int.toNat (if (60 : Int) < (↑(List.length l) : Int) then (60 : Int) else (↑(List.length l) : Int))) l))),
                ((18 : Nat), AV.int Go.IntKind.i64 (↑(List.length (List.drop (0 : Nat) (List.take (Int.toNat (if (60 : Int) < (↑(List.length l) : Int) then (60 : Int) else (↑(List.length l) : Int))) l))) : Int)),
                ((19 : Nat), AV.int Go.IntKind.i64 (0 : Int))])
            [some (Blk.var [AV.sl (2 : Nat) true none [], AV.sl (2 : Nat) true none [], AV.sl (4 : Nat) true none []]), some (Blk.var [AV.sl (2 : Nat) b0 none xs1, AV.sl (2 : Nat) b2 none xs3, AV.sl (4 : Nat) b4 none xs5])] R) :
  Hold (runF PG ty nG G0 an_greatseallaw_played_Caught f_greatseallaw_played [AV.sl (6 : Nat) nl none l, AV.func f_greatseallaw_StoryCaught_c1 []] [] R) := kshow h (by kernel_rfl)

theorem greatseallaw_played_Caught_l0_run (G0 : Nat → Option Obj) (b6 : Bool) (xs7 : List (List AV)) (n8 : Int) (n9 : Int) (b10 : Bool) (xs11 : List (List AV)) (b12 : Bool) (xs13 : List (List AV)) (b14 : Bool) (xs15 : List (List AV)) (b16 : Bool) (xs17 : List (List AV)) (b18 : Bool) (xs19 : List (List AV)) (b20 : Bool) (xs21 : List (List AV)) (R : AV → List (Option Blk) → Prop) (h :
  ifK (decide (n9 < n8))
  ((0 : Int) ≤ n9 ∧
    ∃ n22 n23 n24 n25 n26 s27,
      xs7[Int.toNat n9]? = some [AV.int Go.IntKind.i64 n22, AV.int Go.IntKind.i64 n23, AV.int Go.IntKind.i64 n24, AV.int Go.IntKind.i64 n25, AV.int Go.IntKind.i64 n26, AV.str s27] ∧
        ∃ b28 xs29 b30 xs31 b32 xs33 n34,
          Good PG nG G0 f_world_Do
              [AV.agg [AV.sl (2 : Nat) b16 none xs17, AV.sl (2 : Nat) b18 none xs19, AV.sl (4 : Nat) b20 none xs21],
                AV.agg [AV.int Go.IntKind.i64 n22, AV.int Go.IntKind.i64 n23, AV.int Go.IntKind.i64 n24, AV.int Go.IntKind.i64 n25, AV.int Go.IntKind.i64 n26, AV.str s27]]
              [] (AV.tup [AV.agg [AV.sl (2 : Nat) b28 none xs29, AV.sl (2 : Nat) b30 none xs31, AV.sl (4 : Nat) b32 none xs33], AV.int Go.IntKind.i64 n34]) [] ∧
            ifK (n34 == (0 : Int))
              (∃ b35,
                Good PG nG G0 f_greatseallaw_StoryCaught_c1
                    [AV.agg [AV.sl (2 : Nat) b16 none xs17, AV.sl (2 : Nat) b18 none xs19, AV.sl (4 : Nat) b20 none xs21], AV.agg [AV.sl (2 : Nat) b28 none xs29, AV.sl (2 : Nat) b30 none xs31, AV.sl (4 : Nat) b32 none xs33],
                      AV.agg [AV.int Go.IntKind.i64 n22, AV.int Go.IntKind.i64 n23, AV.int Go.IntKind.i64 n24, AV.int Go.IntKind.i64 n25, AV.int Go.IntKind.i64 n26, AV.str s27]]
                    [] (AV.bool b35) [] ∧
                  ifK (!b35) (R (AV.tup [AV.agg [AV.sl (2 : Nat) b28 none xs29, AV.sl (2 : Nat) b30 none xs31, AV.sl (4 : Nat) b32 none xs33], AV.bool false]) [])
                    (Does PG nG G0 (fnOf PG f_greatseallaw_played) (0 : Nat) (lp PG f_greatseallaw_played (0 : Nat))
                      (mkT (42 : Nat)
                        [((1 : Nat), AV.func f_greatseallaw_StoryCaught_c1 []), ((4 : Nat), AV.ref (0 : Nat) (0 : Nat)), ((6 : Nat), AV.ref (1 : Nat) (0 : Nat)), ((17 : Nat), AV.sl (6 : Nat) b6 none xs7), ((18 : Nat), AV.int Go.IntKind.i64 n8),
                          ((19 : Nat), AV.int Go.IntKind.i64 (Go.IntKind.wrap Go.IntKind.i64 (n9 + (1 : Int))))])
                      [some (Blk.var [AV.sl (2 : Nat) b10 none xs11, AV.sl (2 : Nat) b12 none xs13, AV.sl (4 : Nat) b14 none xs15]),
                        some (Blk.var [AV.sl (2 : Nat) b28 none xs29, AV.sl (2 : Nat) b30 none xs31, AV.sl (4 : Nat) b32 none xs33])]
                      R))
              (Does PG nG G0 (fnOf PG f_greatseallaw_played) (0 : Nat) (lp PG f_greatseallaw_played (0 : Nat))
                (mkT (42 : Nat)
                  [((1 : Nat), AV.func f_greatseallaw_StoryCaught_c1 []), ((4 : Nat), AV.ref (0 : Nat) (0 : Nat)), ((6 : Nat), AV.ref (1 : Nat) (0 : Nat)), ((17 : Nat), AV.sl (6 : Nat) b6 none xs7), ((18 : Nat), AV.int Go.IntKind.i64 n8),
                    ((19 : Nat), AV.int Go.IntKind.i64 (Go.IntKind.wrap Go.IntKind.i64 (n9 + (1 : Int))))])
                [some (Blk.var [AV.sl (2 : Nat) b10 none xs11, AV.sl (2 : Nat) b12 none xs13, AV.sl (4 : Nat) b14 none xs15]), some (Blk.var [AV.sl (2 : Nat) b16 none xs17, AV.sl (2 : Nat) b18 none xs19, AV.sl (4 : Nat) b20 none xs21])] R))
  (R (AV.tup [AV.agg [AV.sl (2 : Nat) b16 none xs17, AV.sl (2 : Nat) b18 none xs19, AV.sl (4 : Nat) b20 none xs21], AV.bool true]) [])) :
  Hold (runL PG ty nG G0 an_greatseallaw_played_Caught f_greatseallaw_played (0 : Nat) (0 : Nat)
  (mkT (42 : Nat)
    [((1 : Nat), AV.func f_greatseallaw_StoryCaught_c1 []), ((4 : Nat), AV.ref (0 : Nat) (0 : Nat)), ((6 : Nat), AV.ref (1 : Nat) (0 : Nat)), ((17 : Nat), AV.sl (6 : Nat) b6 none xs7), ((18 : Nat), AV.int Go.IntKind.i64 n8),
      ((19 : Nat), AV.int Go.IntKind.i64 n9)])
  [some (Blk.var [AV.sl (2 : Nat) b10 none xs11, AV.sl (2 : Nat) b12 none xs13, AV.sl (4 : Nat) b14 none xs15]), some (Blk.var [AV.sl (2 : Nat) b16 none xs17, AV.sl (2 : Nat) b18 none xs19, AV.sl (4 : Nat) b20 none xs21])] R) := kshow h (by kernel_rfl)

theorem greatseallaw_played_Fork_run (nl : Bool) (l : List (List AV)) (G0 : Nat → Option Go.Obj) (R : AV → List (Option Blk) → Prop) (h :
  ∃ b0 xs1 b2 xs3 b4 xs5,
  Good PG nG G0 f_world_New [] [] (AV.agg [AV.sl (2 : Nat) b0 none xs1, AV.sl (2 : Nat) b2 none xs3, AV.sl (4 : Nat) b4 none xs5]) [] ∧
    (0 : Int) ≤ (0 : Int) ∧
      ((0 : Int) ≤ if (60 : Int) < (↑(List.length l) : Int) then (60 : Int) else (↑(List.length l) : Int)) ∧
        (if (60 : Int) < (↑(List.length l) : Int) then (60 : Int) else (↑(List.length l) : Int)) ≤ (↑(List.length l) : Int) ∧
          Does PG nG G0 (fnOf PG f_greatseallaw_played) (0 : Nat) (lp PG f_greatseallaw_played (0 : Nat))
            (mkT (42 : Nat)
              [((1 : Nat), AV.func f_greatseallaw_StoryFork_c1 []), ((4 : Nat), AV.ref (0 : Nat) (0 : Nat)), ((6 : Nat), AV.ref (1 : Nat) (0 : Nat)),
                ((17 : Nat), AV.sl (6 : Nat) nl none (List.drop (0 : Nat) (List.take (Int.toNat (if (60 : Int) < (↑(List.length l) : Int) then (60 : Int) else (↑(List.length l) : Int))) l))),
                ((18 : Nat), AV.int Go.IntKind.i64 (↑(List.length (List.drop (0 : Nat) (List.take (Int.toNat (if (60 : Int) < (↑(List.length l) : Int) then (60 : Int) else (↑(List.length l) : Int))) l))) : Int)),
                ((19 : Nat), AV.int Go.IntKind.i64 (0 : Int))])
            [some (Blk.var [AV.sl (2 : Nat) true none [], AV.sl (2 : Nat) true none [], AV.sl (4 : Nat) true none []]), some (Blk.var [AV.sl (2 : Nat) b0 none xs1, AV.sl (2 : Nat) b2 none xs3, AV.sl (4 : Nat) b4 none xs5])] R) :
  Hold (runF PG ty nG G0 an_greatseallaw_played_Fork f_greatseallaw_played [AV.sl (6 : Nat) nl none l, AV.func f_greatseallaw_StoryFork_c1 []] [] R) := kshow h (by kernel_rfl)

theorem greatseallaw_played_Fork_l0_run (G0 : Nat → Option Obj) (b6 : Bool) (xs7 : List (List AV)) (n8 : Int) (n9 : Int) (b10 : Bool) (xs11 : List (List AV)) (b12 : Bool) (xs13 : List (List AV)) (b14 : Bool) (xs15 : List (List AV)) (b16 : Bool) (xs17 : List (List AV)) (b18 : Bool) (xs19 : List (List AV)) (b20 : Bool) (xs21 : List (List AV)) (R : AV → List (Option Blk) → Prop) (h :
  ifK (decide (n9 < n8))
  ((0 : Int) ≤ n9 ∧
    ∃ n22 n23 n24 n25 n26 s27,
      xs7[Int.toNat n9]? = some [AV.int Go.IntKind.i64 n22, AV.int Go.IntKind.i64 n23, AV.int Go.IntKind.i64 n24, AV.int Go.IntKind.i64 n25, AV.int Go.IntKind.i64 n26, AV.str s27] ∧
        ∃ b28 xs29 b30 xs31 b32 xs33 n34,
          Good PG nG G0 f_world_Do
              [AV.agg [AV.sl (2 : Nat) b16 none xs17, AV.sl (2 : Nat) b18 none xs19, AV.sl (4 : Nat) b20 none xs21],
                AV.agg [AV.int Go.IntKind.i64 n22, AV.int Go.IntKind.i64 n23, AV.int Go.IntKind.i64 n24, AV.int Go.IntKind.i64 n25, AV.int Go.IntKind.i64 n26, AV.str s27]]
              [] (AV.tup [AV.agg [AV.sl (2 : Nat) b28 none xs29, AV.sl (2 : Nat) b30 none xs31, AV.sl (4 : Nat) b32 none xs33], AV.int Go.IntKind.i64 n34]) [] ∧
            ifK (n34 == (0 : Int))
              (∃ b35,
                Good PG nG G0 f_greatseallaw_StoryFork_c1
                    [AV.agg [AV.sl (2 : Nat) b16 none xs17, AV.sl (2 : Nat) b18 none xs19, AV.sl (4 : Nat) b20 none xs21], AV.agg [AV.sl (2 : Nat) b28 none xs29, AV.sl (2 : Nat) b30 none xs31, AV.sl (4 : Nat) b32 none xs33],
                      AV.agg [AV.int Go.IntKind.i64 n22, AV.int Go.IntKind.i64 n23, AV.int Go.IntKind.i64 n24, AV.int Go.IntKind.i64 n25, AV.int Go.IntKind.i64 n26, AV.str s27]]
                    [] (AV.bool b35) [] ∧
                  ifK (!b35) (R (AV.tup [AV.agg [AV.sl (2 : Nat) b28 none xs29, AV.sl (2 : Nat) b30 none xs31, AV.sl (4 : Nat) b32 none xs33], AV.bool false]) [])
                    (Does PG nG G0 (fnOf PG f_greatseallaw_played) (0 : Nat) (lp PG f_greatseallaw_played (0 : Nat))
                      (mkT (42 : Nat)
                        [((1 : Nat), AV.func f_greatseallaw_StoryFork_c1 []), ((4 : Nat), AV.ref (0 : Nat) (0 : Nat)), ((6 : Nat), AV.ref (1 : Nat) (0 : Nat)), ((17 : Nat), AV.sl (6 : Nat) b6 none xs7), ((18 : Nat), AV.int Go.IntKind.i64 n8),
                          ((19 : Nat), AV.int Go.IntKind.i64 (Go.IntKind.wrap Go.IntKind.i64 (n9 + (1 : Int))))])
                      [some (Blk.var [AV.sl (2 : Nat) b10 none xs11, AV.sl (2 : Nat) b12 none xs13, AV.sl (4 : Nat) b14 none xs15]),
                        some (Blk.var [AV.sl (2 : Nat) b28 none xs29, AV.sl (2 : Nat) b30 none xs31, AV.sl (4 : Nat) b32 none xs33])]
                      R))
              (Does PG nG G0 (fnOf PG f_greatseallaw_played) (0 : Nat) (lp PG f_greatseallaw_played (0 : Nat))
                (mkT (42 : Nat)
                  [((1 : Nat), AV.func f_greatseallaw_StoryFork_c1 []), ((4 : Nat), AV.ref (0 : Nat) (0 : Nat)), ((6 : Nat), AV.ref (1 : Nat) (0 : Nat)), ((17 : Nat), AV.sl (6 : Nat) b6 none xs7), ((18 : Nat), AV.int Go.IntKind.i64 n8),
                    ((19 : Nat), AV.int Go.IntKind.i64 (Go.IntKind.wrap Go.IntKind.i64 (n9 + (1 : Int))))])
                [some (Blk.var [AV.sl (2 : Nat) b10 none xs11, AV.sl (2 : Nat) b12 none xs13, AV.sl (4 : Nat) b14 none xs15]), some (Blk.var [AV.sl (2 : Nat) b16 none xs17, AV.sl (2 : Nat) b18 none xs19, AV.sl (4 : Nat) b20 none xs21])] R))
  (R (AV.tup [AV.agg [AV.sl (2 : Nat) b16 none xs17, AV.sl (2 : Nat) b18 none xs19, AV.sl (4 : Nat) b20 none xs21], AV.bool true]) [])) :
  Hold (runL PG ty nG G0 an_greatseallaw_played_Fork f_greatseallaw_played (0 : Nat) (0 : Nat)
  (mkT (42 : Nat)
    [((1 : Nat), AV.func f_greatseallaw_StoryFork_c1 []), ((4 : Nat), AV.ref (0 : Nat) (0 : Nat)), ((6 : Nat), AV.ref (1 : Nat) (0 : Nat)), ((17 : Nat), AV.sl (6 : Nat) b6 none xs7), ((18 : Nat), AV.int Go.IntKind.i64 n8),
      ((19 : Nat), AV.int Go.IntKind.i64 n9)])
  [some (Blk.var [AV.sl (2 : Nat) b10 none xs11, AV.sl (2 : Nat) b12 none xs13, AV.sl (4 : Nat) b14 none xs15]), some (Blk.var [AV.sl (2 : Nat) b16 none xs17, AV.sl (2 : Nat) b18 none xs19, AV.sl (4 : Nat) b20 none xs21])] R) := kshow h (by kernel_rfl)

theorem greatseallaw_played_Honest_run (nl : Bool) (l : List (List AV)) (G0 : Nat → Option Go.Obj) (R : AV → List (Option Blk) → Prop) (h :
  ∃ b0 xs1 b2 xs3 b4 xs5,
  Good PG nG G0 f_world_New [] [] (AV.agg [AV.sl (2 : Nat) b0 none xs1, AV.sl (2 : Nat) b2 none xs3, AV.sl (4 : Nat) b4 none xs5]) [] ∧
    (0 : Int) ≤ (0 : Int) ∧
      ((0 : Int) ≤ if (60 : Int) < (↑(List.length l) : Int) then (60 : Int) else (↑(List.length l) : Int)) ∧
        (if (60 : Int) < (↑(List.length l) : Int) then (60 : Int) else (↑(List.length l) : Int)) ≤ (↑(List.length l) : Int) ∧
          Does PG nG G0 (fnOf PG f_greatseallaw_played) (0 : Nat) (lp PG f_greatseallaw_played (0 : Nat))
            (mkT (42 : Nat)
              [((1 : Nat), AV.func f_greatseallaw_StoryHonest_c1 []), ((4 : Nat), AV.ref (0 : Nat) (0 : Nat)), ((6 : Nat), AV.ref (1 : Nat) (0 : Nat)),
                ((17 : Nat), AV.sl (6 : Nat) nl none (List.drop (0 : Nat) (List.take (Int.toNat (if (60 : Int) < (↑(List.length l) : Int) then (60 : Int) else (↑(List.length l) : Int))) l))),
                ((18 : Nat), AV.int Go.IntKind.i64 (↑(List.length (List.drop (0 : Nat) (List.take (Int.toNat (if (60 : Int) < (↑(List.length l) : Int) then (60 : Int) else (↑(List.length l) : Int))) l))) : Int)),
                ((19 : Nat), AV.int Go.IntKind.i64 (0 : Int))])
            [some (Blk.var [AV.sl (2 : Nat) true none [], AV.sl (2 : Nat) true none [], AV.sl (4 : Nat) true none []]), some (Blk.var [AV.sl (2 : Nat) b0 none xs1, AV.sl (2 : Nat) b2 none xs3, AV.sl (4 : Nat) b4 none xs5])] R) :
  Hold (runF PG ty nG G0 an_greatseallaw_played_Honest f_greatseallaw_played [AV.sl (6 : Nat) nl none l, AV.func f_greatseallaw_StoryHonest_c1 []] [] R) := kshow h (by kernel_rfl)

theorem greatseallaw_played_Honest_l0_run (G0 : Nat → Option Obj) (b6 : Bool) (xs7 : List (List AV)) (n8 : Int) (n9 : Int) (b10 : Bool) (xs11 : List (List AV)) (b12 : Bool) (xs13 : List (List AV)) (b14 : Bool) (xs15 : List (List AV)) (b16 : Bool) (xs17 : List (List AV)) (b18 : Bool) (xs19 : List (List AV)) (b20 : Bool) (xs21 : List (List AV)) (R : AV → List (Option Blk) → Prop) (h :
  ifK (decide (n9 < n8))
  ((0 : Int) ≤ n9 ∧
    ∃ n22 n23 n24 n25 n26 s27,
      xs7[Int.toNat n9]? = some [AV.int Go.IntKind.i64 n22, AV.int Go.IntKind.i64 n23, AV.int Go.IntKind.i64 n24, AV.int Go.IntKind.i64 n25, AV.int Go.IntKind.i64 n26, AV.str s27] ∧
        ∃ b28 xs29 b30 xs31 b32 xs33 n34,
          Good PG nG G0 f_world_Do
              [AV.agg [AV.sl (2 : Nat) b16 none xs17, AV.sl (2 : Nat) b18 none xs19, AV.sl (4 : Nat) b20 none xs21],
                AV.agg [AV.int Go.IntKind.i64 n22, AV.int Go.IntKind.i64 n23, AV.int Go.IntKind.i64 n24, AV.int Go.IntKind.i64 n25, AV.int Go.IntKind.i64 n26, AV.str s27]]
              [] (AV.tup [AV.agg [AV.sl (2 : Nat) b28 none xs29, AV.sl (2 : Nat) b30 none xs31, AV.sl (4 : Nat) b32 none xs33], AV.int Go.IntKind.i64 n34]) [] ∧
            ifK (n34 == (0 : Int))
              (∃ b35,
                Good PG nG G0 f_greatseallaw_StoryHonest_c1
                    [AV.agg [AV.sl (2 : Nat) b16 none xs17, AV.sl (2 : Nat) b18 none xs19, AV.sl (4 : Nat) b20 none xs21], AV.agg [AV.sl (2 : Nat) b28 none xs29, AV.sl (2 : Nat) b30 none xs31, AV.sl (4 : Nat) b32 none xs33],
                      AV.agg [AV.int Go.IntKind.i64 n22, AV.int Go.IntKind.i64 n23, AV.int Go.IntKind.i64 n24, AV.int Go.IntKind.i64 n25, AV.int Go.IntKind.i64 n26, AV.str s27]]
                    [] (AV.bool b35) [] ∧
                  ifK (!b35) (R (AV.tup [AV.agg [AV.sl (2 : Nat) b28 none xs29, AV.sl (2 : Nat) b30 none xs31, AV.sl (4 : Nat) b32 none xs33], AV.bool false]) [])
                    (Does PG nG G0 (fnOf PG f_greatseallaw_played) (0 : Nat) (lp PG f_greatseallaw_played (0 : Nat))
                      (mkT (42 : Nat)
                        [((1 : Nat), AV.func f_greatseallaw_StoryHonest_c1 []), ((4 : Nat), AV.ref (0 : Nat) (0 : Nat)), ((6 : Nat), AV.ref (1 : Nat) (0 : Nat)), ((17 : Nat), AV.sl (6 : Nat) b6 none xs7), ((18 : Nat), AV.int Go.IntKind.i64 n8),
                          ((19 : Nat), AV.int Go.IntKind.i64 (Go.IntKind.wrap Go.IntKind.i64 (n9 + (1 : Int))))])
                      [some (Blk.var [AV.sl (2 : Nat) b10 none xs11, AV.sl (2 : Nat) b12 none xs13, AV.sl (4 : Nat) b14 none xs15]),
                        some (Blk.var [AV.sl (2 : Nat) b28 none xs29, AV.sl (2 : Nat) b30 none xs31, AV.sl (4 : Nat) b32 none xs33])]
                      R))
              (Does PG nG G0 (fnOf PG f_greatseallaw_played) (0 : Nat) (lp PG f_greatseallaw_played (0 : Nat))
                (mkT (42 : Nat)
                  [((1 : Nat), AV.func f_greatseallaw_StoryHonest_c1 []), ((4 : Nat), AV.ref (0 : Nat) (0 : Nat)), ((6 : Nat), AV.ref (1 : Nat) (0 : Nat)), ((17 : Nat), AV.sl (6 : Nat) b6 none xs7), ((18 : Nat), AV.int Go.IntKind.i64 n8),
                    ((19 : Nat), AV.int Go.IntKind.i64 (Go.IntKind.wrap Go.IntKind.i64 (n9 + (1 : Int))))])
                [some (Blk.var [AV.sl (2 : Nat) b10 none xs11, AV.sl (2 : Nat) b12 none xs13, AV.sl (4 : Nat) b14 none xs15]), some (Blk.var [AV.sl (2 : Nat) b16 none xs17, AV.sl (2 : Nat) b18 none xs19, AV.sl (4 : Nat) b20 none xs21])] R))
  (R (AV.tup [AV.agg [AV.sl (2 : Nat) b16 none xs17, AV.sl (2 : Nat) b18 none xs19, AV.sl (4 : Nat) b20 none xs21], AV.bool true]) [])) :
  Hold (runL PG ty nG G0 an_greatseallaw_played_Honest f_greatseallaw_played (0 : Nat) (0 : Nat)
  (mkT (42 : Nat)
    [((1 : Nat), AV.func f_greatseallaw_StoryHonest_c1 []), ((4 : Nat), AV.ref (0 : Nat) (0 : Nat)), ((6 : Nat), AV.ref (1 : Nat) (0 : Nat)), ((17 : Nat), AV.sl (6 : Nat) b6 none xs7), ((18 : Nat), AV.int Go.IntKind.i64 n8),
      ((19 : Nat), AV.int Go.IntKind.i64 n9)])
  [some (Blk.var [AV.sl (2 : Nat) b10 none xs11, AV.sl (2 : Nat) b12 none xs13, AV.sl (4 : Nat) b14 none xs15]), some (Blk.var [AV.sl (2 : Nat) b16 none xs17, AV.sl (2 : Nat) b18 none xs19, AV.sl (4 : Nat) b20 none xs21])] R) := kshow h (by kernel_rfl)

theorem greatseallaw_played_Follows_run (nl : Bool) (l : List (List AV)) (m0 : Bool) (o0 : List (List AV)) (m1 : Bool) (o1 : List (List AV)) (m2 : Bool) (o2 : List (List AV)) (G0 : Nat → Option Go.Obj) (R : AV → List (Option Blk) → Prop) (h :
  ∃ b0 xs1 b2 xs3 b4 xs5,
  Good PG nG G0 f_world_New [] [] (AV.agg [AV.sl (2 : Nat) b0 none xs1, AV.sl (2 : Nat) b2 none xs3, AV.sl (4 : Nat) b4 none xs5]) [] ∧
    (0 : Int) ≤ (0 : Int) ∧
      ((0 : Int) ≤ if (60 : Int) < (↑(List.length l) : Int) then (60 : Int) else (↑(List.length l) : Int)) ∧
        (if (60 : Int) < (↑(List.length l) : Int) then (60 : Int) else (↑(List.length l) : Int)) ≤ (↑(List.length l) : Int) ∧
          Does PG nG G0 (fnOf PG f_greatseallaw_played) (1 : Nat) (lp PG f_greatseallaw_played (0 : Nat))
            (mkT (42 : Nat)
              [((1 : Nat), AV.func f_greatseallaw_StoryFollows_c1 [AV.ref (0 : Nat) (0 : Nat)]), ((4 : Nat), AV.ref (1 : Nat) (0 : Nat)), ((6 : Nat), AV.ref (2 : Nat) (0 : Nat)),
                ((17 : Nat), AV.sl (6 : Nat) nl none (List.drop (0 : Nat) (List.take (Int.toNat (if (60 : Int) < (↑(List.length l) : Int) then (60 : Int) else (↑(List.length l) : Int))) l))),
                ((18 : Nat), AV.int Go.IntKind.i64 (↑(List.length (List.drop (0 : Nat) (List.take (Int.toNat (if (60 : Int) < (↑(List.length l) : Int) then (60 : Int) else (↑(List.length l) : Int))) l))) : Int)),
                ((19 : Nat), AV.int Go.IntKind.i64 (0 : Int))])
            [some (Blk.var [AV.sl (2 : Nat) m0 none o0, AV.sl (2 : Nat) m1 none o1, AV.sl (2 : Nat) m2 none o2]), some (Blk.var [AV.sl (2 : Nat) true none [], AV.sl (2 : Nat) true none [], AV.sl (4 : Nat) true none []]),
              some (Blk.var [AV.sl (2 : Nat) b0 none xs1, AV.sl (2 : Nat) b2 none xs3, AV.sl (4 : Nat) b4 none xs5])]
            R) :
  Hold (runF PG ty nG G0 an_greatseallaw_played_Follows f_greatseallaw_played [AV.sl (6 : Nat) nl none l, AV.func f_greatseallaw_StoryFollows_c1 [AV.ref (0 : Nat) (0 : Nat)]]
  [some (Blk.var [AV.sl (2 : Nat) m0 none o0, AV.sl (2 : Nat) m1 none o1, AV.sl (2 : Nat) m2 none o2])] R) := kshow h (by kernel_rfl)

theorem greatseallaw_played_Follows_l0_run (G0 : Nat → Option Obj) (b6 : Bool) (xs7 : List (List AV)) (n8 : Int) (n9 : Int) (b10 : Bool) (xs11 : List (List AV)) (b12 : Bool) (xs13 : List (List AV)) (b14 : Bool) (xs15 : List (List AV)) (b16 : Bool) (xs17 : List (List AV)) (b18 : Bool) (xs19 : List (List AV)) (b20 : Bool) (xs21 : List (List AV)) (b22 : Bool) (xs23 : List (List AV)) (b24 : Bool) (xs25 : List (List AV)) (b26 : Bool) (xs27 : List (List AV)) (R : AV → List (Option Blk) → Prop) (h :
  ifK (decide (n9 < n8))
  ((0 : Int) ≤ n9 ∧
    ∃ n28 n29 n30 n31 n32 s33,
      xs7[Int.toNat n9]? = some [AV.int Go.IntKind.i64 n28, AV.int Go.IntKind.i64 n29, AV.int Go.IntKind.i64 n30, AV.int Go.IntKind.i64 n31, AV.int Go.IntKind.i64 n32, AV.str s33] ∧
        ∃ b34 xs35 b36 xs37 b38 xs39 n40,
          Good PG nG G0 f_world_Do
              [AV.agg [AV.sl (2 : Nat) b22 none xs23, AV.sl (2 : Nat) b24 none xs25, AV.sl (4 : Nat) b26 none xs27],
                AV.agg [AV.int Go.IntKind.i64 n28, AV.int Go.IntKind.i64 n29, AV.int Go.IntKind.i64 n30, AV.int Go.IntKind.i64 n31, AV.int Go.IntKind.i64 n32, AV.str s33]]
              [] (AV.tup [AV.agg [AV.sl (2 : Nat) b34 none xs35, AV.sl (2 : Nat) b36 none xs37, AV.sl (4 : Nat) b38 none xs39], AV.int Go.IntKind.i64 n40]) [] ∧
            ifK (n40 == (0 : Int))
              (∃ b41 b42 xs43 b44 xs45 b46 xs47,
                Good PG nG G0 f_greatseallaw_StoryFollows_c1
                    [AV.agg [AV.sl (2 : Nat) b22 none xs23, AV.sl (2 : Nat) b24 none xs25, AV.sl (4 : Nat) b26 none xs27], AV.agg [AV.sl (2 : Nat) b34 none xs35, AV.sl (2 : Nat) b36 none xs37, AV.sl (4 : Nat) b38 none xs39],
                      AV.agg [AV.int Go.IntKind.i64 n28, AV.int Go.IntKind.i64 n29, AV.int Go.IntKind.i64 n30, AV.int Go.IntKind.i64 n31, AV.int Go.IntKind.i64 n32, AV.str s33], AV.ref (0 : Nat) (0 : Nat)]
                    [some (Blk.var [AV.sl (2 : Nat) b10 none xs11, AV.sl (2 : Nat) b12 none xs13, AV.sl (2 : Nat) b14 none xs15])] (AV.bool b41)
                    [some (Blk.var [AV.sl (2 : Nat) b42 none xs43, AV.sl (2 : Nat) b44 none xs45, AV.sl (2 : Nat) b46 none xs47])] ∧
                  ifK (!b41)
                    (R (AV.tup [AV.agg [AV.sl (2 : Nat) b34 none xs35, AV.sl (2 : Nat) b36 none xs37, AV.sl (4 : Nat) b38 none xs39], AV.bool false])
                      [some (Blk.var [AV.sl (2 : Nat) b42 none xs43, AV.sl (2 : Nat) b44 none xs45, AV.sl (2 : Nat) b46 none xs47])])
                    (Does PG nG G0 (fnOf PG f_greatseallaw_played) (1 : Nat) (lp PG f_greatseallaw_played (0 : Nat))
                      (mkT (42 : Nat)
                        [((1 : Nat), AV.func f_greatseallaw_StoryFollows_c1 [AV.ref (0 : Nat) (0 : Nat)]), ((4 : Nat), AV.ref (1 : Nat) (0 : Nat)), ((6 : Nat), AV.ref (2 : Nat) (0 : Nat)), ((17 : Nat), AV.sl (6 : Nat) b6 none xs7),
                          ((18 : Nat), AV.int Go.IntKind.i64 n8), ((19 : Nat), AV.int Go.IntKind.i64 (Go.IntKind.wrap Go.IntKind.i64 (n9 + (1 : Int))))])
                      [some (Blk.var [AV.sl (2 : Nat) b42 none xs43, AV.sl (2 : Nat) b44 none xs45, AV.sl (2 : Nat) b46 none xs47]),
                        some (Blk.var [AV.sl (2 : Nat) b16 none xs17, AV.sl (2 : Nat) b18 none xs19, AV.sl (4 : Nat) b20 none xs21]),
                        some (Blk.var [AV.sl (2 : Nat) b34 none xs35, AV.sl (2 : Nat) b36 none xs37, AV.sl (4 : Nat) b38 none xs39])]
                      R))
              (Does PG nG G0 (fnOf PG f_greatseallaw_played) (1 : Nat) (lp PG f_greatseallaw_played (0 : Nat))
                (mkT (42 : Nat)
                  [((1 : Nat), AV.func f_greatseallaw_StoryFollows_c1 [AV.ref (0 : Nat) (0 : Nat)]), ((4 : Nat), AV.ref (1 : Nat) (0 : Nat)), ((6 : Nat), AV.ref (2 : Nat) (0 : Nat)), ((17 : Nat), AV.sl (6 : Nat) b6 none xs7),
                    ((18 : Nat), AV.int Go.IntKind.i64 n8), ((19 : Nat), AV.int Go.IntKind.i64 (Go.IntKind.wrap Go.IntKind.i64 (n9 + (1 : Int))))])
                [some (Blk.var [AV.sl (2 : Nat) b10 none xs11, AV.sl (2 : Nat) b12 none xs13, AV.sl (2 : Nat) b14 none xs15]), some (Blk.var [AV.sl (2 : Nat) b16 none xs17, AV.sl (2 : Nat) b18 none xs19, AV.sl (4 : Nat) b20 none xs21]),
                  some (Blk.var [AV.sl (2 : Nat) b22 none xs23, AV.sl (2 : Nat) b24 none xs25, AV.sl (4 : Nat) b26 none xs27])]
                R))
  (R (AV.tup [AV.agg [AV.sl (2 : Nat) b22 none xs23, AV.sl (2 : Nat) b24 none xs25, AV.sl (4 : Nat) b26 none xs27], AV.bool true])
    [some (Blk.var [AV.sl (2 : Nat) b10 none xs11, AV.sl (2 : Nat) b12 none xs13, AV.sl (2 : Nat) b14 none xs15])])) :
  Hold (runL PG ty nG G0 an_greatseallaw_played_Follows f_greatseallaw_played (0 : Nat) (1 : Nat)
  (mkT (42 : Nat)
    [((1 : Nat), AV.func f_greatseallaw_StoryFollows_c1 [AV.ref (0 : Nat) (0 : Nat)]), ((4 : Nat), AV.ref (1 : Nat) (0 : Nat)), ((6 : Nat), AV.ref (2 : Nat) (0 : Nat)), ((17 : Nat), AV.sl (6 : Nat) b6 none xs7), ((18 : Nat), AV.int Go.IntKind.i64 n8),
      ((19 : Nat), AV.int Go.IntKind.i64 n9)])
  [some (Blk.var [AV.sl (2 : Nat) b10 none xs11, AV.sl (2 : Nat) b12 none xs13, AV.sl (2 : Nat) b14 none xs15]), some (Blk.var [AV.sl (2 : Nat) b16 none xs17, AV.sl (2 : Nat) b18 none xs19, AV.sl (4 : Nat) b20 none xs21]),
    some (Blk.var [AV.sl (2 : Nat) b22 none xs23, AV.sl (2 : Nat) b24 none xs25, AV.sl (4 : Nat) b26 none xs27])]
  R) := kshow h (by kernel_rfl)

end Go.Ab

namespace Go.Ab
open Go.Proofs Go.Gs
variable {G0 : Nat → Option Obj}

theorem take60 (l : List Hap) : ∃ k : Nat, (if (60 : Int) < ((l.map H6).length : Nat) then (60 : Int) else ((l.map H6).length : Nat)) = k ∧ k ≤ l.length ∧ k ≤ 60 ∧ List.drop 0 ((l.map H6).take k) = (l.take 60).map H6 := by
  rw [List.length_map]
  by_cases h : (60 : Int) < l.length
  · exact ⟨60, by rw [if_pos h]; rfl, by omega, Nat.le_refl _, by rw [List.drop_zero, List.map_take]⟩
  · refine ⟨l.length, by rw [if_neg h], Nat.le_refl _, by omega, ?_⟩
    rw [List.drop_zero, List.map_take, List.take_of_length_le (by rw [List.length_map]; exact Nat.le_refl _), List.take_of_length_le (by rw [List.length_map]; omega)]

theorem played_Caught (hG : GlobOk G0) (I : Wd → Prop) (Q : Hap → Prop) (l : List Hap) (hl : ∀ x ∈ l, Q x) (h0 : I newW)
    (hcb : ∀ w x, WOk w → I w → Q x → (happenR w x).2 = 0 → I (happenR w x).1 ∧ Good PG nG G0 f_greatseallaw_StoryCaught_c1 [wV w, wV (happenR w x).1, .agg [.int .i64 x.1, .int .i64 x.2.1, .int .i64 x.2.2.1, .int .i64 x.2.2.2.1, .int .i64 x.2.2.2.2.1, .str x.2.2.2.2.2]] [] (.bool true) []) (nl : Bool) :
    Good PG nG G0 f_greatseallaw_played [.sl 6 nl none (l.map H6), .func f_greatseallaw_StoryCaught_c1 []] [] (.tup [wV (runW newW (l.take 60)), .bool true]) [] := by
  suffices main : ∀ R : AV → List (Option Blk) → Prop, R (.tup [wV (runW newW (l.take 60)), .bool true]) [] → Hold (runF PG ty nG G0 an_greatseallaw_played_Caught f_greatseallaw_played [.sl 6 nl none (l.map H6), .func f_greatseallaw_StoryCaught_c1 []] [] R) from
    good_of_run prOk (by kernel_rfl) (main _ ⟨rfl, rfl⟩)
  intro R hR
  refine greatseallaw_played_Caught_run nl _ G0 R ⟨_, _, _, _, _, _, good_worldNew, ?_⟩
  obtain ⟨k, hk, hkl, hk6, hd⟩ := take60 l
  rw [hk, Int.toNat_natCast, hd, List.length_map, List.length_map]
  refine ⟨Int.le_refl _, by omega, by omega, ?_⟩
  have hl : ∀ x ∈ l.take 60, Q x := fun x hx => hl x (List.mem_of_mem_take hx)
  have hm60 : (l.take 60).length ≤ 60 := by rw [List.length_take]; omega
  generalize l.take 60 = m at *
  have key : ∀ (k i : Nat) (v : Wd), i + k = m.length → WOk v → I v → runW v (m.drop i) = runW newW m →
      Does PG nG G0 (fnOf PG f_greatseallaw_played) 0 (lp PG f_greatseallaw_played 0) (mkT 42 [(1, .func f_greatseallaw_StoryCaught_c1 []), (4, .ref 0 0), (6, .ref 1 0), (17, .sl 6 nl none (m.map H6)), (18, .int .i64 m.length), (19, .int .i64 (i : Int))])
        [some (.var [.sl 2 true none [], .sl 2 true none [], .sl 4 true none []]), some (.var [.sl 2 v.n0 none (v.b0.map E2), .sl 2 v.n1 none (v.b1.map E2), .sl 4 v.n2 none (v.c.map CX)])] R := by
    intro k
    induction k with
    | zero =>
      intro i v hi hv hI e
      refine does_of_run prOk (greatseallaw_played_Caught_l0_run G0 _ _ _ _ _ _ _ _ _ _ _ _ _ _ _ _ R ?_)
      rw [decide_eq_false (by omega), ifF]
      rw [show m.drop i = [] from List.drop_of_length_le (by omega)] at e
      have e : v = runW newW m := e
      subst e
      exact hR
    | succ k ih =>
      intro i v hi hv hI e
      have hil : i < m.length := by omega
      refine does_of_run prOk (greatseallaw_played_Caught_l0_run G0 _ _ _ _ _ _ _ _ _ _ _ _ _ _ _ _ R ?_)
      rw [decide_eq_true (show (i : Int) < m.length by omega), ifT, Int.toNat_natCast, wrapI (show 0 ≤ (i : Int) + 1 by omega) (by omega)]
      have gd := good_Do (G0 := G0) hG (fun _ => hv) m[i]
      obtain ⟨q1, q2⟩ := doR_ok hv.check m[i]
      rw [q1] at gd
      rw [List.drop_eq_getElem_cons hil] at e
      have e : runW (stepR v m[i]) (m.drop (i + 1)) = runW newW m := e
      refine ⟨by omega, _, _, _, _, _, _, getX hil, _, _, _, _, _, _, _, gd, ifK_eq (fun h3 => ?_) fun h3 => ?_⟩
      · obtain ⟨hI2, gc⟩ := hcb v m[i] hv hI (hl _ (List.getElem_mem hil)) h3
        rw [q2 h3]
        have est : stepR v m[i] = (happenR v m[i]).1 := by unfold stepR; rw [if_pos h3]
        rw [est] at e
        refine ⟨_, gc, ?_⟩
        rw [Bool.not_true, ifF]
        exact ih (i + 1) _ (by omega) (hv.happen _ h3) hI2 e
      · have est : stepR v m[i] = v := by unfold stepR; rw [if_neg h3]
        rw [est] at e
        exact ih (i + 1) v (by omega) hv hI e
  exact key m.length 0 newW (by omega) WOk.new h0 rfl

theorem played_Fork (hG : GlobOk G0) (I : Wd → Prop) (Q : Hap → Prop) (l : List Hap) (hl : ∀ x ∈ l, Q x) (h0 : I newW)
    (hcb : ∀ w x, WOk w → I w → Q x → (happenR w x).2 = 0 → I (happenR w x).1 ∧ Good PG nG G0 f_greatseallaw_StoryFork_c1 [wV w, wV (happenR w x).1, .agg [.int .i64 x.1, .int .i64 x.2.1, .int .i64 x.2.2.1, .int .i64 x.2.2.2.1, .int .i64 x.2.2.2.2.1, .str x.2.2.2.2.2]] [] (.bool true) []) (nl : Bool) :
    Good PG nG G0 f_greatseallaw_played [.sl 6 nl none (l.map H6), .func f_greatseallaw_StoryFork_c1 []] [] (.tup [wV (runW newW (l.take 60)), .bool true]) [] := by
  suffices main : ∀ R : AV → List (Option Blk) → Prop, R (.tup [wV (runW newW (l.take 60)), .bool true]) [] → Hold (runF PG ty nG G0 an_greatseallaw_played_Fork f_greatseallaw_played [.sl 6 nl none (l.map H6), .func f_greatseallaw_StoryFork_c1 []] [] R) from
    good_of_run prOk (by kernel_rfl) (main _ ⟨rfl, rfl⟩)
  intro R hR
  refine greatseallaw_played_Fork_run nl _ G0 R ⟨_, _, _, _, _, _, good_worldNew, ?_⟩
  obtain ⟨k, hk, hkl, hk6, hd⟩ := take60 l
  rw [hk, Int.toNat_natCast, hd, List.length_map, List.length_map]
  refine ⟨Int.le_refl _, by omega, by omega, ?_⟩
  have hl : ∀ x ∈ l.take 60, Q x := fun x hx => hl x (List.mem_of_mem_take hx)
  have hm60 : (l.take 60).length ≤ 60 := by rw [List.length_take]; omega
  generalize l.take 60 = m at *
  have key : ∀ (k i : Nat) (v : Wd), i + k = m.length → WOk v → I v → runW v (m.drop i) = runW newW m →
      Does PG nG G0 (fnOf PG f_greatseallaw_played) 0 (lp PG f_greatseallaw_played 0) (mkT 42 [(1, .func f_greatseallaw_StoryFork_c1 []), (4, .ref 0 0), (6, .ref 1 0), (17, .sl 6 nl none (m.map H6)), (18, .int .i64 m.length), (19, .int .i64 (i : Int))])
        [some (.var [.sl 2 true none [], .sl 2 true none [], .sl 4 true none []]), some (.var [.sl 2 v.n0 none (v.b0.map E2), .sl 2 v.n1 none (v.b1.map E2), .sl 4 v.n2 none (v.c.map CX)])] R := by
    intro k
    induction k with
    | zero =>
      intro i v hi hv hI e
      refine does_of_run prOk (greatseallaw_played_Fork_l0_run G0 _ _ _ _ _ _ _ _ _ _ _ _ _ _ _ _ R ?_)
      rw [decide_eq_false (by omega), ifF]
      rw [show m.drop i = [] from List.drop_of_length_le (by omega)] at e
      have e : v = runW newW m := e
      subst e
      exact hR
    | succ k ih =>
      intro i v hi hv hI e
      have hil : i < m.length := by omega
      refine does_of_run prOk (greatseallaw_played_Fork_l0_run G0 _ _ _ _ _ _ _ _ _ _ _ _ _ _ _ _ R ?_)
      rw [decide_eq_true (show (i : Int) < m.length by omega), ifT, Int.toNat_natCast, wrapI (show 0 ≤ (i : Int) + 1 by omega) (by omega)]
      have gd := good_Do (G0 := G0) hG (fun _ => hv) m[i]
      obtain ⟨q1, q2⟩ := doR_ok hv.check m[i]
      rw [q1] at gd
      rw [List.drop_eq_getElem_cons hil] at e
      have e : runW (stepR v m[i]) (m.drop (i + 1)) = runW newW m := e
      refine ⟨by omega, _, _, _, _, _, _, getX hil, _, _, _, _, _, _, _, gd, ifK_eq (fun h3 => ?_) fun h3 => ?_⟩
      · obtain ⟨hI2, gc⟩ := hcb v m[i] hv hI (hl _ (List.getElem_mem hil)) h3
        rw [q2 h3]
        have est : stepR v m[i] = (happenR v m[i]).1 := by unfold stepR; rw [if_pos h3]
        rw [est] at e
        refine ⟨_, gc, ?_⟩
        rw [Bool.not_true, ifF]
        exact ih (i + 1) _ (by omega) (hv.happen _ h3) hI2 e
      · have est : stepR v m[i] = v := by unfold stepR; rw [if_neg h3]
        rw [est] at e
        exact ih (i + 1) v (by omega) hv hI e
  exact key m.length 0 newW (by omega) WOk.new h0 rfl

theorem played_Honest (hG : GlobOk G0) (I : Wd → Prop) (Q : Hap → Prop) (l : List Hap) (hl : ∀ x ∈ l, Q x) (h0 : I newW)
    (hcb : ∀ w x, WOk w → I w → Q x → (happenR w x).2 = 0 → I (happenR w x).1 ∧ Good PG nG G0 f_greatseallaw_StoryHonest_c1 [wV w, wV (happenR w x).1, .agg [.int .i64 x.1, .int .i64 x.2.1, .int .i64 x.2.2.1, .int .i64 x.2.2.2.1, .int .i64 x.2.2.2.2.1, .str x.2.2.2.2.2]] [] (.bool true) []) (nl : Bool) :
    Good PG nG G0 f_greatseallaw_played [.sl 6 nl none (l.map H6), .func f_greatseallaw_StoryHonest_c1 []] [] (.tup [wV (runW newW (l.take 60)), .bool true]) [] := by
  suffices main : ∀ R : AV → List (Option Blk) → Prop, R (.tup [wV (runW newW (l.take 60)), .bool true]) [] → Hold (runF PG ty nG G0 an_greatseallaw_played_Honest f_greatseallaw_played [.sl 6 nl none (l.map H6), .func f_greatseallaw_StoryHonest_c1 []] [] R) from
    good_of_run prOk (by kernel_rfl) (main _ ⟨rfl, rfl⟩)
  intro R hR
  refine greatseallaw_played_Honest_run nl _ G0 R ⟨_, _, _, _, _, _, good_worldNew, ?_⟩
  obtain ⟨k, hk, hkl, hk6, hd⟩ := take60 l
  rw [hk, Int.toNat_natCast, hd, List.length_map, List.length_map]
  refine ⟨Int.le_refl _, by omega, by omega, ?_⟩
  have hl : ∀ x ∈ l.take 60, Q x := fun x hx => hl x (List.mem_of_mem_take hx)
  have hm60 : (l.take 60).length ≤ 60 := by rw [List.length_take]; omega
  generalize l.take 60 = m at *
  have key : ∀ (k i : Nat) (v : Wd), i + k = m.length → WOk v → I v → runW v (m.drop i) = runW newW m →
      Does PG nG G0 (fnOf PG f_greatseallaw_played) 0 (lp PG f_greatseallaw_played 0) (mkT 42 [(1, .func f_greatseallaw_StoryHonest_c1 []), (4, .ref 0 0), (6, .ref 1 0), (17, .sl 6 nl none (m.map H6)), (18, .int .i64 m.length), (19, .int .i64 (i : Int))])
        [some (.var [.sl 2 true none [], .sl 2 true none [], .sl 4 true none []]), some (.var [.sl 2 v.n0 none (v.b0.map E2), .sl 2 v.n1 none (v.b1.map E2), .sl 4 v.n2 none (v.c.map CX)])] R := by
    intro k
    induction k with
    | zero =>
      intro i v hi hv hI e
      refine does_of_run prOk (greatseallaw_played_Honest_l0_run G0 _ _ _ _ _ _ _ _ _ _ _ _ _ _ _ _ R ?_)
      rw [decide_eq_false (by omega), ifF]
      rw [show m.drop i = [] from List.drop_of_length_le (by omega)] at e
      have e : v = runW newW m := e
      subst e
      exact hR
    | succ k ih =>
      intro i v hi hv hI e
      have hil : i < m.length := by omega
      refine does_of_run prOk (greatseallaw_played_Honest_l0_run G0 _ _ _ _ _ _ _ _ _ _ _ _ _ _ _ _ R ?_)
      rw [decide_eq_true (show (i : Int) < m.length by omega), ifT, Int.toNat_natCast, wrapI (show 0 ≤ (i : Int) + 1 by omega) (by omega)]
      have gd := good_Do (G0 := G0) hG (fun _ => hv) m[i]
      obtain ⟨q1, q2⟩ := doR_ok hv.check m[i]
      rw [q1] at gd
      rw [List.drop_eq_getElem_cons hil] at e
      have e : runW (stepR v m[i]) (m.drop (i + 1)) = runW newW m := e
      refine ⟨by omega, _, _, _, _, _, _, getX hil, _, _, _, _, _, _, _, gd, ifK_eq (fun h3 => ?_) fun h3 => ?_⟩
      · obtain ⟨hI2, gc⟩ := hcb v m[i] hv hI (hl _ (List.getElem_mem hil)) h3
        rw [q2 h3]
        have est : stepR v m[i] = (happenR v m[i]).1 := by unfold stepR; rw [if_pos h3]
        rw [est] at e
        refine ⟨_, gc, ?_⟩
        rw [Bool.not_true, ifF]
        exact ih (i + 1) _ (by omega) (hv.happen _ h3) hI2 e
      · have est : stepR v m[i] = v := by unfold stepR; rw [if_neg h3]
        rw [est] at e
        exact ih (i + 1) v (by omega) hv hI e
  exact key m.length 0 newW (by omega) WOk.new h0 rfl

theorem good_Fork1 (w v : Wd) (x : Hap) : Good PG nG G0 f_greatseallaw_StoryFork_c1 [wV w, wV v, .agg [.int .i64 x.1, .int .i64 x.2.1, .int .i64 x.2.2.1, .int .i64 x.2.2.2.1, .int .i64 x.2.2.2.2.1, .str x.2.2.2.2.2]] [] (.bool true) [] :=
  good_of_run prOk (by kernel_rfl) (greatseallaw_StoryFork_c1_run _ _ _ _ _ _ _ _ _ _ _ _ _ _ _ _ _ _ G0 _ ⟨rfl, rfl⟩)

theorem good_Caught1 (hG : GlobOk G0) {w : Wd} (hw : WOk w) (x : Hap) (e : (happenR w x).2 = 0) : Good PG nG G0 f_greatseallaw_StoryCaught_c1 [wV w, wV (happenR w x).1, .agg [.int .i64 x.1, .int .i64 x.2.1, .int .i64 x.2.2.1, .int .i64 x.2.2.2.1, .int .i64 x.2.2.2.2.1, .str x.2.2.2.2.2]] [] (.bool true) [] := by
  suffices main : ∀ R : AV → List (Option Blk) → Prop, R (.bool true) [] → Hold (runF PG ty nG G0 an_greatseallaw_StoryCaught_c1 f_greatseallaw_StoryCaught_c1 [wV w, wV (happenR w x).1, .agg [.int .i64 x.1, .int .i64 x.2.1, .int .i64 x.2.2.1, .int .i64 x.2.2.2.1, .int .i64 x.2.2.2.2.1, .str x.2.2.2.2.2]] [] R) from
    good_of_run prOk (by kernel_rfl) (main _ ⟨rfl, rfl⟩)
  intro R hR
  refine greatseallaw_StoryCaught_c1_run _ _ _ _ _ _ _ _ _ _ _ _ _ _ _ _ _ _ G0 R (ifK_ne70 (fun _ => hR) fun hk => ?_)
  have hy := hw.happen x e
  obtain ⟨_, _, hwho, hoth, _⟩ := happen_cases hw.check x e
  obtain ⟨_, eb0, eb1, hheads, hsame, hcaught⟩ := caught hw.check x e hk
  have c3 := hy.c3
  have hl : ((happenR w x).1.c.map CX).length = (happenR w x).1.c.length := List.length_map ..
  have gs := good_storySplit (G0 := G0) (happenR w x).1
  rw [show splitW (happenR w x).1 = (lcpN w.b0 w.b1, 0) by unfold splitW; rw [if_neg (by simpa using hy.check), eb0, eb1]] at gs
  have o1 := good_storyOf (G0 := G0) hG (happenR w x).1 x.2.2.1 0
  have o2 := good_storyOf (G0 := G0) hG (happenR w x).1 x.2.2.2.1 0
  have o3 := good_storyOf (G0 := G0) hG (happenR w x).1 x.2.2.1 1
  have o4 := good_storyOf (G0 := G0) hG (happenR w x).1 x.2.2.2.1 1
  have ek : ∀ s, 0 ≤ s ∧ s ≤ 1 → (happenR w x).1.bk s = w.bk s := fun s _ => by unfold Wd.bk; rw [eb0, eb1]
  have t1 := ofR_true hy.check hwho (show (0 : Int) ≤ 0 ∧ (0 : Int) ≤ 1 by decide)
  have t2 := ofR_true hy.check hoth (show (0 : Int) ≤ 0 ∧ (0 : Int) ≤ 1 by decide)
  have t3 := ofR_true hy.check hwho (show (0 : Int) ≤ 1 ∧ (1 : Int) ≤ 1 by decide)
  have t4 := ofR_true hy.check hoth (show (0 : Int) ≤ 1 ∧ (1 : Int) ≤ 1 by decide)
  rw [hheads, ek _ (by decide)] at t1 t2 t3 t4
  rw [t1.1] at o1
  rw [t2.1] at o2
  rw [t3.1] at o3
  rw [t4.1] at o4
  have hg1 : ((happenR w x).1.c.map CX)[x.2.2.1.toNat]? = some (CX ((happenR w x).1.cl x.2.2.1)) := by rw [getX (by omega), cl_get (by omega)]
  have hg2 : ((happenR w x).1.c.map CX)[x.2.2.2.1.toNat]? = some (CX ((happenR w x).1.cl x.2.2.2.1)) := by rw [getX (by omega), cl_get (by omega)]
  refine ⟨_, _, gs, _, _, o1, _, _, o2, _, _, o3, _, _, o4, ?_⟩
  dsimp only
  rw [bne_self_eq_false, ifF, ifF, ifF, ifF, ifF, hl, decide_eq_false (by omega), ifF, decide_eq_false (by omega), ifF, decide_eq_false (by omega), ifF, decide_eq_false (by omega), ifF]
  refine ⟨by omega, _, _, _, _, hg1, by omega, _, _, _, _, hg2, ?_⟩
  rw [hheads, hheads]
  have b0 : w.bk 0 = w.b0 := rfl
  have b1 : w.bk 1 = w.b1 := rfl
  have l0 := hw.l0
  have l1 := hw.l1
  have gsm := good_worldSame (G0 := G0) w (happenR w x).1 (by omega) (by omega) (by rw [hw.c3]; decide)
  have S1 : (ofR (happenR w x).1 x.2.2.1 0).1 = true → (ofR (happenR w x).1 x.2.2.2.1 0).1 = true → ∃ b, Good PG nG G0 f_world_Same [wV w, wV (happenR w x).1] [] (.bool b) [] ∧ R (.bool b) [] := fun h1 h2 => by
    have := hsame 0 (by decide) (t1.2.1 h1) (t2.2.1 h2)
    refine ⟨_, gsm, ?_⟩
    rw [this, sameW_self]; exact hR
  have S2 : (ofR (happenR w x).1 x.2.2.1 1).1 = true → (ofR (happenR w x).1 x.2.2.2.1 1).1 = true → ∃ b, Good PG nG G0 f_world_Same [wV w, wV (happenR w x).1] [] (.bool b) [] ∧ R (.bool b) [] := fun h1 h2 => by
    have := hsame 1 (by decide) (t3.2.1 h1) (t4.2.1 h2)
    refine ⟨_, gsm, ?_⟩
    rw [this, sameW_self]; exact hR
  have F1 : decide ((w.cl x.2.2.1).1.n > (lcpN w.b0 w.b1 : Int)) = true → decide ((w.cl x.2.2.2.1).1.n > (lcpN w.b0 w.b1 : Int)) = true → (ofR (happenR w x).1 x.2.2.1 0).1 = true → (ofR (happenR w x).1 x.2.2.2.1 1).1 = true → ((happenR w x).1.cl x.2.2.1).2 = true ∧ ((happenR w x).1.cl x.2.2.2.1).2 = true := fun h1 h2 h3 h4 =>
    hcaught (by simpa using h1) (by simpa using h2) (.inl ⟨b0 ▸ t1.2.1 h3, b1 ▸ t4.2.1 h4⟩)
  have F2 : decide ((w.cl x.2.2.1).1.n > (lcpN w.b0 w.b1 : Int)) = true → decide ((w.cl x.2.2.2.1).1.n > (lcpN w.b0 w.b1 : Int)) = true → (ofR (happenR w x).1 x.2.2.1 1).1 = true → (ofR (happenR w x).1 x.2.2.2.1 0).1 = true → ((happenR w x).1.cl x.2.2.1).2 = true ∧ ((happenR w x).1.cl x.2.2.2.1).2 = true := fun h1 h2 h3 h4 =>
    hcaught (by simpa using h1) (by simpa using h2) (.inr ⟨b1 ▸ t3.2.1 h3, b0 ▸ t2.2.1 h4⟩)
  clear gs o1 o2 o3 o4 t1 t2 t3 t4 hsame hcaught gsm
  generalize (ofR (happenR w x).1 x.2.2.1 0).1 = B2 at *
  generalize (ofR (happenR w x).1 x.2.2.2.1 0).1 = B4 at *
  generalize (ofR (happenR w x).1 x.2.2.1 1).1 = B6 at *
  generalize (ofR (happenR w x).1 x.2.2.2.1 1).1 = B8 at *
  generalize decide ((w.cl x.2.2.1).1.n > (lcpN w.b0 w.b1 : Int)) = D1 at *
  generalize decide ((w.cl x.2.2.2.1).1.n > (lcpN w.b0 w.b1 : Int)) = D2 at *
  generalize ((happenR w x).1.cl x.2.2.1).2 = K1 at *
  generalize ((happenR w x).1.cl x.2.2.2.1).2 = K2 at *
  cases B2 <;> cases B4 <;> cases B6 <;> cases B8 <;> first
    | exact S1 rfl rfl
    | exact S2 rfl rfl
    | (cases D1 <;> cases D2 <;> first
      | exact hR
      | (obtain ⟨k1, k2⟩ := F1 rfl rfl rfl rfl; subst k1; subst k2; exact hR)
      | (obtain ⟨k1, k2⟩ := F2 rfl rfl rfl rfl; subst k1; subst k2; exact hR))

theorem good_Honest1 (hG : GlobOk G0) (w : Wd) {v : Wd} (hv : WOk v) (hI : HonestI v) (x : Hap) : Good PG nG G0 f_greatseallaw_StoryHonest_c1 [wV w, wV v, .agg [.int .i64 x.1, .int .i64 x.2.1, .int .i64 x.2.2.1, .int .i64 x.2.2.2.1, .int .i64 x.2.2.2.2.1, .str x.2.2.2.2.2]] [] (.bool true) [] := by
  suffices main : ∀ R : AV → List (Option Blk) → Prop, R (.bool true) [] → Hold (runF PG ty nG G0 an_greatseallaw_StoryHonest_c1 f_greatseallaw_StoryHonest_c1 [wV w, wV v, .agg [.int .i64 x.1, .int .i64 x.2.1, .int .i64 x.2.2.1, .int .i64 x.2.2.2.1, .int .i64 x.2.2.2.2.1, .str x.2.2.2.2.2]] [] R) from
    good_of_run prOk (by kernel_rfl) (main _ ⟨rfl, rfl⟩)
  intro R hR
  refine greatseallaw_StoryHonest_c1_run _ _ _ _ _ _ _ _ _ _ _ _ _ _ _ _ _ _ G0 R ?_
  rw [List.length_map]
  have c3 := hv.c3
  refine loop_down (D := fun i : Nat => Does PG nG G0 (fnOf PG f_greatseallaw_StoryHonest_c1) 0 (lp PG f_greatseallaw_StoryHonest_c1 0) (mkT 36 [(4, .ref 0 0), (12, .sl 4 v.n2 none (v.c.map CX)), (13, .int .i64 v.c.length), (14, .int .i64 (i : Int))])
    [some (.var [.sl 2 v.n0 none (v.b0.map E2), .sl 2 v.n1 none (v.b1.map E2), .sl 4 v.n2 none (v.c.map CX)])] R) v.c.length ?_ (fun i hi ih => ?_)
  · refine does_of_run prOk (greatseallaw_StoryHonest_c1_l0_run G0 _ _ _ _ _ _ _ _ _ _ R ?_)
    rw [decide_eq_false (by omega), ifF]
    exact hR
  · refine does_of_run prOk (greatseallaw_StoryHonest_c1_l0_run G0 _ _ _ _ _ _ _ _ _ _ R ?_)
    rw [decide_eq_true (show (i : Int) < v.c.length by omega), ifT, Int.toNat_natCast, wrapI (by omega) (by omega)]
    have hg : (v.c.map CX)[i]? = some (CX (v.cl i)) := by rw [getX hi, cl_get (by simpa using hi)]; rfl
    have hc := hI.2 _ (cl_mem (w := v) (k := (i : Int)) (by simpa using hi))
    have go := good_storyOf (G0 := G0) hG v i 0
    have ht := ofR_true hv.check (k := (i : Int)) (s := 0) (by omega) (by decide)
    rw [ht.1, ht.2.2 hc.1] at go
    refine ⟨by omega, _, _, _, _, hg, _, _, go, ?_⟩
    rw [bne_self_eq_false, ifF, Bool.not_true, ifF, hc.2, ifF]
    exact ih

/-- Of which entries each one's head is, as the law keeps it. -/
structure O3 where
  m0 : Bool
  o0 : Bk
  m1 : Bool
  o1 : Bk
  m2 : Bool
  o2 : Bk

def O3.at (o : O3) (k : Nat) : Bk := if k = 0 then o.o0 else if k = 1 then o.o1 else o.o2
def O3.put (o : O3) (k : Nat) (m : Bool) (b : Bk) : O3 := if k = 0 then { o with m0 := m, o0 := b } else if k = 1 then { o with m1 := m, o1 := b } else { o with m2 := m, o2 := b }
abbrev oH (o : O3) : List (Option Blk) := [some (.var [.sl 2 o.m0 none (o.o0.map E2), .sl 2 o.m1 none (o.o1.map E2), .sl 2 o.m2 none (o.o2.map E2)])]

def ofStep (w : Wd) (x : Hap) (o : O3) : O3 :=
  if x.1 = 3 ∧ ((happenR w x).1.cl x.2.2.1).1 = (headOf ((happenR w x).1.bk x.2.1)).1 then o.put x.2.2.1.toNat ((happenR w x).1.nb x.2.1) ((happenR w x).1.bk x.2.1) else o

theorem O3.at_put (o : O3) {k : Nat} (hk : k < 3) (m : Bool) (b : Bk) : ∀ j : Nat, j < 3 → (o.put k m b).at j = if j = k then b else o.at j := by
  intro j hj
  have h1 : k = 0 ∨ k = 1 ∨ k = 2 := by omega
  have h2 : j = 0 ∨ j = 1 ∨ j = 2 := by omega
  rcases h1 with rfl | rfl | rfl <;> rcases h2 with rfl | rfl | rfl <;> rfl

theorem follows_ext {w : Wd} {f g : Nat → Bk} (h : FollowsI w f) (e : ∀ k : Nat, k < 3 → g k = f k) : FollowsI w g := ⟨h.1, fun k hk => by rw [e k hk]; exact h.2 k hk⟩

theorem good_Follows1 (hG : GlobOk G0) {w : Wd} (hw : WOk w) (x : Hap) (e : (happenR w x).2 = 0) (o : O3) (hI : FollowsI w o.at) :
    FollowsI (happenR w x).1 (ofStep w x o).at ∧ Good PG nG G0 f_greatseallaw_StoryFollows_c1 [wV w, wV (happenR w x).1, .agg [.int .i64 x.1, .int .i64 x.2.1, .int .i64 x.2.2.1, .int .i64 x.2.2.2.1, .int .i64 x.2.2.2.2.1, .str x.2.2.2.2.2], .ref 0 0] (oH o) (.bool true) (oH (ofStep w x o)) := by
  have hy := hw.happen x e
  have c3 := hy.c3
  obtain ⟨_, hside, hwho, hoth, hcase⟩ := happen_cases hw.check x e
  by_cases hk : x.1 = 3
  case neg =>
    have hst : ofStep w x o = o := by unfold ofStep; rw [if_neg fun h => hk h.1]
    rw [hst]
    refine ⟨follows_same hI hy.check fun k hk3 => heads_kept hw.check x e hk k, ?_⟩
    exact good_of_runN prOk (by kernel_rfl) (greatseallaw_StoryFollows_c1_not_run _ _ _ _ _ _ _ _ _ _ _ _ _ _ _ _ _ _ _ _ _ _ _ _ G0 _ (ifK_ne70 (fun _ => ⟨rfl, rfl⟩) fun h => absurd h hk))
  have e2 : (showsR w x.2.2.1 x.2.1).2 = 0 ∧ (happenR w x).1 = (showsR w x.2.2.1 x.2.1).1 := by
    rcases hcase with ⟨h, _⟩ | ⟨h, _⟩ | ⟨_, h, h2⟩ | ⟨h, _⟩ | ⟨h, _⟩
    · omega
    · omega
    · exact ⟨h, h2⟩
    · omega
    · omega
  obtain ⟨f1, f2, f3⟩ := follows_show hI hwho e2.1
  rw [← e2.2] at f1 f2 f3
  rw [← f3] at f1 f2
  have hbk := checkW_bk hy.check x.2.1
  have hn := headOf_n hbk
  have h24 := (checkB_ok hbk).1
  have ghd := good_Head (G0 := G0) hG ((happenR w x).1.bk x.2.1) ((happenR w x).1.nb x.2.1)
  rw [show (headOf ((happenR w x).1.bk x.2.1)).2 = 0 by rw [headOf_code]; exact hbk] at ghd
  have gcl := (good_CloneEntry (G0 := G0) ((happenR w x).1.bk x.2.1) ((happenR w x).1.nb x.2.1) (by unfold Wd.bk Wd.nb; split; exact hy.n0; exact hy.n1) (by omega)).forget
  have hg : ((happenR w x).1.c.map CX)[x.2.2.1.toNat]? = some (CX ((happenR w x).1.cl x.2.2.1)) := by rw [getX (by omega), cl_get (by omega)]
  have hlen : (((happenR w x).1.bk x.2.1).map E2).length = ((happenR w x).1.bk x.2.1).length := List.length_map ..
  refine ⟨?_, ?_⟩
  · unfold ofStep
    by_cases hh : ((happenR w x).1.cl x.2.2.1).1 = (headOf ((happenR w x).1.bk x.2.1)).1
    · rw [if_pos ⟨hk, hh⟩]
      exact follows_ext (f2 hh).2.2 fun k hk3 => by rw [O3.at_put o (by omega) _ _ k hk3]
    · rw [if_neg fun h => hh h.2]
      exact f1 hh
  · suffices main : ∀ R : AV → List (Option Blk) → Prop, R (.bool true) (oH (ofStep w x o)) →
        (((happenR w x).1.cl x.2.2.1).1.n ≠ (((happenR w x).1.bk x.2.1).length : Int) → R (.bool true) (oH o)) ∧
        (((happenR w x).1.cl x.2.2.1).1 ≠ (headOf ((happenR w x).1.bk x.2.1)).1 → R (.bool true) (oH o)) ∧
        (((happenR w x).1.cl x.2.2.1).1 = (headOf ((happenR w x).1.bk x.2.1)).1 → R (.bool true) (oH (o.put x.2.2.1.toNat ((happenR w x).1.nb x.2.1) ((happenR w x).1.bk x.2.1)))) by
      have geq : ((happenR w x).1.cl x.2.2.1).1 = (headOf ((happenR w x).1.bk x.2.1)).1 → Good PG nG G0 f_slices_Equal_Entry [.sl 2 (if x.2.2.1 = 0 then o.m0 else if x.2.2.1 = 1 then o.m1 else o.m2) none ((o.at x.2.2.1.toNat).map E2), .sl 2 ((happenR w x).1.nb x.2.1) none ((((happenR w x).1.bk x.2.1).take (o.at x.2.2.1.toNat).length).map E2)] [] (.bool true) [] := fun hh => by
        have := good_EqualEntry (G0 := G0) (o.at x.2.2.1.toNat) (((happenR w x).1.bk x.2.1).take (o.at x.2.2.1.toNat).length) (if x.2.2.1 = 0 then o.m0 else if x.2.2.1 = 1 then o.m1 else o.m2) ((happenR w x).1.nb x.2.1) (by have := (f2 hh).1; omega)
        rwa [decide_eq_true (f2 hh).2.1.symm] at this
      have fle := fun hh => (f2 hh).1
      clear f1 f2 f3 hI hcase e2
      obtain ⟨xk, xs, xw, xo, en⟩ := x
      simp only at hk hside hwho hoth ghd gcl hg hlen geq fle hn h24 hbk main
      subst hk
      have hw3 : xw = 0 ∨ xw = 1 ∨ xw = 2 := by omega
      have hs2 : xs = 0 ∨ xs = 1 := by omega
      rcases hw3 with rfl | rfl | rfl <;> rcases hs2 with rfl | rfl
      · refine good_of_run prOk (by kernel_rfl) (greatseallaw_StoryFollows_c1_w0s0_run _ _ _ _ _ _ _ _ _ _ _ _ xo en.1 en.2 _ _ _ _ _ _ G0 _ ?_)
        obtain ⟨r1, r2, r3⟩ := main (fun r' H'' => r' = .bool true ∧ H'' = oH (ofStep w (3, 0, 0, xo, en) o)) ⟨rfl, rfl⟩
        refine ⟨by decide, _, _, _, _, hg, by decide, by decide, ifK_ne70 (fun h => r1 (by intro h'; exact h (h'.trans (congrArg Nat.cast hlen.symm)))) fun _ => ⟨by decide, by decide, _, _, _, _, ghd, ?_⟩⟩
        rw [bne_self_eq_false, ifF]
        refine ⟨by decide, _, _, _, _, hg, ?_⟩
        rw [eqAll_hd]
        refine ifK_bool (fun h => r2 fun hh => ?_) fun h => ?_
        · rw [decide_eq_true hh.symm] at h; cases h
        · have hh : ((happenR w (3, 0, 0, xo, en)).1.cl 0).1 = (headOf ((happenR w (3, 0, 0, xo, en)).1.bk 0)).1 := by
            by_cases q : (headOf ((happenR w (3, 0, 0, xo, en)).1.bk 0)).1 = ((happenR w (3, 0, 0, xo, en)).1.cl 0).1
            · exact q.symm
            · rw [decide_eq_false q] at h; cases h
          have hle := fle hh
          have ge := geq hh
          have hol : ((o.at 0).map E2).length = (o.at 0).length := List.length_map ..
          refine ⟨by decide, by decide, by decide, by decide, _, _, gcl, by decide, by decide, by decide, by decide, ifK_dec (fun _ => ⟨by decide, by decide, by decide, by omega, ?_, _, ?_, r3 hh⟩) fun h => absurd ?_ h⟩
          · rw [hlen]; show (((o.at 0).map E2).length : Int) ≤ _; rw [hol]; exact Int.ofNat_le.2 hle
          · show Good PG nG G0 f_slices_Equal_Entry [_, .sl 2 _ none (List.drop 0 (List.take (Int.toNat (((o.at 0).map E2).length : Int)) (((happenR w (3, 0, 0, xo, en)).1.bk 0).map E2)))] [] _ []
            rw [Int.toNat_natCast, hol, take_E2]
            exact ge
          · rw [hlen]; show (((o.at 0).map E2).length : Int) ≤ _; rw [hol]; exact Int.ofNat_le.2 hle
      · refine good_of_run prOk (by kernel_rfl) (greatseallaw_StoryFollows_c1_w0s1_run _ _ _ _ _ _ _ _ _ _ _ _ xo en.1 en.2 _ _ _ _ _ _ G0 _ ?_)
        obtain ⟨r1, r2, r3⟩ := main (fun r' H'' => r' = .bool true ∧ H'' = oH (ofStep w (3, 1, 0, xo, en) o)) ⟨rfl, rfl⟩
        refine ⟨by decide, _, _, _, _, hg, by decide, by decide, ifK_ne70 (fun h => r1 (by intro h'; exact h (h'.trans (congrArg Nat.cast hlen.symm)))) fun _ => ⟨by decide, by decide, _, _, _, _, ghd, ?_⟩⟩
        rw [bne_self_eq_false, ifF]
        refine ⟨by decide, _, _, _, _, hg, ?_⟩
        rw [eqAll_hd]
        refine ifK_bool (fun h => r2 fun hh => ?_) fun h => ?_
        · rw [decide_eq_true hh.symm] at h; cases h
        · have hh : ((happenR w (3, 1, 0, xo, en)).1.cl 0).1 = (headOf ((happenR w (3, 1, 0, xo, en)).1.bk 1)).1 := by
            by_cases q : (headOf ((happenR w (3, 1, 0, xo, en)).1.bk 1)).1 = ((happenR w (3, 1, 0, xo, en)).1.cl 0).1
            · exact q.symm
            · rw [decide_eq_false q] at h; cases h
          have hle := fle hh
          have ge := geq hh
          have hol : ((o.at 0).map E2).length = (o.at 0).length := List.length_map ..
          refine ⟨by decide, by decide, by decide, by decide, _, _, gcl, by decide, by decide, by decide, by decide, ifK_dec (fun _ => ⟨by decide, by decide, by decide, by omega, ?_, _, ?_, r3 hh⟩) fun h => absurd ?_ h⟩
          · rw [hlen]; show (((o.at 0).map E2).length : Int) ≤ _; rw [hol]; exact Int.ofNat_le.2 hle
          · show Good PG nG G0 f_slices_Equal_Entry [_, .sl 2 _ none (List.drop 0 (List.take (Int.toNat (((o.at 0).map E2).length : Int)) (((happenR w (3, 1, 0, xo, en)).1.bk 1).map E2)))] [] _ []
            rw [Int.toNat_natCast, hol, take_E2]
            exact ge
          · rw [hlen]; show (((o.at 0).map E2).length : Int) ≤ _; rw [hol]; exact Int.ofNat_le.2 hle
      · refine good_of_run prOk (by kernel_rfl) (greatseallaw_StoryFollows_c1_w1s0_run _ _ _ _ _ _ _ _ _ _ _ _ xo en.1 en.2 _ _ _ _ _ _ G0 _ ?_)
        obtain ⟨r1, r2, r3⟩ := main (fun r' H'' => r' = .bool true ∧ H'' = oH (ofStep w (3, 0, 1, xo, en) o)) ⟨rfl, rfl⟩
        refine ⟨by decide, _, _, _, _, hg, by decide, by decide, ifK_ne70 (fun h => r1 (by intro h'; exact h (h'.trans (congrArg Nat.cast hlen.symm)))) fun _ => ⟨by decide, by decide, _, _, _, _, ghd, ?_⟩⟩
        rw [bne_self_eq_false, ifF]
        refine ⟨by decide, _, _, _, _, hg, ?_⟩
        rw [eqAll_hd]
        refine ifK_bool (fun h => r2 fun hh => ?_) fun h => ?_
        · rw [decide_eq_true hh.symm] at h; cases h
        · have hh : ((happenR w (3, 0, 1, xo, en)).1.cl 1).1 = (headOf ((happenR w (3, 0, 1, xo, en)).1.bk 0)).1 := by
            by_cases q : (headOf ((happenR w (3, 0, 1, xo, en)).1.bk 0)).1 = ((happenR w (3, 0, 1, xo, en)).1.cl 1).1
            · exact q.symm
            · rw [decide_eq_false q] at h; cases h
          have hle := fle hh
          have ge := geq hh
          have hol : ((o.at 1).map E2).length = (o.at 1).length := List.length_map ..
          refine ⟨by decide, by decide, by decide, by decide, _, _, gcl, by decide, by decide, by decide, by decide, ifK_dec (fun _ => ⟨by decide, by decide, by decide, by omega, ?_, _, ?_, r3 hh⟩) fun h => absurd ?_ h⟩
          · rw [hlen]; show (((o.at 1).map E2).length : Int) ≤ _; rw [hol]; exact Int.ofNat_le.2 hle
          · show Good PG nG G0 f_slices_Equal_Entry [_, .sl 2 _ none (List.drop 0 (List.take (Int.toNat (((o.at 1).map E2).length : Int)) (((happenR w (3, 0, 1, xo, en)).1.bk 0).map E2)))] [] _ []
            rw [Int.toNat_natCast, hol, take_E2]
            exact ge
          · rw [hlen]; show (((o.at 1).map E2).length : Int) ≤ _; rw [hol]; exact Int.ofNat_le.2 hle
      · refine good_of_run prOk (by kernel_rfl) (greatseallaw_StoryFollows_c1_w1s1_run _ _ _ _ _ _ _ _ _ _ _ _ xo en.1 en.2 _ _ _ _ _ _ G0 _ ?_)
        obtain ⟨r1, r2, r3⟩ := main (fun r' H'' => r' = .bool true ∧ H'' = oH (ofStep w (3, 1, 1, xo, en) o)) ⟨rfl, rfl⟩
        refine ⟨by decide, _, _, _, _, hg, by decide, by decide, ifK_ne70 (fun h => r1 (by intro h'; exact h (h'.trans (congrArg Nat.cast hlen.symm)))) fun _ => ⟨by decide, by decide, _, _, _, _, ghd, ?_⟩⟩
        rw [bne_self_eq_false, ifF]
        refine ⟨by decide, _, _, _, _, hg, ?_⟩
        rw [eqAll_hd]
        refine ifK_bool (fun h => r2 fun hh => ?_) fun h => ?_
        · rw [decide_eq_true hh.symm] at h; cases h
        · have hh : ((happenR w (3, 1, 1, xo, en)).1.cl 1).1 = (headOf ((happenR w (3, 1, 1, xo, en)).1.bk 1)).1 := by
            by_cases q : (headOf ((happenR w (3, 1, 1, xo, en)).1.bk 1)).1 = ((happenR w (3, 1, 1, xo, en)).1.cl 1).1
            · exact q.symm
            · rw [decide_eq_false q] at h; cases h
          have hle := fle hh
          have ge := geq hh
          have hol : ((o.at 1).map E2).length = (o.at 1).length := List.length_map ..
          refine ⟨by decide, by decide, by decide, by decide, _, _, gcl, by decide, by decide, by decide, by decide, ifK_dec (fun _ => ⟨by decide, by decide, by decide, by omega, ?_, _, ?_, r3 hh⟩) fun h => absurd ?_ h⟩
          · rw [hlen]; show (((o.at 1).map E2).length : Int) ≤ _; rw [hol]; exact Int.ofNat_le.2 hle
          · show Good PG nG G0 f_slices_Equal_Entry [_, .sl 2 _ none (List.drop 0 (List.take (Int.toNat (((o.at 1).map E2).length : Int)) (((happenR w (3, 1, 1, xo, en)).1.bk 1).map E2)))] [] _ []
            rw [Int.toNat_natCast, hol, take_E2]
            exact ge
          · rw [hlen]; show (((o.at 1).map E2).length : Int) ≤ _; rw [hol]; exact Int.ofNat_le.2 hle
      · refine good_of_run prOk (by kernel_rfl) (greatseallaw_StoryFollows_c1_w2s0_run _ _ _ _ _ _ _ _ _ _ _ _ xo en.1 en.2 _ _ _ _ _ _ G0 _ ?_)
        obtain ⟨r1, r2, r3⟩ := main (fun r' H'' => r' = .bool true ∧ H'' = oH (ofStep w (3, 0, 2, xo, en) o)) ⟨rfl, rfl⟩
        refine ⟨by decide, _, _, _, _, hg, by decide, by decide, ifK_ne70 (fun h => r1 (by intro h'; exact h (h'.trans (congrArg Nat.cast hlen.symm)))) fun _ => ⟨by decide, by decide, _, _, _, _, ghd, ?_⟩⟩
        rw [bne_self_eq_false, ifF]
        refine ⟨by decide, _, _, _, _, hg, ?_⟩
        rw [eqAll_hd]
        refine ifK_bool (fun h => r2 fun hh => ?_) fun h => ?_
        · rw [decide_eq_true hh.symm] at h; cases h
        · have hh : ((happenR w (3, 0, 2, xo, en)).1.cl 2).1 = (headOf ((happenR w (3, 0, 2, xo, en)).1.bk 0)).1 := by
            by_cases q : (headOf ((happenR w (3, 0, 2, xo, en)).1.bk 0)).1 = ((happenR w (3, 0, 2, xo, en)).1.cl 2).1
            · exact q.symm
            · rw [decide_eq_false q] at h; cases h
          have hle := fle hh
          have ge := geq hh
          have hol : ((o.at 2).map E2).length = (o.at 2).length := List.length_map ..
          refine ⟨by decide, by decide, by decide, by decide, _, _, gcl, by decide, by decide, by decide, by decide, ifK_dec (fun _ => ⟨by decide, by decide, by decide, by omega, ?_, _, ?_, r3 hh⟩) fun h => absurd ?_ h⟩
          · rw [hlen]; show (((o.at 2).map E2).length : Int) ≤ _; rw [hol]; exact Int.ofNat_le.2 hle
          · show Good PG nG G0 f_slices_Equal_Entry [_, .sl 2 _ none (List.drop 0 (List.take (Int.toNat (((o.at 2).map E2).length : Int)) (((happenR w (3, 0, 2, xo, en)).1.bk 0).map E2)))] [] _ []
            rw [Int.toNat_natCast, hol, take_E2]
            exact ge
          · rw [hlen]; show (((o.at 2).map E2).length : Int) ≤ _; rw [hol]; exact Int.ofNat_le.2 hle
      · refine good_of_run prOk (by kernel_rfl) (greatseallaw_StoryFollows_c1_w2s1_run _ _ _ _ _ _ _ _ _ _ _ _ xo en.1 en.2 _ _ _ _ _ _ G0 _ ?_)
        obtain ⟨r1, r2, r3⟩ := main (fun r' H'' => r' = .bool true ∧ H'' = oH (ofStep w (3, 1, 2, xo, en) o)) ⟨rfl, rfl⟩
        refine ⟨by decide, _, _, _, _, hg, by decide, by decide, ifK_ne70 (fun h => r1 (by intro h'; exact h (h'.trans (congrArg Nat.cast hlen.symm)))) fun _ => ⟨by decide, by decide, _, _, _, _, ghd, ?_⟩⟩
        rw [bne_self_eq_false, ifF]
        refine ⟨by decide, _, _, _, _, hg, ?_⟩
        rw [eqAll_hd]
        refine ifK_bool (fun h => r2 fun hh => ?_) fun h => ?_
        · rw [decide_eq_true hh.symm] at h; cases h
        · have hh : ((happenR w (3, 1, 2, xo, en)).1.cl 2).1 = (headOf ((happenR w (3, 1, 2, xo, en)).1.bk 1)).1 := by
            by_cases q : (headOf ((happenR w (3, 1, 2, xo, en)).1.bk 1)).1 = ((happenR w (3, 1, 2, xo, en)).1.cl 2).1
            · exact q.symm
            · rw [decide_eq_false q] at h; cases h
          have hle := fle hh
          have ge := geq hh
          have hol : ((o.at 2).map E2).length = (o.at 2).length := List.length_map ..
          refine ⟨by decide, by decide, by decide, by decide, _, _, gcl, by decide, by decide, by decide, by decide, ifK_dec (fun _ => ⟨by decide, by decide, by decide, by omega, ?_, _, ?_, r3 hh⟩) fun h => absurd ?_ h⟩
          · rw [hlen]; show (((o.at 2).map E2).length : Int) ≤ _; rw [hol]; exact Int.ofNat_le.2 hle
          · show Good PG nG G0 f_slices_Equal_Entry [_, .sl 2 _ none (List.drop 0 (List.take (Int.toNat (((o.at 2).map E2).length : Int)) (((happenR w (3, 1, 2, xo, en)).1.bk 1).map E2)))] [] _ []
            rw [Int.toNat_natCast, hol, take_E2]
            exact ge
          · rw [hlen]; show (((o.at 2).map E2).length : Int) ≤ _; rw [hol]; exact Int.ofNat_le.2 hle
    intro R hR
    unfold ofStep at hR
    refine ⟨fun h => ?_, fun h => ?_, fun h => ?_⟩
    · rw [if_neg fun h' => h (by rw [h'.2, hn])] at hR; exact hR
    · rw [if_neg fun h' => h h'.2] at hR; exact hR
    · rw [if_pos ⟨hk, h⟩] at hR; exact hR
end Go.Ab

namespace Go.Ab
open Go.Proofs
set_option maxRecDepth 100000

def an_greatseallaw_StoryCaught : FAnn := ⟨[], [], none, []⟩
def an_greatseallaw_StoryFork : FAnn := ⟨[], [(0, [4, 5, 7, 10, 65, 66], [])], none, []⟩
def an_greatseallaw_StoryHonest_arr : FAnn := ⟨[(1, 1, ⟨[], [], [100]⟩)], [(0, [0, 9, 10], [])], none, [(9, [0])]⟩
def an_greatseallaw_StoryHonest_nil : FAnn := ⟨[], [(0, [0, 9, 10], [])], none, []⟩
def an_greatseallaw_StoryFollows : FAnn := ⟨[(4, 2, ⟨[0], [], []⟩)], [], none, []⟩

theorem greatseallaw_StoryCaught_run (nll0 : Bool) (l0 : List (List AV)) (G0 : Nat → Option Go.Obj) (R : AV → List (Option Blk) → Prop) (h :
  ∃ b0 xs1 b2 xs3 b4 xs5 b6,
  Good PG nG G0 f_greatseallaw_played [AV.sl (6 : Nat) nll0 none l0, AV.func f_greatseallaw_StoryCaught_c1 []] [] (AV.tup [AV.agg [AV.sl (2 : Nat) b0 none xs1, AV.sl (2 : Nat) b2 none xs3, AV.sl (4 : Nat) b4 none xs5], AV.bool b6]) [] ∧
    ∃ b7, Good PG nG G0 f_greatseallaw_telling [] [] (AV.bool b7) [] ∧ ifK b7 (R (AV.bool b6) []) (R (AV.bool false) [])) :
  Hold (runF PG ty nG G0 an_greatseallaw_StoryCaught f_greatseallaw_StoryCaught [AV.sl (6 : Nat) nll0 none l0] [] R) := kshow h (by kernel_rfl)

theorem greatseallaw_StoryFork_run (nll0 : Bool) (l0 : List (List AV)) (x1_0 : Int) (x1_1 : List UInt8) (y2_0 : Int) (y2_1 : List UInt8) (G0 : Nat → Option Go.Obj) (R : AV → List (Option Blk) → Prop) (h :
  ∃ b0 xs1 b2 xs3 b4 xs5 b6,
  Good PG nG G0 f_greatseallaw_played [AV.sl (6 : Nat) nll0 none l0, AV.func f_greatseallaw_StoryFork_c1 []] [] (AV.tup [AV.agg [AV.sl (2 : Nat) b0 none xs1, AV.sl (2 : Nat) b2 none xs3, AV.sl (4 : Nat) b4 none xs5], AV.bool b6]) [] ∧
    ∃ b7,
      Good PG nG G0 f_greatseallaw_telling [] [] (AV.bool b7) [] ∧
        ifK (!b7) (R (AV.bool false) [])
          (ifK (!b6) (R (AV.bool false) [])
            (∃ b8 xs9 b10 xs11 b12 xs13 n14,
              Good PG nG G0 f_world_Do
                  [AV.agg [AV.sl (2 : Nat) b0 none xs1, AV.sl (2 : Nat) b2 none xs3, AV.sl (4 : Nat) b4 none xs5],
                    AV.agg [AV.int Go.IntKind.i64 (2 : Int), AV.int Go.IntKind.i64 (0 : Int), AV.int Go.IntKind.i64 (0 : Int), AV.int Go.IntKind.i64 (0 : Int), AV.int Go.IntKind.i64 (0 : Int), AV.str []]]
                  [] (AV.tup [AV.agg [AV.sl (2 : Nat) b8 none xs9, AV.sl (2 : Nat) b10 none xs11, AV.sl (4 : Nat) b12 none xs13], AV.int Go.IntKind.i64 n14]) [] ∧
                ∃ n15 n16,
                  Good PG nG G0 f_story_Split [AV.agg [AV.sl (2 : Nat) b8 none xs9, AV.sl (2 : Nat) b10 none xs11, AV.sl (4 : Nat) b12 none xs13]] [] (AV.tup [AV.int Go.IntKind.i64 n15, AV.int Go.IntKind.i64 n16]) [] ∧
                    ifK (n14 != (0 : Int)) (R (AV.bool false) [])
                      (ifK (n16 != (0 : Int)) (R (AV.bool false) [])
                        ((0 : Int) ≤ (0 : Int) ∧
                          (0 : Int) < (2 : Int) ∧
                            ifK (n15 != (↑(List.length xs9) : Int)) (R (AV.bool false) [])
                              ((0 : Int) ≤ (1 : Int) ∧
                                (1 : Int) < (2 : Int) ∧
                                  ifK (n15 != (↑(List.length xs11) : Int)) (R (AV.bool false) [])
                                    (Does PG nG G0 (fnOf PG f_greatseallaw_StoryFork) (0 : Nat) (lp PG f_greatseallaw_StoryFork (0 : Nat))
                                      (mkT (110 : Nat)
                                        [((4 : Nat), AV.ref (0 : Nat) (0 : Nat)), ((5 : Nat), AV.ref (1 : Nat) (0 : Nat)), ((7 : Nat), AV.ref (2 : Nat) (0 : Nat)), ((10 : Nat), AV.int Go.IntKind.i64 n15),
                                          ((65 : Nat), AV.agg [AV.int Go.IntKind.i64 x1_0, AV.str x1_1, AV.int Go.IntKind.i64 y2_0, AV.str y2_1]), ((66 : Nat), AV.int Go.IntKind.i64 (0 : Int))])
                                      [some (Blk.var [AV.int Go.IntKind.i64 x1_0, AV.str x1_1]), some (Blk.var [AV.int Go.IntKind.i64 y2_0, AV.str y2_1]),
                                        some (Blk.var [AV.sl (2 : Nat) b8 none xs9, AV.sl (2 : Nat) b10 none xs11, AV.sl (4 : Nat) b12 none xs13])]
                                      R))))))) :
  Hold (runF PG ty nG G0 an_greatseallaw_StoryFork f_greatseallaw_StoryFork [AV.sl (6 : Nat) nll0 none l0, AV.agg [AV.int Go.IntKind.i64 x1_0, AV.str x1_1], AV.agg [AV.int Go.IntKind.i64 y2_0, AV.str y2_1]] [] R) := kshow h (by kernel_rfl)

theorem greatseallaw_StoryFork_l0_run (G0 : Nat → Option Obj) (n17 : Int) (n18 : Int) (s19 : List UInt8) (n20 : Int) (s21 : List UInt8) (n22 : Int) (n23 : Int) (s24 : List UInt8) (n25 : Int) (s26 : List UInt8) (b27 : Bool) (xs28 : List (List AV)) (b29 : Bool) (xs30 : List (List AV)) (b31 : Bool) (xs32 : List (List AV)) (R : AV → List (Option Blk) → Prop) (h :
  ifK (decide (n22 < (2 : Int)))
  ((0 : Int) ≤ n22 ∧
    n22 < (2 : Int) ∧
      ifK (n22 == (0 : Int))
        (∃ b33 xs34 b35 xs36 b37 xs38 n39,
          Good PG nG G0 f_world_Do
              [AV.agg [AV.sl (2 : Nat) b27 none xs28, AV.sl (2 : Nat) b29 none xs30, AV.sl (4 : Nat) b31 none xs32],
                AV.agg [AV.int Go.IntKind.i64 (1 : Int), AV.int Go.IntKind.i64 n22, AV.int Go.IntKind.i64 (0 : Int), AV.int Go.IntKind.i64 (0 : Int), AV.int Go.IntKind.i64 n18, AV.str s19]]
              [] (AV.tup [AV.agg [AV.sl (2 : Nat) b33 none xs34, AV.sl (2 : Nat) b35 none xs36, AV.sl (4 : Nat) b37 none xs38], AV.int Go.IntKind.i64 n39]) [] ∧
            ifK (n39 != (0 : Int)) (R (AV.bool true) [])
              (Does PG nG G0 (fnOf PG f_greatseallaw_StoryFork) (0 : Nat) (lp PG f_greatseallaw_StoryFork (0 : Nat))
                (mkT (110 : Nat)
                  [((4 : Nat), AV.ref (0 : Nat) (0 : Nat)), ((5 : Nat), AV.ref (1 : Nat) (0 : Nat)), ((7 : Nat), AV.ref (2 : Nat) (0 : Nat)), ((10 : Nat), AV.int Go.IntKind.i64 n17),
                    ((65 : Nat), AV.agg [AV.int Go.IntKind.i64 n18, AV.str s19, AV.int Go.IntKind.i64 n20, AV.str s21]), ((66 : Nat), AV.int Go.IntKind.i64 (Go.IntKind.wrap Go.IntKind.i64 (n22 + (1 : Int))))])
                [some (Blk.var [AV.int Go.IntKind.i64 n23, AV.str s24]), some (Blk.var [AV.int Go.IntKind.i64 n25, AV.str s26]), some (Blk.var [AV.sl (2 : Nat) b33 none xs34, AV.sl (2 : Nat) b35 none xs36, AV.sl (4 : Nat) b37 none xs38])]
                R))
        (∃ b40 xs41 b42 xs43 b44 xs45 n46,
          Good PG nG G0 f_world_Do
              [AV.agg [AV.sl (2 : Nat) b27 none xs28, AV.sl (2 : Nat) b29 none xs30, AV.sl (4 : Nat) b31 none xs32],
                AV.agg [AV.int Go.IntKind.i64 (1 : Int), AV.int Go.IntKind.i64 n22, AV.int Go.IntKind.i64 (0 : Int), AV.int Go.IntKind.i64 (0 : Int), AV.int Go.IntKind.i64 n20, AV.str s21]]
              [] (AV.tup [AV.agg [AV.sl (2 : Nat) b40 none xs41, AV.sl (2 : Nat) b42 none xs43, AV.sl (4 : Nat) b44 none xs45], AV.int Go.IntKind.i64 n46]) [] ∧
            ifK (n46 != (0 : Int)) (R (AV.bool true) [])
              (Does PG nG G0 (fnOf PG f_greatseallaw_StoryFork) (0 : Nat) (lp PG f_greatseallaw_StoryFork (0 : Nat))
                (mkT (110 : Nat)
                  [((4 : Nat), AV.ref (0 : Nat) (0 : Nat)), ((5 : Nat), AV.ref (1 : Nat) (0 : Nat)), ((7 : Nat), AV.ref (2 : Nat) (0 : Nat)), ((10 : Nat), AV.int Go.IntKind.i64 n17),
                    ((65 : Nat), AV.agg [AV.int Go.IntKind.i64 n18, AV.str s19, AV.int Go.IntKind.i64 n20, AV.str s21]), ((66 : Nat), AV.int Go.IntKind.i64 (Go.IntKind.wrap Go.IntKind.i64 (n22 + (1 : Int))))])
                [some (Blk.var [AV.int Go.IntKind.i64 n23, AV.str s24]), some (Blk.var [AV.int Go.IntKind.i64 n25, AV.str s26]), some (Blk.var [AV.sl (2 : Nat) b40 none xs41, AV.sl (2 : Nat) b42 none xs43, AV.sl (4 : Nat) b44 none xs45])]
                R)))
  (∃ n47 n48,
    Good PG nG G0 f_story_Split [AV.agg [AV.sl (2 : Nat) b27 none xs28, AV.sl (2 : Nat) b29 none xs30, AV.sl (4 : Nat) b31 none xs32]] [] (AV.tup [AV.int Go.IntKind.i64 n47, AV.int Go.IntKind.i64 n48]) [] ∧
      ifK (n48 == (0 : Int))
        (ifK (eqAll [AV.int Go.IntKind.i64 n23, AV.str s24] [AV.int Go.IntKind.i64 n25, AV.str s26])
          (ifK (n47 == Go.IntKind.wrap Go.IntKind.i64 (n17 + (1 : Int))) (R (AV.bool true) [])
            (ifK (!eqAll [AV.int Go.IntKind.i64 n23, AV.str s24] [AV.int Go.IntKind.i64 n25, AV.str s26]) (R (AV.bool (n47 == n17)) []) (R (AV.bool false) [])))
          (ifK (!eqAll [AV.int Go.IntKind.i64 n23, AV.str s24] [AV.int Go.IntKind.i64 n25, AV.str s26]) (R (AV.bool (n47 == n17)) []) (R (AV.bool false) [])))
        (R (AV.bool false) []))) :
  Hold (runL PG ty nG G0 an_greatseallaw_StoryFork f_greatseallaw_StoryFork (0 : Nat) (0 : Nat)
  (mkT (110 : Nat)
    [((4 : Nat), AV.ref (0 : Nat) (0 : Nat)), ((5 : Nat), AV.ref (1 : Nat) (0 : Nat)), ((7 : Nat), AV.ref (2 : Nat) (0 : Nat)), ((10 : Nat), AV.int Go.IntKind.i64 n17),
      ((65 : Nat), AV.agg [AV.int Go.IntKind.i64 n18, AV.str s19, AV.int Go.IntKind.i64 n20, AV.str s21]), ((66 : Nat), AV.int Go.IntKind.i64 n22)])
  [some (Blk.var [AV.int Go.IntKind.i64 n23, AV.str s24]), some (Blk.var [AV.int Go.IntKind.i64 n25, AV.str s26]), some (Blk.var [AV.sl (2 : Nat) b27 none xs28, AV.sl (2 : Nat) b29 none xs30, AV.sl (4 : Nat) b31 none xs32])] R) := kshow h (by kernel_rfl)

theorem greatseallaw_StoryHonest_arr_run (l : List (List AV)) (G0 : Nat → Option Go.Obj) (R : AV → List (Option Blk) → Prop) (h :
  ∃ b0 xs1,
  b0 = false ∧
    Good PG nG G0 f_slices_Clone_Happening [AV.sl (6 : Nat) false none l] [] (AV.rsl (6 : Nat) (0 : Nat) (0 : Nat) (List.length xs1)) [some (Blk.arr (6 : Nat) xs1)] ∧
      Does PG nG G0 (fnOf PG f_greatseallaw_StoryHonest) (0 : Nat) (lp PG f_greatseallaw_StoryHonest (0 : Nat))
        (mkT (37 : Nat) [((0 : Nat), AV.rsl (6 : Nat) (0 : Nat) (0 : Nat) (List.length xs1)), ((9 : Nat), AV.int Go.IntKind.i64 (↑(List.length xs1) : Int)), ((10 : Nat), AV.int Go.IntKind.i64 (0 : Int))]) [some (Blk.arr (6 : Nat) xs1)] R) :
  Hold (runF PG ty nG G0 an_greatseallaw_StoryHonest_arr f_greatseallaw_StoryHonest [AV.sl (6 : Nat) false none l] [] R) := kshow h (by kernel_rfl)

theorem greatseallaw_StoryHonest_arr_l0_run (G0 : Nat → Option Obj) (m2 : Nat) (m3 : Nat) (n4 : Int) (n5 : Int) (xs6 : List (List AV)) (R : AV → List (Option Blk) → Prop) (h :
  ifK (decide (n5 < n4))
  ((0 : Int) ≤ n5 ∧
    n5 < (↑m3 : Int) ∧
      (0 : Int) ≤ n5 ∧
        n5 < (↑m3 : Int) ∧
          ∃ n7,
            (∃ xs8,
                (List.set xs6 (m2 + Int.toNat n5) (setR (List.getD xs6 (m2 + Int.toNat n5) []) (1 : Nat) [AV.int Go.IntKind.i64 (0 : Int)]))[m2 + Int.toNat n5]? = some xs8 ∧
                  List.take (1 : Nat) (List.drop (0 : Nat) xs8) = [AV.int Go.IntKind.i64 n7]) ∧
              ifK (n7 == (2 : Int))
                ((0 : Int) ≤ n5 ∧
                  n5 < (↑m3 : Int) ∧
                    Does PG nG G0 (fnOf PG f_greatseallaw_StoryHonest) (0 : Nat) (lp PG f_greatseallaw_StoryHonest (0 : Nat))
                      (mkT (37 : Nat) [((0 : Nat), AV.rsl (6 : Nat) (0 : Nat) m2 m3), ((9 : Nat), AV.int Go.IntKind.i64 n4), ((10 : Nat), AV.int Go.IntKind.i64 (Go.IntKind.wrap Go.IntKind.i64 (n5 + (1 : Int))))])
                      [some
                          (Blk.arr (6 : Nat)
                            (List.set (List.set xs6 (m2 + Int.toNat n5) (setR (List.getD xs6 (m2 + Int.toNat n5) []) (1 : Nat) [AV.int Go.IntKind.i64 (0 : Int)])) (m2 + Int.toNat n5)
                              (setR (List.getD (List.set xs6 (m2 + Int.toNat n5) (setR (List.getD xs6 (m2 + Int.toNat n5) []) (1 : Nat) [AV.int Go.IntKind.i64 (0 : Int)])) (m2 + Int.toNat n5) []) (0 : Nat)
                                [AV.int Go.IntKind.i64 (4 : Int)])))]
                      R)
                (Does PG nG G0 (fnOf PG f_greatseallaw_StoryHonest) (0 : Nat) (lp PG f_greatseallaw_StoryHonest (0 : Nat))
                  (mkT (37 : Nat) [((0 : Nat), AV.rsl (6 : Nat) (0 : Nat) m2 m3), ((9 : Nat), AV.int Go.IntKind.i64 n4), ((10 : Nat), AV.int Go.IntKind.i64 (Go.IntKind.wrap Go.IntKind.i64 (n5 + (1 : Int))))])
                  [some (Blk.arr (6 : Nat) (List.set xs6 (m2 + Int.toNat n5) (setR (List.getD xs6 (m2 + Int.toNat n5) []) (1 : Nat) [AV.int Go.IntKind.i64 (0 : Int)])))] R))
  (∃ b9 xs10 b11 xs12 b13 xs14 b15,
    Good PG nG G0 f_greatseallaw_played [AV.sl (6 : Nat) false none (List.take m3 (List.drop m2 xs6)), AV.func f_greatseallaw_StoryHonest_c1 []] []
        (AV.tup [AV.agg [AV.sl (2 : Nat) b9 none xs10, AV.sl (2 : Nat) b11 none xs12, AV.sl (4 : Nat) b13 none xs14], AV.bool b15]) [] ∧
      ∃ b16, Good PG nG G0 f_greatseallaw_telling [] [] (AV.bool b16) [] ∧ ifK b16 (R (AV.bool b15) []) (R (AV.bool false) []))) :
  Hold (runL PG ty nG G0 an_greatseallaw_StoryHonest_arr f_greatseallaw_StoryHonest (0 : Nat) (0 : Nat) (mkT (37 : Nat) [((0 : Nat), AV.rsl (6 : Nat) (0 : Nat) m2 m3), ((9 : Nat), AV.int Go.IntKind.i64 n4), ((10 : Nat), AV.int Go.IntKind.i64 n5)])
  [some (Blk.arr (6 : Nat) xs6)] R) := kshow h (by kernel_rfl)

theorem greatseallaw_StoryHonest_nil_run (G0 : Nat → Option Go.Obj) (R : AV → List (Option Blk) → Prop) (h :
  ∃ b0 xs1,
  Good PG nG G0 f_slices_Clone_Happening [AV.sl (6 : Nat) true none []] [] (AV.sl (6 : Nat) b0 none xs1) [] ∧
    Does PG nG G0 (fnOf PG f_greatseallaw_StoryHonest) (0 : Nat) (lp PG f_greatseallaw_StoryHonest (0 : Nat))
      (mkT (37 : Nat) [((0 : Nat), AV.sl (6 : Nat) b0 none xs1), ((9 : Nat), AV.int Go.IntKind.i64 (↑(List.length xs1) : Int)), ((10 : Nat), AV.int Go.IntKind.i64 (0 : Int))]) [] R) :
  Hold (runF PG ty nG G0 an_greatseallaw_StoryHonest_nil f_greatseallaw_StoryHonest [AV.sl (6 : Nat) true none []] [] R) := kshow h (by kernel_rfl)

theorem greatseallaw_StoryHonest_nil_l0_run (G0 : Nat → Option Obj) (b2 : Bool) (xs3 : List (List AV)) (n4 : Int) (n5 : Int) (R : AV → List (Option Blk) → Prop) (h :
  ifK (decide (n5 < n4))
  ((0 : Int) ≤ n5 ∧ ∃ n6 n7 n8 n9 n10 s11, xs3[Int.toNat n5]? = some [AV.int Go.IntKind.i64 n6, AV.int Go.IntKind.i64 n7, AV.int Go.IntKind.i64 n8, AV.int Go.IntKind.i64 n9, AV.int Go.IntKind.i64 n10, AV.str s11] ∧ False)
  (∃ b12 xs13 b14 xs15 b16 xs17 b18,
    Good PG nG G0 f_greatseallaw_played [AV.sl (6 : Nat) b2 none xs3, AV.func f_greatseallaw_StoryHonest_c1 []] [] (AV.tup [AV.agg [AV.sl (2 : Nat) b12 none xs13, AV.sl (2 : Nat) b14 none xs15, AV.sl (4 : Nat) b16 none xs17], AV.bool b18]) [] ∧
      ∃ b19, Good PG nG G0 f_greatseallaw_telling [] [] (AV.bool b19) [] ∧ ifK b19 (R (AV.bool b18) []) (R (AV.bool false) []))) :
  Hold (runL PG ty nG G0 an_greatseallaw_StoryHonest_nil f_greatseallaw_StoryHonest (0 : Nat) (0 : Nat) (mkT (37 : Nat) [((0 : Nat), AV.sl (6 : Nat) b2 none xs3), ((9 : Nat), AV.int Go.IntKind.i64 n4), ((10 : Nat), AV.int Go.IntKind.i64 n5)]) [] R) := kshow h (by kernel_rfl)

theorem greatseallaw_StoryFollows_run (nll0 : Bool) (l0 : List (List AV)) (G0 : Nat → Option Go.Obj) (R : AV → List (Option Blk) → Prop) (h :
  ∃ b0,
  Good PG nG G0 f_greatseallaw_telling [] [] (AV.bool b0) [] ∧
    ifK (!b0) (R (AV.bool false) [])
      (∃ b1 xs2 b3 xs4 b5 xs6 b7 b8 xs9 b10 xs11 b12 xs13,
        Good PG nG G0 f_greatseallaw_played [AV.sl (6 : Nat) nll0 none l0, AV.func f_greatseallaw_StoryFollows_c1 [AV.ref (0 : Nat) (0 : Nat)]] [some (Blk.var [AV.sl (2 : Nat) true none [], AV.sl (2 : Nat) true none [], AV.sl (2 : Nat) true none []])]
            (AV.tup [AV.agg [AV.sl (2 : Nat) b1 none xs2, AV.sl (2 : Nat) b3 none xs4, AV.sl (4 : Nat) b5 none xs6], AV.bool b7]) [some (Blk.var [AV.sl (2 : Nat) b8 none xs9, AV.sl (2 : Nat) b10 none xs11, AV.sl (2 : Nat) b12 none xs13])] ∧
          R (AV.bool b7) [])) :
  Hold (runF PG ty nG G0 an_greatseallaw_StoryFollows f_greatseallaw_StoryFollows [AV.sl (6 : Nat) nll0 none l0] [] R) := kshow h (by kernel_rfl)

end Go.Ab

namespace Go.Ab
open Go.Proofs Go.Gs
variable {G0 : Nat → Option Obj}

theorem good_StoryCaught (hG : GlobOk G0) (l : List Hap) (nl : Bool) : Good PG nG G0 f_greatseallaw_StoryCaught [.sl 6 nl none (l.map H6)] [] (.bool true) [] :=
  good_of_run prOk (by kernel_rfl) (greatseallaw_StoryCaught_run nl _ G0 _ ⟨_, _, _, _, _, _, _, played_Caught hG (fun _ => True) (fun _ => True) l (fun _ _ => trivial) trivial (fun w x hw _ _ e => ⟨trivial, good_Caught1 hG hw x e⟩) nl, _, good_telling hG, rfl, rfl⟩)

theorem fork_happen {w : Wd} (hw : WOk w) : happenR w (2, 0, 0, 0, 0, []) = ({ w with n1 := w.n0, b1 := w.b0 }, 0) := by
  have c3 := hw.c3
  unfold happenR
  rw [if_neg (by simp only; omega), if_neg (by simp only; omega), if_neg (by simp only; omega), if_pos rfl]

theorem good_StoryFork (hG : GlobOk G0) (l : List Hap) (nl : Bool) (x y : En) : Good PG nG G0 f_greatseallaw_StoryFork [.sl 6 nl none (l.map H6), .agg [.int .i64 x.1, .str x.2], .agg [.int .i64 y.1, .str y.2]] [] (.bool true) [] := by
  suffices main : ∀ R : AV → List (Option Blk) → Prop, R (.bool true) [] → Hold (runF PG ty nG G0 an_greatseallaw_StoryFork f_greatseallaw_StoryFork [.sl 6 nl none (l.map H6), .agg [.int .i64 x.1, .str x.2], .agg [.int .i64 y.1, .str y.2]] [] R) from
    good_of_run prOk (by kernel_rfl) (main _ ⟨rfl, rfl⟩)
  intro R hR
  have gp := played_Fork (G0 := G0) hG (fun _ => True) (fun _ => True) l (fun _ _ => trivial) trivial (fun w x hw _ _ e => ⟨trivial, good_Fork1 w (happenR w x).1 x⟩) nl
  have hw := WOk.new.run (l.take 60)
  generalize runW newW (l.take 60) = w at *
  have gd := good_Do (G0 := G0) hG (fun _ => hw) (2, 0, 0, 0, 0, [])
  have ef := fork_happen hw
  obtain ⟨q1, q2⟩ := doR_ok hw.check (2, 0, 0, 0, 0, [])
  have e0 : (happenR w (2, 0, 0, 0, 0, [])).2 = 0 := by rw [ef]
  rw [q1, q2 e0] at gd
  have hv := hw.happen _ e0
  rw [ef] at gd hv
  obtain ⟨v, hve⟩ : ∃ v : Wd, v = { w with n1 := w.n0, b1 := w.b0 } := ⟨_, rfl⟩
  have v01 : v.b0 = v.b1 := by rw [hve]
  simp only at gd hv
  rw [← hve] at gd hv
  have l24 := hv.l0
  have gs := good_storySplit (G0 := G0) v
  rw [show splitW v = (v.b0.length, 0) by unfold splitW; rw [if_neg (by simpa using hv.check), ← v01, lcpN_self]] at gs
  have h0 : (v.b0.map E2).length = v.b0.length := List.length_map ..
  have h1 : (v.b1.map E2).length = v.b0.length := by rw [List.length_map, v01]
  refine greatseallaw_StoryFork_run nl _ x.1 x.2 y.1 y.2 G0 R ⟨_, _, _, _, _, _, _, gp, _, good_telling hG, ?_⟩
  rw [Bool.not_true, ifF, ifF]
  refine ⟨_, _, _, _, _, _, _, gd, _, _, gs, ?_⟩
  rw [bne_self_eq_false, ifF, ifF, h0, h1, bne_self_eq_false, ifF]
  refine ⟨by decide, by decide, by decide, by decide, ?_⟩
  rw [ifF]
  have e10 : ((1 : Int) == 0) = false := rfl
  refine does_of_run prOk (greatseallaw_StoryFork_l0_run G0 _ _ _ _ _ _ _ _ _ _ _ _ _ _ _ _ R ?_)
  rw [decide_eq_true (show (0 : Int) < 2 by decide), ifT]
  simp only [beq_self_eq_true, ifT]
  have gx := good_Do (G0 := G0) hG (fun _ => hv) (1, 0, 0, 0, x)
  obtain ⟨qx1, qx2⟩ := doR_ok hv.check (1, 0, 0, 0, x)
  rw [qx1] at gx
  refine ⟨by decide, by decide, _, _, _, _, _, _, _, gx, ifK_ne0 (fun _ => hR) fun hx => ?_⟩
  rw [qx2 hx, wrap64 (show -9223372036854775808 ≤ (0 : Int) + 1 by decide) (by decide)]
  have hu := hv.happen _ hx
  have cx : (happenR v (1, 0, 0, 0, x)).1 = v.put 0 (v.bk 0 ++ [x]) := by
    obtain ⟨_, _, _, _, hc⟩ := happen_cases hv.check (1, 0, 0, 0, x) hx
    rcases hc with ⟨_, h⟩ | ⟨h, _⟩ | ⟨h, _⟩ | ⟨h, _⟩ | ⟨h, _⟩
    · exact h
    · exact absurd h (by simp)
    · exact absurd h (by simp)
    · exact absurd h (by simp)
    · exact absurd h (by simp)
  have u0 : (happenR v (1, 0, 0, 0, x)).1.b0 = v.b0 ++ [x] := by rw [cx]; rfl
  have u1 : (happenR v (1, 0, 0, 0, x)).1.b1 = v.b0 := by rw [cx, v01]; rfl
  generalize (happenR v (1, 0, 0, 0, x)).1 = u at *
  refine does_of_run prOk (greatseallaw_StoryFork_l0_run G0 _ _ _ _ _ _ _ _ _ _ _ _ _ _ _ _ R ?_)
  rw [decide_eq_true (show (0 : Int) + 1 < 2 by decide), ifT]
  simp only [Int.zero_add, e10, ifF]
  have gy := good_Do (G0 := G0) hG (fun _ => hu) (1, 1, 0, 0, y)
  obtain ⟨qy1, qy2⟩ := doR_ok hu.check (1, 1, 0, 0, y)
  rw [qy1] at gy
  refine ⟨by decide, by decide, _, _, _, _, _, _, _, gy, ifK_ne0 (fun _ => hR) fun hy => ?_⟩
  rw [qy2 hy, wrap64 (show -9223372036854775808 ≤ (1 : Int) + 1 by decide) (by decide)]
  have ht := hu.happen _ hy
  have cy : (happenR u (1, 1, 0, 0, y)).1 = u.put 1 (u.bk 1 ++ [y]) := by
    obtain ⟨_, _, _, _, hc⟩ := happen_cases hu.check (1, 1, 0, 0, y) hy
    rcases hc with ⟨_, h⟩ | ⟨h, _⟩ | ⟨h, _⟩ | ⟨h, _⟩ | ⟨h, _⟩
    · exact h
    · exact absurd h (by simp)
    · exact absurd h (by simp)
    · exact absurd h (by simp)
    · exact absurd h (by simp)
  have t0 : (happenR u (1, 1, 0, 0, y)).1.b0 = v.b0 ++ [x] := by rw [cy]; exact u0
  have t1 : (happenR u (1, 1, 0, 0, y)).1.b1 = v.b0 ++ [y] := by rw [cy, ← u1]; rfl
  generalize (happenR u (1, 1, 0, 0, y)).1 = t at *
  refine does_of_run prOk (greatseallaw_StoryFork_l0_run G0 _ _ _ _ _ _ _ _ _ _ _ _ _ _ _ _ R ?_)
  rw [decide_eq_false (show ¬ (1 : Int) + 1 < 2 by decide), ifF]
  have gt := good_storySplit (G0 := G0) t
  rw [show splitW t = (lcpN t.b0 t.b1, 0) by unfold splitW; rw [if_neg (by simpa using ht.check)], t0, t1, lcpN_snoc] at gt
  refine ⟨_, _, gt, ?_⟩
  rw [beq_self_eq_true, ifT, eqAll_E2, wrap64 (show -9223372036854775808 ≤ (v.b0.length : Int) + 1 by omega) (by omega)]
  by_cases hxy : x = y
  · rw [decide_eq_true hxy, ifT]
    dsimp only
    rw [if_pos hxy, show (((v.b0.length + 1 : Nat) : Int) == (v.b0.length : Int) + 1) = true by simp, ifT]
    exact hR
  · rw [decide_eq_false hxy, Bool.not_false, ifF, ifT]
    dsimp only
    rw [if_neg hxy, beq_self_eq_true]
    exact hR

/-- What the law of one book makes of a happening. -/
def fixH (x : Hap) : Hap := (if x.1 = 2 then 4 else x.1, 0, x.2.2.1, x.2.2.2.1, x.2.2.2.2)

theorem plain_haps (l : List Hap) : plainXs (l.map H6) := by
  intro x hx y hy
  obtain ⟨s, _, rfl⟩ := List.mem_map.1 hx
  simp [H6] at hy
  rcases hy with rfl | rfl | rfl | rfl | rfl | rfl <;> rfl

theorem good_CloneHap_arr (l : List Hap) (hl : l.length * 56 ≤ 140737488355328) : Good PG nG G0 f_slices_Clone_Happening [.sl 6 false none (l.map H6)] [] (.rsl 6 0 0 (l.map H6).length) [some (.arr 6 (l.map H6))] := by
  refine Good.thaw (plain_haps l) ?_
  refine good_of_run prOk (by kernel_rfl) (slices_Clone_Happening_run false _ G0 _ ?_)
  simp only [ifK_iff, List.length_map, Nat.zero_add, List.nil_append, Bool.false_and]
  exact ⟨fun h => absurd h (by decide), fun _ => ⟨hl, trivial, by trivial, by trivial⟩⟩

theorem good_CloneHap_nil : Good PG nG G0 f_slices_Clone_Happening [.sl 6 true none []] [] (.sl 6 true none []) [] :=
  Good.forget (n := 0) (good_of_run prOk (by kernel_rfl) (slices_Clone_Happening_run true [] G0 _ ⟨rfl, rfl⟩))

theorem good_StoryHonest (hG : GlobOk G0) (l : List Hap) (nl : Bool) (hnl : nl = true → l = []) (hl : l.length * 56 ≤ 140737488355328) : Good PG nG G0 f_greatseallaw_StoryHonest [.sl 6 nl none (l.map H6)] [] (.bool true) [] := by
  have play : ∀ (m : List Hap) (nm : Bool), (∀ x ∈ m, x.2.1 = 0 ∧ x.1 ≠ 2) → Good PG nG G0 f_greatseallaw_played [.sl 6 nm none (m.map H6), .func f_greatseallaw_StoryHonest_c1 []] [] (.tup [wV (runW newW (m.take 60)), .bool true]) [] := fun m nm hm =>
    played_Honest hG HonestI (fun x => x.2.1 = 0 ∧ x.1 ≠ 2) m hm honest_new (fun w x hw hI hq e => ⟨honest_happen hI x hq.1 hq.2 e, good_Honest1 hG w (hw.happen x e) (honest_happen hI x hq.1 hq.2 e) x⟩) nm
  cases nl with
  | true =>
    rw [hnl rfl]
    suffices main : ∀ R : AV → List (Option Blk) → Prop, R (.bool true) [] → Hold (runF PG ty nG G0 an_greatseallaw_StoryHonest_nil f_greatseallaw_StoryHonest [.sl 6 true none []] [] R) from
      good_of_run prOk (by kernel_rfl) (main _ ⟨rfl, rfl⟩)
    intro R hR
    refine greatseallaw_StoryHonest_nil_run G0 R ⟨_, _, good_CloneHap_nil, ?_⟩
    refine does_of_run prOk (greatseallaw_StoryHonest_nil_l0_run G0 _ _ _ _ R ?_)
    rw [decide_eq_false (show ¬ (0 : Int) < (([] : List (List AV)).length : Int) by decide), ifF]
    exact ⟨_, _, _, _, _, _, _, play [] true (fun x hx => by cases hx), _, good_telling hG, hR⟩
  | false =>
    suffices main : ∀ R : AV → List (Option Blk) → Prop, R (.bool true) [] → Hold (runF PG ty nG G0 an_greatseallaw_StoryHonest_arr f_greatseallaw_StoryHonest [.sl 6 false none (l.map H6)] [] R) from
      good_of_run prOk (by kernel_rfl) (main _ ⟨rfl, rfl⟩)
    intro R hR
    refine greatseallaw_StoryHonest_arr_run _ G0 R ⟨false, _, rfl, good_CloneHap_arr l hl, ?_⟩
    rw [List.length_map]
    have key : ∀ (k i : Nat) (m : List Hap), i + k = l.length → m.length = l.length → m.take i = (l.take i).map fixH → m.drop i = l.drop i →
        Does PG nG G0 (fnOf PG f_greatseallaw_StoryHonest) 0 (lp PG f_greatseallaw_StoryHonest 0) (mkT 37 [(0, .rsl 6 0 0 l.length), (9, .int .i64 l.length), (10, .int .i64 (i : Int))]) [some (.arr 6 (m.map H6))] R := by
      intro k
      induction k with
      | zero =>
        intro i m hi hml hmt hmd
        refine does_of_run prOk (greatseallaw_StoryHonest_arr_l0_run G0 _ _ _ _ _ R ?_)
        rw [decide_eq_false (by omega), ifF, List.drop_zero, List.take_of_length_le (by rw [List.length_map, hml]; exact Nat.le_refl _)]
        have hme : m = l.map fixH := by
          rw [List.take_of_length_le (by omega), List.take_of_length_le (by omega)] at hmt
          exact hmt
        refine ⟨_, _, _, _, _, _, _, play m false (fun x hx => ?_), _, good_telling hG, hR⟩
        rw [hme] at hx
        obtain ⟨y, _, rfl⟩ := List.mem_map.1 hx
        refine ⟨rfl, ?_⟩
        show (if y.1 = 2 then (4 : Int) else y.1) ≠ 2
        split
        · decide
        · rename_i h; exact h
      | succ k ih =>
        intro i m hi hml hmt hmd
        have him : i < m.length := by omega
        have hil : i < l.length := by omega
        have e1 : m[i] = l[i] := by
          have h1 := List.drop_eq_getElem_cons him
          have h2 := List.drop_eq_getElem_cons hil
          rw [hmd, h2] at h1
          injection h1 with h1 _
          exact h1.symm
        have hd1 : m.drop (i + 1) = l.drop (i + 1) := by
          rw [← List.drop_drop, hmd, List.drop_drop]
        have hgd : (m.map H6).getD (0 + i) [] = H6 l[i] := by rw [List.getD_eq_getElem?_getD, Nat.zero_add, getX him, e1]; rfl
        have hset : ∀ (y z : Hap) (off : Nat) (v : AV), setR (H6 y) off [v] = H6 z → ∀ n : List Hap, (n.map H6).set (0 + i) (setR (H6 y) off [v]) = (n.set i z).map H6 := fun y z off v h n => by
          rw [Nat.zero_add, h, List.map_set]
        refine does_of_run prOk (greatseallaw_StoryHonest_arr_l0_run G0 _ _ _ _ _ R ?_)
        rw [decide_eq_true (show (i : Int) < l.length by omega), ifT, Int.toNat_natCast, wrapI (show 0 ≤ (i : Int) + 1 by omega) (by omega), hgd]
        rw [hset l[i] (l[i].1, 0, l[i].2.2) 1 (.int .i64 0) rfl m]
        have hget : ((m.set i (l[i].1, 0, l[i].2.2)).map H6)[0 + i]? = some (H6 (l[i].1, 0, l[i].2.2)) := by rw [Nat.zero_add, List.getElem?_map, List.getElem?_set_self him]; rfl
        have hgd2 : ((m.set i (l[i].1, 0, l[i].2.2)).map H6).getD (0 + i) [] = H6 (l[i].1, 0, l[i].2.2) := by rw [List.getD_eq_getElem?_getD, hget]; rfl
        have nxt : ∀ z : Hap, z = fixH l[i] → ∀ n : List Hap, n = m.set i z → Does PG nG G0 (fnOf PG f_greatseallaw_StoryHonest) 0 (lp PG f_greatseallaw_StoryHonest 0) (mkT 37 [(0, .rsl 6 0 0 l.length), (9, .int .i64 l.length), (10, .int .i64 ((i : Int) + 1))]) [some (.arr 6 (n.map H6))] R := by
          intro z hz n hn
          subst hn
          refine ih (i + 1) (m.set i z) (by omega) (by rw [List.length_set]; exact hml) ?_ ?_
          · rw [List.take_add_one, List.take_set_of_le (Nat.le_refl i), hmt, List.getElem?_set_self him, List.take_add_one, List.map_append, List.getElem?_eq_getElem hil, hz]
            rfl
          · rw [List.drop_set_of_lt (Nat.lt_succ_self i), hd1]
        refine ⟨by omega, by omega, by omega, by omega, _, ⟨_, hget, rfl⟩, ifK_eq (fun h2 => ⟨by omega, by omega, ?_⟩) fun h2 => ?_⟩
        · rw [hgd2, hset (l[i].1, 0, l[i].2.2) (4, 0, l[i].2.2) 0 (.int .i64 4) rfl (m.set i (l[i].1, 0, l[i].2.2)), List.set_set]
          exact nxt (4, 0, l[i].2.2) (by unfold fixH; rw [if_pos h2]) _ rfl
        · exact nxt (l[i].1, 0, l[i].2.2) (by unfold fixH; rw [if_neg h2]) _ rfl
    exact key l.length 0 l (by omega) rfl rfl rfl

def ofRun : Wd → O3 → List Hap → O3
  | _, o, [] => o
  | w, o, x :: r => if (happenR w x).2 = 0 then ofRun (happenR w x).1 (ofStep w x o) r else ofRun w o r

theorem played_Follows (hG : GlobOk G0) (l : List Hap) (nl : Bool) (o : O3) (h0 : FollowsI newW o.at) :
    Good PG nG G0 f_greatseallaw_played [.sl 6 nl none (l.map H6), .func f_greatseallaw_StoryFollows_c1 [.ref 0 0]] (oH o) (.tup [wV (runW newW (l.take 60)), .bool true]) (oH (ofRun newW o (l.take 60))) := by
  suffices main : ∀ R : AV → List (Option Blk) → Prop, R (.tup [wV (runW newW (l.take 60)), .bool true]) (oH (ofRun newW o (l.take 60))) → Hold (runF PG ty nG G0 an_greatseallaw_played_Follows f_greatseallaw_played [.sl 6 nl none (l.map H6), .func f_greatseallaw_StoryFollows_c1 [.ref 0 0]] (oH o) R) from
    good_of_run prOk (by kernel_rfl) (main _ ⟨rfl, rfl⟩)
  intro R hR
  refine greatseallaw_played_Follows_run nl _ _ _ _ _ _ _ G0 R ⟨_, _, _, _, _, _, good_worldNew, ?_⟩
  obtain ⟨k, hk, hkl, hk6, hd⟩ := take60 l
  rw [hk, Int.toNat_natCast, hd, List.length_map, List.length_map]
  refine ⟨Int.le_refl _, by omega, by omega, ?_⟩
  have hm60 : (l.take 60).length ≤ 60 := by rw [List.length_take]; omega
  generalize l.take 60 = m at *
  have key : ∀ (k i : Nat) (v : Wd) (q : O3), i + k = m.length → WOk v → FollowsI v q.at → runW v (m.drop i) = runW newW m → ofRun v q (m.drop i) = ofRun newW o m →
      Does PG nG G0 (fnOf PG f_greatseallaw_played) 1 (lp PG f_greatseallaw_played 0) (mkT 42 [(1, .func f_greatseallaw_StoryFollows_c1 [.ref 0 0]), (4, .ref 1 0), (6, .ref 2 0), (17, .sl 6 nl none (m.map H6)), (18, .int .i64 m.length), (19, .int .i64 (i : Int))])
        [some (.var [.sl 2 q.m0 none (q.o0.map E2), .sl 2 q.m1 none (q.o1.map E2), .sl 2 q.m2 none (q.o2.map E2)]), some (.var [.sl 2 true none [], .sl 2 true none [], .sl 4 true none []]), some (.var [.sl 2 v.n0 none (v.b0.map E2), .sl 2 v.n1 none (v.b1.map E2), .sl 4 v.n2 none (v.c.map CX)])] R := by
    intro k
    induction k with
    | zero =>
      intro i v q hi hv hI e e'
      refine does_of_run prOk (greatseallaw_played_Follows_l0_run G0 _ _ _ _ _ _ _ _ _ _ _ _ _ _ _ _ _ _ _ _ _ _ R ?_)
      rw [decide_eq_false (by omega), ifF]
      rw [show m.drop i = [] from List.drop_of_length_le (by omega)] at e e'
      have e : v = runW newW m := e
      have e' : q = ofRun newW o m := e'
      subst e
      rw [← e'] at hR
      exact hR
    | succ k ih =>
      intro i v q hi hv hI e e'
      have hil : i < m.length := by omega
      refine does_of_run prOk (greatseallaw_played_Follows_l0_run G0 _ _ _ _ _ _ _ _ _ _ _ _ _ _ _ _ _ _ _ _ _ _ R ?_)
      rw [decide_eq_true (show (i : Int) < m.length by omega), ifT, Int.toNat_natCast, wrapI (show 0 ≤ (i : Int) + 1 by omega) (by omega)]
      have gd := good_Do (G0 := G0) hG (fun _ => hv) m[i]
      obtain ⟨q1, q2⟩ := doR_ok hv.check m[i]
      rw [q1] at gd
      rw [List.drop_eq_getElem_cons hil] at e e'
      have e : runW (stepR v m[i]) (m.drop (i + 1)) = runW newW m := e
      rw [ofRun] at e'
      refine ⟨by omega, _, _, _, _, _, _, getX hil, _, _, _, _, _, _, _, gd, ifK_eq (fun h3 => ?_) fun h3 => ?_⟩
      · obtain ⟨hI2, gc⟩ := good_Follows1 (G0 := G0) hG hv m[i] h3 q hI
        rw [if_pos h3] at e'
        rw [q2 h3]
        have est : stepR v m[i] = (happenR v m[i]).1 := by unfold stepR; rw [if_pos h3]
        rw [est] at e
        refine ⟨_, _, _, _, _, _, _, gc, ?_⟩
        rw [Bool.not_true, ifF]
        exact ih (i + 1) _ _ (by omega) (hv.happen _ h3) hI2 e e'
      · have est : stepR v m[i] = v := by unfold stepR; rw [if_neg h3]
        rw [est] at e
        rw [if_neg h3] at e'
        exact ih (i + 1) v q (by omega) hv hI e e'
  exact key m.length 0 newW o (by omega) WOk.new h0 rfl rfl

theorem good_StoryFollows (hG : GlobOk G0) (l : List Hap) (nl : Bool) : Good PG nG G0 f_greatseallaw_StoryFollows [.sl 6 nl none (l.map H6)] [] (.bool true) [] := by
  have h0 : FollowsI newW (⟨true, [], true, [], true, []⟩ : O3).at := by
    refine ⟨WOk.new.check, fun k hk => ?_⟩
    have h1 : k = 0 ∨ k = 1 ∨ k = 2 := by omega
    rcases h1 with rfl | rfl | rfl <;> exact ⟨rfl, .inl ⟨rfl, rfl⟩⟩
  refine good_of_run prOk (by kernel_rfl) (greatseallaw_StoryFollows_run nl _ G0 _ ⟨_, good_telling hG, ?_⟩)
  rw [Bool.not_true, ifF]
  exact ⟨_, _, _, _, _, _, _, _, _, _, _, _, _, played_Follows hG l nl ⟨true, [], true, [], true, []⟩ h0, rfl, rfl⟩
end Go.Ab

namespace Go.Proofs.YtdolapjfihjmgaaDoor
open Go.Ab Go.Gs Go.ChangeShapes Go.WideShapes Go.ChangeAt Go.RowKit

theorem own : ownKnob Tryd.prog.godebug = none := by kernel_rfl
theorem laidOutP : laidOutB Tryd.prog = true := by kernel_rfl

/-- The three tables, as the rows list them. -/
def tabs : List (String × DataW Unit) := Rows.storyCaughtRow.laid

theorem var_heap {W : World} {name : String} {cs : Array Value} {g : Nat} (hg : Tryd.prog.globalNamed name = some g) (h : W.var? Tryd.prog name = some cs) : g < W.heap.size := by
  simp only [World.var?, hg, Option.bind_some] at h
  split at h
  · rename_i hh; exact (Array.getElem?_eq_some_iff.1 hh).1
  · cases h

theorem var_same {W w : World} {name : String} {g : Nat} (hg : Tryd.prog.globalNamed name = some g) (h : w.heap[g]? = W.heap[g]?) : w.var? Tryd.prog name = W.var? Tryd.prog name := by
  simp only [World.var?, hg, Option.bind_some, h]

theorem glob_ofM {W : World} {rest : List (String × DataW Unit)} (h : laidMet Tryd.prog (Rows.storyCaughtRow.laid ++ rest) W) : GlobOk (fun b => W.heap[b]?) ∧ nG ≤ W.heap.size := by
  obtain ⟨ps, ⟨g0, t0, cs0, f0, p0, q0, hg0, ht0, hv0, hd0, ⟨g1, t1, cs1, f1, p1, q1, hg1, ht1, hv1, hd1, ⟨g2, t2, cs2, f2, p2, q2, hg2, ht2, hv2, hd2, _, _⟩, _⟩, _⟩, _⟩ := h
  have hn0 : Tryd.prog.globalNamed "math/bits.deBruijn32tab" = some 1 := by kernel_rfl
  have hn1 : Tryd.prog.globalNamed "math/bits.deBruijn64tab" = some 2 := by kernel_rfl
  have hn2 : Tryd.prog.globalNamed "internal/strconv.uint64pow10" = some 0 := by kernel_rfl
  have l1 := var_heap hn1 hv1
  have hng : nG = 3 := rfl
  refine ⟨fun w hw => ?_, by omega⟩
  have hty : (Tryd.prog.globals[0]?).map (·.type) = some 146 := by kernel_rfl
  obtain rfl := Option.some.inj (hn2.symm.trans hg2)
  obtain rfl := Option.some.inj (hty.symm.trans ht2)
  unfold Lib.TabIs
  rw [var_same hn2 (hw 0 (by decide)), hv2]
  have := Lib.cells_of_tab (k := .u64) (zs := Lib.pow10Tab) (n := 20) Tryd.underlying146 Tryd.underlying139 (by kernel_rfl) (by kernel_rfl) (show DataW.trod (fun _ => ()) Tryd.prog W 0 (fun _ => true) false f2 146 cs2.toList = some (Lib.tabData .u64 Lib.pow10Tab, p2) from hd2)
  rw [← this]

theorem glob_of {W : World} (h : laidMetH Tryd.prog Rows.storyCaughtRow.laid W) : GlobOk (fun b => W.heap[b]?) ∧ nG ≤ W.heap.size := glob_ofM (rest := []) (show laidMet Tryd.prog Rows.storyCaughtRow.laid W from h)

/-- A world for the witness. -/
noncomputable def wit0 (os : Os) : World := World.doorLaid Tryd.prog 400 os

end Go.Proofs.YtdolapjfihjmgaaDoor

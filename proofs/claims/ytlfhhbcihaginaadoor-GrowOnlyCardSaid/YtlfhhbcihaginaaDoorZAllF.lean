/- What the proofs of these laws lean on (6): What the runs come to; Contracts: nothing but a path shows; Contracts: nothing but what growth shows; What the runs come to; What the runs come to; Contracts: beginnings and ends of texts, a leaf's seal opened; The seal of what keys come to, in plain words: what it shows is so, and nothing else; Maps from numbers to texts, as lists, in plain words; Books and their heads, in plain words; Numerals read back, texts cut at a byte, heads as texts; Contracts: bytes found, texts cut, numerals read; What the listed variables give, for any law of this seat; no condition. -/
import Derived.Test.YtlfhhbcihaginaaDoorZAllE
import Derived.Lib.AtoiAll
import Derived.Lib.AtoiAllCases
import Derived.Lib.Bytealg
import Derived.Lib.ParseIntBTie
import Derived.Stop.LaidErr
import Derived.Lay
import Derived.Test.YtlfhhbcihaginaaDoorCards
import Derived.Test.YtlfhhbcihaginaaDoorTie
import Derived.OpenShut
import Derived.LaidMore
import Derived.Deep.DeepHandedRow
import Derived.Lib.LaidTab
namespace Go.Ab
open Go.Proofs
set_option maxRecDepth 100000

def an_slices_Clone_Step : FAnn := ⟨[], [], some [2], []⟩
def an_greatseallaw_PathOnly_c1 : FAnn := ⟨[], [], none, []⟩
def an_greatseallaw_GrowOnly_c1 : FAnn := ⟨[], [], none, []⟩
def an_greatseallaw_PathOnly : FAnn := ⟨[(10, 1, ⟨[], [], [0]⟩), (10, 3, ⟨[], [], [0]⟩), (13, 2, ⟨[0, 1, 2], [], []⟩), (13, 10, ⟨[0, 1, 2], [], []⟩), (13, 23, ⟨[0, 1, 2], [], []⟩), (13, 30, ⟨[0, 1, 2], [], []⟩), (13, 36, ⟨[], [0], []⟩), (13, 41, ⟨[0, 1, 2], [], []⟩)], [], none, [(13, [3, 4])]⟩
def an_greatseallaw_GrowOnly : FAnn := ⟨[(10, 2, ⟨[0, 1, 2, 3], [], []⟩), (10, 7, ⟨[], [0], []⟩), (10, 11, ⟨[0, 1, 2, 3], [], []⟩), (15, 1, ⟨[], [], [0]⟩), (17, 2, ⟨[0, 1, 2, 3], [], []⟩), (17, 14, ⟨[0, 1, 2, 3], [], []⟩)], [], none, [(17, [4, 5, 6, 7, 8, 9]), (16, [])]⟩

theorem slices_Clone_Step_run (nls0 : Bool) (s0 : List (List AV)) (G0 : Nat → Option Go.Obj) (R : AV → List (Option Blk) → Prop) (h :
  ifK nls0 (R (AV.sl (2 : Nat) true (some (0 : Nat)) []) [some (Blk.grow (2 : Nat) (0 : Nat))])
  (((0 : Nat) + List.length s0) * (24 : Nat) ≤ (140737488355328 : Nat) ∧ (0 : Nat) = (0 : Nat) ∧ R (AV.sl (2 : Nat) (false && List.isEmpty s0) (some (0 : Nat)) ([] ++ s0)) [some (Blk.grow (2 : Nat) ((0 : Nat) + List.length s0))])) :
  Hold (runF PG ty nG G0 an_slices_Clone_Step f_slices_Clone_Step [AV.sl (2 : Nat) nls0 none s0] [] R) := kshow h (by kernel_rfl)

theorem greatseallaw_PathOnly_c1_run (nx : Bool) (st : List (List AV)) (root : List UInt8) (nl : Bool) (l : List (List AV)) (i : Int) (G0 : Nat → Option Go.Obj) (R : AV → List (Option Blk) → Prop) (h :
  (0 : Int) ≤ i ∧
  ∃ s0,
    l[Int.toNat i]? = some [AV.str s0] ∧
      ∃ n1,
        Good PG nG G0 f_path_Shows [AV.str root, AV.int Go.IntKind.i64 (↑(List.length l) : Int), AV.int Go.IntKind.i64 i, AV.str s0, AV.sl (2 : Nat) nx none st] [] (AV.int Go.IntKind.i64 n1) [] ∧
          R (AV.bool (n1 == (0 : Int))) [some (Blk.var [AV.sl (1 : Nat) nl none l]), some (Blk.var [AV.int Go.IntKind.i64 i]), some (Blk.var [AV.str root])]) :
  Hold (runF PG ty nG G0 an_greatseallaw_PathOnly_c1 f_greatseallaw_PathOnly_c1 [AV.sl (2 : Nat) nx none st, AV.ref (2 : Nat) (0 : Nat), AV.ref (0 : Nat) (0 : Nat), AV.ref (1 : Nat) (0 : Nat)]
  [some (Blk.var [AV.sl (1 : Nat) nl none l]), some (Blk.var [AV.int Go.IntKind.i64 i]), some (Blk.var [AV.str root])] R) := kshow h (by kernel_rfl)

theorem greatseallaw_GrowOnly_c1_run (nx : Bool) (xs : List (List AV)) (old : List UInt8) (m : Int) (root : List UInt8) (nl : Bool) (l : List (List AV)) (G0 : Nat → Option Go.Obj) (R : AV → List (Option Blk) → Prop) (h :
  ∃ n0,
  Good PG nG G0 f_grow_Shows [AV.str old, AV.int Go.IntKind.i64 m, AV.str root, AV.int Go.IntKind.i64 (↑(List.length l) : Int), AV.sl (1 : Nat) nx none xs] [] (AV.int Go.IntKind.i64 n0) [] ∧
    R (AV.bool (n0 == (0 : Int))) [some (Blk.var [AV.sl (1 : Nat) nl none l]), some (Blk.var [AV.int Go.IntKind.i64 m]), some (Blk.var [AV.str root]), some (Blk.var [AV.str old])]) :
  Hold (runF PG ty nG G0 an_greatseallaw_GrowOnly_c1 f_greatseallaw_GrowOnly_c1 [AV.sl (1 : Nat) nx none xs, AV.ref (3 : Nat) (0 : Nat), AV.ref (1 : Nat) (0 : Nat), AV.ref (2 : Nat) (0 : Nat), AV.ref (0 : Nat) (0 : Nat)]
  [some (Blk.var [AV.sl (1 : Nat) nl none l]), some (Blk.var [AV.int Go.IntKind.i64 m]), some (Blk.var [AV.str root]), some (Blk.var [AV.str old])] R) := kshow h (by kernel_rfl)

theorem greatseallaw_PathOnly_run (nll0 : Bool) (l0 : List (List AV)) (i1 : Int) (nlsteps2 : Bool) (steps2 : List (List AV)) (k3 : Int) (s4 : List UInt8) (G0 : Nat → Option Go.Obj) (R : AV → List (Option Blk) → Prop) (h :
  ∃ s0 n1,
  Good PG nG G0 f_tree_Root [AV.sl (1 : Nat) nll0 none l0] [] (AV.tup [AV.str s0, AV.int Go.IntKind.i64 n1]) [] ∧
    ∃ b2,
      Good PG nG G0 f_greatseallaw_pathed [] [] (AV.bool b2) [] ∧
        ifK (!b2) (∃ b3, Good PG nG G0 f_greatseallaw_pathed [] [] (AV.bool b3) [] ∧ R (AV.bool b3) [])
          (ifK (n1 != (0 : Int)) (∃ b4, Good PG nG G0 f_greatseallaw_pathed [] [] (AV.bool b4) [] ∧ R (AV.bool b4) [])
            (ifK (decide ((↑(List.length l0) : Int) < (2 : Int))) (∃ b5, Good PG nG G0 f_greatseallaw_pathed [] [] (AV.bool b5) [] ∧ R (AV.bool b5) [])
              (∃ n6,
                Good PG nG G0 f_greatseallaw_at [AV.int Go.IntKind.i64 i1, AV.int Go.IntKind.i64 (↑(List.length l0) : Int)] [] (AV.int Go.IntKind.i64 n6) [] ∧
                  ∃ b7 xs8 n9,
                    Good PG nG G0 f_path_Of [AV.sl (1 : Nat) nll0 none l0, AV.int Go.IntKind.i64 n6] [] (AV.tup [AV.sl (2 : Nat) b7 none xs8, AV.int Go.IntKind.i64 n9]) [] ∧
                      ifK (n9 != (0 : Int)) (R (AV.bool false) [])
                        (ifK ((↑(List.length xs8) : Int) == (0 : Int)) (R (AV.bool false) [])
                          (∃ n10,
                            Good PG nG G0 f_greatseallaw_at [AV.int Go.IntKind.i64 k3, AV.int Go.IntKind.i64 (↑(List.length xs8) : Int)] [] (AV.int Go.IntKind.i64 n10) [] ∧
                              ∃ b11 xs12,
                                ifK b11
                                  (Good PG nG G0 f_slices_Clone_Step [AV.sl (2 : Nat) b7 none xs8] [] (AV.sl (2 : Nat) true none []) [] ∧
                                    ∃ b13 xs14,
                                      ifK b13 (Good PG nG G0 f_slices_Clone_Step [AV.sl (2 : Nat) b7 none xs8] [] (AV.sl (2 : Nat) true none []) [] ∧ (0 : Int) ≤ n10 ∧ ∃ b15 s16, none = some [AV.bool b15, AV.str s16] ∧ False)
                                        (Good PG nG G0 f_slices_Clone_Step [AV.sl (2 : Nat) b7 none xs8] [] (AV.rsl (2 : Nat) (0 : Nat) (0 : Nat) (List.length xs14)) [some (Blk.arr (2 : Nat) xs14)] ∧
                                          (0 : Int) ≤ n10 ∧ ∃ b17 s18, none = some [AV.bool b17, AV.str s18] ∧ False))
                                  (Good PG nG G0 f_slices_Clone_Step [AV.sl (2 : Nat) b7 none xs8] [] (AV.rsl (2 : Nat) (0 : Nat) (0 : Nat) (List.length xs12)) [some (Blk.arr (2 : Nat) xs12)] ∧
                                    ∃ b19 xs20,
                                      ifK b19
                                        (Good PG nG G0 f_slices_Clone_Step [AV.sl (2 : Nat) b7 none xs8] [] (AV.sl (2 : Nat) true none []) [] ∧
                                          (0 : Int) ≤ n10 ∧ n10 < (↑(List.length xs12) : Int) ∧ (0 : Int) ≤ n10 ∧ ∃ b21 s22, none = some [AV.bool b21, AV.str s22] ∧ (0 : Int) ≤ n10 ∧ ∃ b23 s24, none = some [AV.bool b23, AV.str s24] ∧ False)
                                        (Good PG nG G0 f_slices_Clone_Step [AV.sl (2 : Nat) b7 none xs8] [] (AV.rsl (2 : Nat) (0 : Nat) (0 : Nat) (List.length xs20)) [some (Blk.arr (2 : Nat) xs20)] ∧
                                          (0 : Int) ≤ n10 ∧
                                            n10 < (↑(List.length xs12) : Int) ∧
                                              (0 : Int) ≤ n10 ∧
                                                n10 < (↑(List.length xs20) : Int) ∧
                                                  ∃ b25,
                                                    (∃ xs26, xs20[(0 : Nat) + Int.toNat n10]? = some xs26 ∧ List.take (1 : Nat) (List.drop (0 : Nat) xs26) = [AV.bool b25]) ∧
                                                      (0 : Int) ≤ n10 ∧
                                                        n10 < (↑(List.length xs20) : Int) ∧
                                                          ∃ b27 b28 xs29 n30 s31,
                                                            Good PG nG G0 f_greatseallaw_PathOnly_c1 [AV.sl (2 : Nat) nlsteps2 none steps2, AV.ref (2 : Nat) (0 : Nat), AV.ref (0 : Nat) (0 : Nat), AV.ref (1 : Nat) (0 : Nat)]
                                                                [some (Blk.var [AV.sl (1 : Nat) nll0 none l0]), some (Blk.var [AV.int Go.IntKind.i64 n6]), some (Blk.var [AV.str s0])] (AV.bool b27)
                                                                [some (Blk.var [AV.sl (1 : Nat) b28 none xs29]), some (Blk.var [AV.int Go.IntKind.i64 n30]), some (Blk.var [AV.str s31])] ∧
                                                              ∃ b32,
                                                                Good PG nG G0 f_slices_Equal_Step [AV.sl (2 : Nat) nlsteps2 none steps2, AV.sl (2 : Nat) b7 none xs8] [] (AV.bool b32) [] ∧
                                                                  ifK (b27 == b32)
                                                                    (∃ b33 b34 xs35 n36 s37,
                                                                      Good PG nG G0 f_greatseallaw_PathOnly_c1
                                                                          [AV.sl (2 : Nat) false none
                                                                              (List.take (List.length xs12)
                                                                                (List.drop (0 : Nat) (List.set xs12 ((0 : Nat) + Int.toNat n10) (setR (List.getD xs12 ((0 : Nat) + Int.toNat n10) []) (1 : Nat) [AV.str s4])))),
                                                                            AV.ref (2 : Nat) (0 : Nat), AV.ref (0 : Nat) (0 : Nat), AV.ref (1 : Nat) (0 : Nat)]
                                                                          [some (Blk.var [AV.sl (1 : Nat) b28 none xs29]), some (Blk.var [AV.int Go.IntKind.i64 n30]), some (Blk.var [AV.str s31])] (AV.bool b33)
                                                                          [some (Blk.var [AV.sl (1 : Nat) b34 none xs35]), some (Blk.var [AV.int Go.IntKind.i64 n36]), some (Blk.var [AV.str s37])] ∧
                                                                        (0 : Int) ≤ n10 ∧
                                                                          ∃ b38 s39,
                                                                            xs8[Int.toNat n10]? = some [AV.bool b38, AV.str s39] ∧
                                                                              ifK (b33 == (s4 == s39))
                                                                                (∃ b40 b41 xs42 n43 s44,
                                                                                  Good PG nG G0 f_greatseallaw_PathOnly_c1
                                                                                      [AV.sl (2 : Nat) false none
                                                                                          (List.take (List.length xs20)
                                                                                            (List.drop (0 : Nat) (List.set xs20 ((0 : Nat) + Int.toNat n10) (setR (List.getD xs20 ((0 : Nat) + Int.toNat n10) []) (0 : Nat) [AV.bool !b25])))),
                                                                                        AV.ref (2 : Nat) (0 : Nat), AV.ref (0 : Nat) (0 : Nat), AV.ref (1 : Nat) (0 : Nat)]
                                                                                      [some (Blk.var [AV.sl (1 : Nat) b34 none xs35]), some (Blk.var [AV.int Go.IntKind.i64 n36]), some (Blk.var [AV.str s37])] (AV.bool b40)
                                                                                      [some (Blk.var [AV.sl (1 : Nat) b41 none xs42]), some (Blk.var [AV.int Go.IntKind.i64 n43]), some (Blk.var [AV.str s44])] ∧
                                                                                    ifK (!b40)
                                                                                      ((0 : Int) ≤ (1 : Int) ∧
                                                                                        (1 : Int) ≤ (↑(List.length xs8) : Int) ∧
                                                                                          (↑(List.length xs8) : Int) ≤ (↑(List.length xs8) : Int) ∧
                                                                                            ∃ b45 b46 xs47 n48 s49,
                                                                                              Good PG nG G0 f_greatseallaw_PathOnly_c1
                                                                                                  [AV.sl (2 : Nat) b7 none (List.drop (1 : Nat) (List.take (Int.toNat (↑(List.length xs8) : Int)) xs8)), AV.ref (2 : Nat) (0 : Nat),
                                                                                                    AV.ref (0 : Nat) (0 : Nat), AV.ref (1 : Nat) (0 : Nat)]
                                                                                                  [some (Blk.var [AV.sl (1 : Nat) b41 none xs42]), some (Blk.var [AV.int Go.IntKind.i64 n43]), some (Blk.var [AV.str s44])] (AV.bool b45)
                                                                                                  [some (Blk.var [AV.sl (1 : Nat) b46 none xs47]), some (Blk.var [AV.int Go.IntKind.i64 n48]), some (Blk.var [AV.str s49])] ∧
                                                                                                ifK (!b45)
                                                                                                  (∃ b50 xs51,
                                                                                                    Good PG nG G0 f_slices_Clone_Step [AV.sl (2 : Nat) b7 none xs8] [] (AV.sl (2 : Nat) b50 (some (0 : Nat)) xs51)
                                                                                                        [some (Blk.grow (2 : Nat) (List.length xs51))] ∧
                                                                                                      (List.length xs51 + List.length [[AV.bool false, AV.str s4]]) * (24 : Nat) ≤ (140737488355328 : Nat) ∧
                                                                                                        List.length xs51 = List.length xs51 ∧
                                                                                                          ∃ b52 b53 xs54 n55 s56,
                                                                                                            Good PG nG G0 f_greatseallaw_PathOnly_c1
                                                                                                                [AV.sl (2 : Nat) (b50 && List.isEmpty [[AV.bool false, AV.str s4]]) none (xs51 ++ [[AV.bool false, AV.str s4]]),
                                                                                                                  AV.ref (2 : Nat) (0 : Nat), AV.ref (0 : Nat) (0 : Nat), AV.ref (1 : Nat) (0 : Nat)]
                                                                                                                [some (Blk.var [AV.sl (1 : Nat) b46 none xs47]), some (Blk.var [AV.int Go.IntKind.i64 n48]), some (Blk.var [AV.str s49])]
                                                                                                                (AV.bool b52)
                                                                                                                [some (Blk.var [AV.sl (1 : Nat) b53 none xs54]), some (Blk.var [AV.int Go.IntKind.i64 n55]), some (Blk.var [AV.str s56])] ∧
                                                                                                              R (AV.bool !b52) [])
                                                                                                  (R (AV.bool false) []))
                                                                                      (R (AV.bool false) []))
                                                                                (R (AV.bool false) []))
                                                                    (R (AV.bool false) []))))))))) :
  Hold (runF PG ty nG G0 an_greatseallaw_PathOnly f_greatseallaw_PathOnly [AV.sl (1 : Nat) nll0 none l0, AV.int Go.IntKind.i64 i1, AV.sl (2 : Nat) nlsteps2 none steps2, AV.int Go.IntKind.i64 k3, AV.str s4] [] R) := kshow h (by kernel_rfl)

theorem greatseallaw_GrowOnly_run (nll0 : Bool) (l0 : List (List AV)) (m1 : Int) (k2 : Int) (s3 : List UInt8) (G0 : Nat → Option Go.Obj) (R : AV → List (Option Blk) → Prop) (h :
  ∃ s0 n1,
  Good PG nG G0 f_tree_Root [AV.sl (1 : Nat) nll0 none l0] [] (AV.tup [AV.str s0, AV.int Go.IntKind.i64 n1]) [] ∧
    ∃ b2,
      Good PG nG G0 f_greatseallaw_grown [] [] (AV.bool b2) [] ∧
        ifK (!b2) (∃ b3, Good PG nG G0 f_greatseallaw_grown [] [] (AV.bool b3) [] ∧ R (AV.bool b3) [])
          (ifK (n1 != (0 : Int)) (∃ b4, Good PG nG G0 f_greatseallaw_grown [] [] (AV.bool b4) [] ∧ R (AV.bool b4) [])
            (ifK ((↑(List.length l0) : Int) == (0 : Int)) (∃ b5, Good PG nG G0 f_greatseallaw_grown [] [] (AV.bool b5) [] ∧ R (AV.bool b5) [])
              (∃ n6,
                Good PG nG G0 f_greatseallaw_at [AV.int Go.IntKind.i64 m1, AV.int Go.IntKind.i64 (↑(List.length l0) : Int)] [] (AV.int Go.IntKind.i64 n6) [] ∧
                  (0 : Int) ≤ (0 : Int) ∧
                    (0 : Int) ≤ Go.IntKind.wrap Go.IntKind.i64 ((1 : Int) + n6) ∧
                      Go.IntKind.wrap Go.IntKind.i64 ((1 : Int) + n6) ≤ (↑(List.length l0) : Int) ∧
                        ∃ s7 n8,
                          Good PG nG G0 f_tree_Root [AV.sl (1 : Nat) nll0 none (List.drop (0 : Nat) (List.take (Int.toNat (Go.IntKind.wrap Go.IntKind.i64 ((1 : Int) + n6))) l0))] [] (AV.tup [AV.str s7, AV.int Go.IntKind.i64 n8]) [] ∧
                            ∃ b9 xs10 n11,
                              Good PG nG G0 f_grow_Of [AV.sl (1 : Nat) nll0 none l0, AV.int Go.IntKind.i64 (Go.IntKind.wrap Go.IntKind.i64 ((1 : Int) + n6))] [] (AV.tup [AV.sl (1 : Nat) b9 none xs10, AV.int Go.IntKind.i64 n11]) [] ∧
                                ifK (n8 != (0 : Int)) (R (AV.bool false) [])
                                  (ifK (n11 != (0 : Int)) (R (AV.bool false) [])
                                    (∃ b12 b13 xs14 n15 s16 s17,
                                      Good PG nG G0 f_greatseallaw_GrowOnly_c1 [AV.sl (1 : Nat) b9 none xs10, AV.ref (3 : Nat) (0 : Nat), AV.ref (1 : Nat) (0 : Nat), AV.ref (2 : Nat) (0 : Nat), AV.ref (0 : Nat) (0 : Nat)]
                                          [some (Blk.var [AV.sl (1 : Nat) nll0 none l0]), some (Blk.var [AV.int Go.IntKind.i64 (Go.IntKind.wrap Go.IntKind.i64 ((1 : Int) + n6))]), some (Blk.var [AV.str s0]), some (Blk.var [AV.str s7])]
                                          (AV.bool b12) [some (Blk.var [AV.sl (1 : Nat) b13 none xs14]), some (Blk.var [AV.int Go.IntKind.i64 n15]), some (Blk.var [AV.str s16]), some (Blk.var [AV.str s17])] ∧
                                        ifK (!b12) (R (AV.bool false) [])
                                          (∃ b18 xs19,
                                            Good PG nG G0 f_slices_Clone_string [AV.sl (1 : Nat) b9 none xs10] [] (AV.sl (1 : Nat) b18 (some (0 : Nat)) xs19) [some (Blk.grow (1 : Nat) (List.length xs19))] ∧
                                              (List.length xs19 + List.length [[AV.str s3]]) * (16 : Nat) ≤ (140737488355328 : Nat) ∧
                                                List.length xs19 = List.length xs19 ∧
                                                  ∃ b20 b21 xs22 n23 s24 s25,
                                                    Good PG nG G0 f_greatseallaw_GrowOnly_c1
                                                        [AV.sl (1 : Nat) (b18 && List.isEmpty [[AV.str s3]]) none (xs19 ++ [[AV.str s3]]), AV.ref (3 : Nat) (0 : Nat), AV.ref (1 : Nat) (0 : Nat), AV.ref (2 : Nat) (0 : Nat),
                                                          AV.ref (0 : Nat) (0 : Nat)]
                                                        [some (Blk.var [AV.sl (1 : Nat) b13 none xs14]), some (Blk.var [AV.int Go.IntKind.i64 n15]), some (Blk.var [AV.str s16]), some (Blk.var [AV.str s17])] (AV.bool b20)
                                                        [some (Blk.var [AV.sl (1 : Nat) b21 none xs22]), some (Blk.var [AV.int Go.IntKind.i64 n23]), some (Blk.var [AV.str s24]), some (Blk.var [AV.str s25])] ∧
                                                      ifK b20 (R (AV.bool false) [])
                                                        (ifK ((↑(List.length xs10) : Int) == (0 : Int)) (R (AV.bool true) [])
                                                          (∃ n26,
                                                            Good PG nG G0 f_greatseallaw_at [AV.int Go.IntKind.i64 k2, AV.int Go.IntKind.i64 (↑(List.length xs10) : Int)] [] (AV.int Go.IntKind.i64 n26) [] ∧
                                                              ∃ b27 xs28,
                                                                ifK b27 (Good PG nG G0 f_slices_Clone_string [AV.sl (1 : Nat) b9 none xs10] [] (AV.sl (1 : Nat) true none []) [] ∧ (0 : Int) ≤ n26 ∧ ∃ s29, none = some [AV.str s29] ∧ False)
                                                                  (Good PG nG G0 f_slices_Clone_string [AV.sl (1 : Nat) b9 none xs10] [] (AV.rsl (1 : Nat) (0 : Nat) (0 : Nat) (List.length xs28)) [some (Blk.arr (1 : Nat) xs28)] ∧
                                                                    (0 : Int) ≤ n26 ∧
                                                                      n26 < (↑(List.length xs28) : Int) ∧
                                                                        ∃ b30 b31 xs32 n33 s34 s35,
                                                                          Good PG nG G0 f_greatseallaw_GrowOnly_c1
                                                                              [AV.sl (1 : Nat) false none
                                                                                  (List.take (List.length xs28)
                                                                                    (List.drop (0 : Nat) (List.set xs28 ((0 : Nat) + Int.toNat n26) (setR (List.getD xs28 ((0 : Nat) + Int.toNat n26) []) (0 : Nat) [AV.str s3])))),
                                                                                AV.ref (3 : Nat) (0 : Nat), AV.ref (1 : Nat) (0 : Nat), AV.ref (2 : Nat) (0 : Nat), AV.ref (0 : Nat) (0 : Nat)]
                                                                              [some (Blk.var [AV.sl (1 : Nat) b21 none xs22]), some (Blk.var [AV.int Go.IntKind.i64 n23]), some (Blk.var [AV.str s24]), some (Blk.var [AV.str s25])]
                                                                              (AV.bool b30)
                                                                              [some (Blk.var [AV.sl (1 : Nat) b31 none xs32]), some (Blk.var [AV.int Go.IntKind.i64 n33]), some (Blk.var [AV.str s34]), some (Blk.var [AV.str s35])] ∧
                                                                            (0 : Int) ≤ n26 ∧
                                                                              ∃ s36,
                                                                                xs10[Int.toNat n26]? = some [AV.str s36] ∧
                                                                                  ifK (b30 == (s3 == s36))
                                                                                    ((0 : Int) ≤ (1 : Int) ∧
                                                                                      (1 : Int) ≤ (↑(List.length xs10) : Int) ∧
                                                                                        (↑(List.length xs10) : Int) ≤ (↑(List.length xs10) : Int) ∧
                                                                                          ∃ b37 b38 xs39 n40 s41 s42,
                                                                                            Good PG nG G0 f_greatseallaw_GrowOnly_c1
                                                                                                [AV.sl (1 : Nat) b9 none (List.drop (1 : Nat) (List.take (Int.toNat (↑(List.length xs10) : Int)) xs10)), AV.ref (3 : Nat) (0 : Nat),
                                                                                                  AV.ref (1 : Nat) (0 : Nat), AV.ref (2 : Nat) (0 : Nat), AV.ref (0 : Nat) (0 : Nat)]
                                                                                                [some (Blk.var [AV.sl (1 : Nat) b31 none xs32]), some (Blk.var [AV.int Go.IntKind.i64 n33]), some (Blk.var [AV.str s34]),
                                                                                                  some (Blk.var [AV.str s35])]
                                                                                                (AV.bool b37)
                                                                                                [some (Blk.var [AV.sl (1 : Nat) b38 none xs39]), some (Blk.var [AV.int Go.IntKind.i64 n40]), some (Blk.var [AV.str s41]),
                                                                                                  some (Blk.var [AV.str s42])] ∧
                                                                                              R (AV.bool !b37) [])
                                                                                    (R (AV.bool false) []))))))))))) :
  Hold (runF PG ty nG G0 an_greatseallaw_GrowOnly f_greatseallaw_GrowOnly [AV.sl (1 : Nat) nll0 none l0, AV.int Go.IntKind.i64 m1, AV.int Go.IntKind.i64 k2, AV.str s3] [] R) := kshow h (by kernel_rfl)

end Go.Ab

namespace Go.Ab
open Go.Proofs Go.Gs
variable {G0 : Nat → Option Obj}

theorem plain_steps (l : List (Bool × By)) : plainXs (l.map S2) := by
  intro x hx y hy
  obtain ⟨s, _, rfl⟩ := List.mem_map.1 hx
  simp [S2] at hy
  rcases hy with rfl | rfl <;> rfl

theorem good_CloneStep (l : List (Bool × By)) (nl : Bool) (hnl : nl = true → l = []) (hl : l.length * 24 ≤ 140737488355328) : Good PG nG G0 f_slices_Clone_Step [.sl 2 nl none (l.map S2)] [] (.sl 2 nl (some 0) (l.map S2)) [some (.grow 2 (l.map S2).length)] := by
  refine good_of_run prOk (by kernel_rfl) (slices_Clone_Step_run nl _ G0 _ ?_)
  simp only [ifK_iff, List.length_map, Nat.zero_add, List.nil_append, Bool.false_and]
  refine ⟨fun h => ?_, fun h => ⟨hl, trivial, ?_⟩⟩
  · have := hnl h
    subst this; subst h
    exact ⟨rfl, rfl⟩
  · subst h; exact ⟨rfl, trivial⟩

theorem good_CloneStep_arr (l : List (Bool × By)) (hl : l.length * 24 ≤ 140737488355328) : Good PG nG G0 f_slices_Clone_Step [.sl 2 false none (l.map S2)] [] (.rsl 2 0 0 (l.map S2).length) [some (.arr 2 (l.map S2))] :=
  Good.thaw (plain_steps l) (good_CloneStep l false (fun h => by cases h) hl)

theorem good_EqualStep2 (a b : List (Bool × By)) (na nb : Bool) (hb : (b.length : Int) ≤ 9223372036854775806) : Good PG nG G0 f_slices_Equal_Step [.sl 2 na none (a.map S2), .sl 2 nb none (b.map S2)] [] (.bool (decide (a = b))) [] := by
  refine good_of_run prOk (by kernel_rfl) (slices_Equal_Step_run na _ nb _ G0 _ ?_)
  simp only [ifK_iff, bne_iff_ne, ne_eq, List.length_map, bne_eq_false_iff_eq]
  refine ⟨fun h => ⟨?_, trivial⟩, fun h => ?_⟩
  · have : a ≠ b := by rintro rfl; exact h rfl
    simp [this]
  · refine eq_gen (D := fun i : Nat => Does PG nG G0 (fnOf PG f_slices_Equal_Step) 0 (lp PG f_slices_Equal_Step 0) (mkT 26 [(0, .sl 2 na none (a.map S2)), (1, .sl 2 nb none (b.map S2)), (12, .int .i64 a.length), (13, .int .i64 i)]) [] fun r' H'' => r' = .bool (decide (a = b)) ∧ H'' = [])
      (Q := fun c => c = decide (a = b)) a b (by omega) (fun i hi h1 h2 => ?_) (fun h1 => ?_) rfl
    · refine does_of_run prOk (slices_Equal_Step_l0_run G0 na _ nb _ _ _ _ ?_)
      simp only [ifK_iff, decide_eq_true_eq, decide_eq_false_iff_not, Int.toNat_natCast]
      rw [wrapI (by omega) (by omega)]
      refine ⟨fun _ => ⟨by omega, _, _, getX hi, by omega, _, _, getX (by omega), fun h4 => ?_, fun h4 => ?_⟩, fun h => by omega⟩
      · rw [eqAll_S2] at h4
        exact ⟨by rw [← h1 (by simpa using h4)], trivial⟩
      · rw [eqAll_S2] at h4
        exact h2 (by simpa using h4)
    · refine does_of_run prOk (slices_Equal_Step_l0_run G0 na _ nb _ _ _ _ ?_)
      simp only [ifK_iff, decide_eq_true_eq, decide_eq_false_iff_not]
      exact ⟨fun h => by omega, fun _ => ⟨by rw [← h1], trivial⟩⟩

def pathH (nl : Bool) (l : List By) (i : Int) (root : By) : List (Option Blk) := [some (.var [.sl 1 nl none (l.map S1)]), some (.var [.int .i64 i]), some (.var [.str root])]

theorem good_PathOnly1 (hG : GlobOk G0) (l : List By) (nl : Bool) (hl : l.length ≤ 24) (hr : (tRoot l).2 = 0) (i : Nat) (hi : i < l.length) (nx : Bool) (st : List (Bool × By)) :
    Good PG nG G0 f_greatseallaw_PathOnly_c1 [.sl 2 nx none (st.map S2), .ref 2 0, .ref 0 0, .ref 1 0] (pathH nl l i (tRoot l).1) (.bool (decide (st = pathOf l i))) (pathH nl l i (tRoot l).1) := by
  refine good_of_run prOk (by kernel_rfl) (greatseallaw_PathOnly_c1_run nx _ _ nl _ i G0 _ ?_)
  rw [List.length_map]
  refine ⟨by omega, _, by rw [Int.toNat_natCast]; exact getX hi, _, good_pathShows hG _ _ _ _ _ _, ?_, rfl⟩
  have iff := pathShows_iff hl hr hi l[i] st
  congr 1
  by_cases h : st = pathOf l i
  · rw [iff.2 ⟨rfl, h⟩, decide_eq_true h]; rfl
  · rw [decide_eq_false h, beq_eq_false_iff_ne]
    exact fun e => h (iff.1 e).2

theorem pathOf_ne {l : List By} {i : Nat} (h : 2 ≤ l.length) : pathOf l i ≠ [] := by
  rw [pathOf_two h]
  split <;> simp

theorem good_PathOnly (hG : GlobOk G0) (l : List By) (nl : Bool) (i : Int) (hi : -9223372036854775808 ≤ i ∧ i ≤ 9223372036854775807) (st : List (Bool × By)) (ns : Bool) (k : Int) (hk : -9223372036854775808 ≤ k ∧ k ≤ 9223372036854775807) (s : By) :
    Good PG nG G0 f_greatseallaw_PathOnly [.sl 1 nl none (l.map S1), .int .i64 i, .sl 2 ns none (st.map S2), .int .i64 k, .str s] [] (.bool true) [] := by
  suffices main : ∀ R : AV → List (Option Blk) → Prop, R (.bool true) [] → Hold (runF PG ty nG G0 an_greatseallaw_PathOnly f_greatseallaw_PathOnly [.sl 1 nl none (l.map S1), .int .i64 i, .sl 2 ns none (st.map S2), .int .i64 k, .str s] [] R) from
    good_of_run prOk (by kernel_rfl) (main _ ⟨rfl, rfl⟩)
  intro R hR
  have gp := good_pathed (G0 := G0) hG
  refine greatseallaw_PathOnly_run nl _ i ns _ k s G0 R ⟨_, _, good_Root' hG l nl, _, gp, ?_⟩
  rw [Bool.not_true, ifF, List.length_map, ifK_iff]
  refine ⟨fun _ => ⟨_, gp, hR⟩, fun h0 => ?_⟩
  have h0 : (rootOf l).2 = 0 := by simpa using h0
  obtain ⟨a, b⟩ := rootOf_ok' h0
  have hr : (tRoot l).2 = 0 := by rw [← b]; exact h0
  rw [ifK_iff]
  refine ⟨fun _ => ⟨_, gp, hR⟩, fun h2 => ?_⟩
  have h2 : 2 ≤ l.length := by
    have : ¬ (l.length : Int) < 2 := by simpa using h2
    omega
  have hat := atN_lt i (n := l.length) (by omega)
  refine ⟨_, good_atN i l.length (by omega) (by omega) hi, ?_⟩
  generalize atN i l.length = j at hat
  have gpo := good_pathOf (G0 := G0) hG l nl j
  rw [pathR_ok h0 hat] at gpo
  have hne := pathOf_ne (i := j) h2
  have hlen := pathOf_len l j
  obtain ⟨p, hp⟩ : ∃ p, p = pathOf l j := ⟨_, rfl⟩
  have only := fun nx x => good_PathOnly1 (G0 := G0) hG l nl a hr j hat nx x
  rw [← hp] at gpo hne hlen only
  have hpos : 0 < p.length := List.length_pos_iff.2 hne
  have hemp : p.isEmpty = false := by cases p with
    | nil => exact absurd rfl hne
    | cons _ _ => rfl
  refine ⟨_, _, _, gpo, ?_⟩
  rw [hemp, b]
  have hz : (((p.map S2).length : Int) == 0) = false := by
    rw [List.length_map, beq_eq_false_iff_ne]
    omega
  simp only [bne_self_eq_false, ifF, hz]
  have hkt := atN_lt k (n := p.length) hpos
  have gk := good_atN (G0 := G0) k p.length hpos (by omega) hk
  rw [List.length_map]
  refine ⟨_, gk, ?_⟩
  generalize atN k p.length = q at hkt
  have ga := good_CloneStep_arr (G0 := G0) p (by omega)
  have ga2 := ga
  rw [List.length_map] at ga2
  have gx : (p.map S2)[(q : Nat)]? = some (S2 p[q]) := getX hkt
  have gd : (p.map S2).getD q [] = S2 p[q] := by rw [List.getD_eq_getElem?_getD, gx]; rfl
  refine ⟨false, p.map S2, ?_⟩
  rw [ifF]
  refine ⟨ga, false, p.map S2, ?_⟩
  rw [ifF]
  simp only [Int.toNat_natCast, Nat.zero_add, List.length_map, List.drop_zero]
  refine ⟨ga2, by omega, by omega, by omega, by omega, p[q].1, ⟨_, gx, rfl⟩, by omega, by omega, _, _, _, _, _, only ns st, ?_⟩
  have gq := good_EqualStep2 (G0 := G0) st p ns false (by omega)
  refine ⟨_, gq, ?_⟩
  rw [beq_self_eq_true, ifT, gd]
  have s1 : setR (S2 p[q]) 1 [.str s] = S2 (p[q].1, s) := rfl
  have s2 : setR (S2 p[q]) 0 [.bool !p[q].1] = S2 (!p[q].1, p[q].2) := rfl
  have m1 : List.take p.length ((p.map S2).set q (S2 (p[q].1, s))) = (p.set q (p[q].1, s)).map S2 := by
    rw [List.map_set, List.take_of_length_le (by simp)]
  have m2 : List.take p.length ((p.map S2).set q (S2 (!p[q].1, p[q].2))) = (p.set q (!p[q].1, p[q].2)).map S2 := by
    rw [List.map_set, List.take_of_length_le (by simp)]
  rw [s1, s2, m1, m2]
  refine ⟨_, _, _, _, _, only false _, by omega, _, _, gx, ?_⟩
  have d1 : decide (p.set q (p[q].1, s) = p) = (s == p[q].2) := by
    by_cases h : s = p[q].2
    · have : p.set q (p[q].1, s) = p := by rw [h]; exact List.set_getElem_self hkt
      rw [decide_eq_true this, h]; simp
    · have : ¬ p.set q (p[q].1, s) = p := fun e => by
        have := congrArg (fun x => x[q]?) e
        simp only [List.getElem?_set_self hkt, List.getElem?_eq_getElem hkt, Option.some.injEq] at this
        exact h (congrArg Prod.snd this)
      rw [decide_eq_false this]
      exact (by simpa using h)
  rw [d1, beq_self_eq_true, ifT]
  refine ⟨_, _, _, _, _, only false _, ?_⟩
  have d2 : decide (p.set q (!p[q].1, p[q].2) = p) = false := decide_eq_false fun e => by
    have := congrArg (fun x => x[q]?) e
    simp only [List.getElem?_set_self hkt, List.getElem?_eq_getElem hkt, Option.some.injEq] at this
    have := congrArg Prod.fst this
    simp at this
  rw [d2, Bool.not_false, ifT]
  have m3 : List.drop 1 (List.take p.length (p.map S2)) = (p.drop 1).map S2 := by rw [List.take_of_length_le (by simp), List.map_drop]
  rw [m3]
  refine ⟨by omega, by omega, by omega, _, _, _, _, _, only false _, ?_⟩
  have d3 : decide (p.drop 1 = p) = false := decide_eq_false fun e => by
    have := congrArg List.length e
    rw [List.length_drop] at this
    omega
  rw [d3, Bool.not_false, ifT]
  have gc := good_CloneStep (G0 := G0) p false (fun h => by cases h) (by omega)
  rw [List.length_map] at gc
  have e0 : [[AV.bool false, AV.str s]] = [(false, s)].map S2 := rfl
  refine ⟨_, _, by rw [List.length_map]; exact gc, by simp only [List.length_map, List.length_cons, List.length_nil]; omega, trivial, ?_⟩
  rw [e0, ← List.map_append]
  refine ⟨_, _, _, _, _, only _ _, ?_⟩
  have d4 : decide (p ++ [(false, s)] = p) = false := decide_eq_false fun e => by
    have := congrArg List.length e
    simp at this
  rw [d4]
  exact hR
end Go.Ab

namespace Go.Ab
open Go.Proofs Go.Gs
variable {G0 : Nat → Option Obj}

def growH (nl : Bool) (l : List By) (m : Int) (root old : By) : List (Option Blk) := [some (.var [.sl 1 nl none (l.map S1)]), some (.var [.int .i64 m]), some (.var [.str root]), some (.var [.str old])]

theorem good_GrowOnly1 (hG : GlobOk G0) (l : List By) (nl : Bool) (hl : l.length ≤ 24) (hr : (tRoot l).2 = 0) (m : Nat) (h1 : 1 ≤ m) (hm : m ≤ l.length) (nx : Bool) (x : List By) (hx : x.length ≤ 1000000000000000000) :
    Good PG nG G0 f_greatseallaw_GrowOnly_c1 [.sl 1 nx none (x.map S1), .ref 3 0, .ref 1 0, .ref 2 0, .ref 0 0] (growH nl l m (tRoot l).1 (tRoot (l.take m)).1) (.bool (decide (x = growOf l m true))) (growH nl l m (tRoot l).1 (tRoot (l.take m)).1) := by
  refine good_of_run prOk (by kernel_rfl) (greatseallaw_GrowOnly_c1_run nx _ _ m _ nl _ G0 _ ?_)
  rw [List.length_map]
  refine ⟨_, good_growShows hG _ _ _ _ _ _ hx, ?_, rfl⟩
  have iff := growShows_iff hl hr h1 hm (tRoot (l.take m)).1 x
  congr 1
  by_cases h : x = growOf l m true
  · rw [iff.2 ⟨rfl, h⟩, decide_eq_true h]; rfl
  · rw [decide_eq_false h, beq_eq_false_iff_ne]
    exact fun e => h (iff.1 e).2

theorem good_GrowOnly (hG : GlobOk G0) (l : List By) (nl : Bool) (m : Int) (hm : -9223372036854775808 ≤ m ∧ m ≤ 9223372036854775807) (k : Int) (hk : -9223372036854775808 ≤ k ∧ k ≤ 9223372036854775807) (s : By) :
    Good PG nG G0 f_greatseallaw_GrowOnly [.sl 1 nl none (l.map S1), .int .i64 m, .int .i64 k, .str s] [] (.bool true) [] := by
  suffices main : ∀ R : AV → List (Option Blk) → Prop, R (.bool true) [] → Hold (runF PG ty nG G0 an_greatseallaw_GrowOnly f_greatseallaw_GrowOnly [.sl 1 nl none (l.map S1), .int .i64 m, .int .i64 k, .str s] [] R) from
    good_of_run prOk (by kernel_rfl) (main _ ⟨rfl, rfl⟩)
  intro R hR
  have gp := good_grown (G0 := G0) hG
  refine greatseallaw_GrowOnly_run nl _ m k s G0 R ⟨_, _, good_Root' hG l nl, _, gp, ?_⟩
  rw [Bool.not_true, ifF, List.length_map, ifK_iff]
  refine ⟨fun _ => ⟨_, gp, hR⟩, fun h0 => ?_⟩
  have h0 : (rootOf l).2 = 0 := by simpa using h0
  obtain ⟨a, b⟩ := rootOf_ok' h0
  have hr : (tRoot l).2 = 0 := by rw [← b]; exact h0
  rw [ifK_iff]
  refine ⟨fun _ => ⟨_, gp, hR⟩, fun h2 => ?_⟩
  have h2 : l.length ≠ 0 := by
    intro e
    rw [e] at h2
    simp at h2
  have hat := atN_lt m (n := l.length) (by omega)
  have gat := good_atN (G0 := G0) m l.length (by omega) (by omega) hm
  have hw := at1 m (n := l.length) (by omega) (by omega)
  refine ⟨_, gat, ?_⟩
  rw [hw]
  generalize atN m l.length = j at hat
  rw [Int.toNat_natCast, take_S1]
  have hbg := tRoot_begin _ l (j + 1) (Nat.le_refl _) a hr (by omega) (by omega)
  have htk : (l.take (j + 1)).length = j + 1 := by simp only [List.length_take]; omega
  have g1 := good_Root' (G0 := G0) hG (l.take (j + 1)) nl
  rw [show rootOf (l.take (j + 1)) = tRoot (l.take (j + 1)) by rw [rootOf, if_neg (by omega)], hbg.1] at g1
  have g2 := good_growOf (G0 := G0) hG l nl ((j + 1 : Nat) : Int)
  rw [growR_ok h0 (by omega) (by omega)] at g2
  have hlen := growOf_len _ l (j + 1) true (Nat.le_refl _)
  obtain ⟨p, hp⟩ : ∃ p, p = growOf l (j + 1) true := ⟨_, rfl⟩
  have only := fun nx x => good_GrowOnly1 (G0 := G0) hG l nl a hr (j + 1) (by omega) (by omega) nx x
  rw [← hp] at g2 hlen only
  refine ⟨Int.le_refl _, by omega, by omega, _, _, g1, _, _, _, g2, ?_⟩
  rw [b]
  simp only [bne_self_eq_false, ifF]
  refine ⟨_, _, _, _, _, _, only _ p (by omega), ?_⟩
  rw [decide_eq_true rfl, Bool.not_true, ifF]
  have gc := good_Clone (G0 := G0) p p.isEmpty (fun h => by simpa using h) (by omega)
  have gc2 := gc
  rw [← List.length_map (f := S1)] at gc2
  refine ⟨_, _, gc2, by simp only [List.length_map, List.length_cons, List.length_nil]; omega, trivial, ?_⟩
  have e0 : [[AV.str s]] = [s].map S1 := rfl
  rw [e0, ← List.map_append]
  refine ⟨_, _, _, _, _, _, only _ _ (by simp only [List.length_append, List.length_cons, List.length_nil]; omega), ?_⟩
  have d4 : decide (p ++ [s] = p) = false := decide_eq_false fun e => by
    have := congrArg List.length e
    simp at this
  rw [d4, ifF, List.length_map, ifK_iff]
  refine ⟨fun _ => hR, fun h3 => ?_⟩
  have hpos : 0 < p.length := by
    rcases Nat.eq_zero_or_pos p.length with e | e
    · rw [e] at h3; simp at h3
    · exact e
  have hemp : p.isEmpty = false := by cases p with
    | nil => simp at hpos
    | cons _ _ => rfl
  have hkt := atN_lt k (n := p.length) hpos
  have gk := good_atN (G0 := G0) k p.length hpos (by omega) hk
  refine ⟨_, gk, ?_⟩
  generalize atN k p.length = q at hkt
  have ga := good_Clone_arr (G0 := G0) p (by omega)
  have gx : (p.map S1)[(q : Nat)]? = some (S1 p[q]) := getX hkt
  have gd : (p.map S1).getD q [] = S1 p[q] := by rw [List.getD_eq_getElem?_getD, gx]; rfl
  rw [hemp]
  refine ⟨false, p.map S1, ?_⟩
  rw [ifF]
  simp only [Int.toNat_natCast, Nat.zero_add, List.drop_zero]
  rw [gd]
  have s1 : setR (S1 p[q]) 0 [.str s] = S1 s := rfl
  have m1 : List.take (p.map S1).length ((p.map S1).set q (S1 s)) = (p.set q s).map S1 := by
    rw [List.map_set, List.take_of_length_le (by simp)]
  rw [s1, m1]
  refine ⟨ga, by omega, by rw [List.length_map]; omega, _, _, _, _, _, _, only false _ (by rw [List.length_set]; omega), by omega, _, gx, ?_⟩
  have d1 : decide (p.set q s = p) = (s == p[q]) := by
    by_cases h : s = p[q]
    · have : p.set q s = p := by rw [h]; exact List.set_getElem_self hkt
      rw [decide_eq_true this, h]; simp
    · have : ¬ p.set q s = p := fun e => by
        have := congrArg (fun x => x[q]?) e
        simp only [List.getElem?_set_self hkt, List.getElem?_eq_getElem hkt, Option.some.injEq] at this
        exact h this
      rw [decide_eq_false this]
      exact (by simpa using h)
  rw [d1, beq_self_eq_true, ifT]
  have m3 : List.drop 1 (List.take p.length (p.map S1)) = (p.drop 1).map S1 := by rw [List.take_of_length_le (by simp), List.map_drop]
  rw [m3]
  refine ⟨by omega, by omega, by omega, _, _, _, _, _, _, only false _ (by rw [List.length_drop]; omega), ?_⟩
  have d3 : decide (p.drop 1 = p) = false := decide_eq_false fun e => by
    have := congrArg List.length e
    rw [List.length_drop] at this
    omega
  rw [d3]
  exact hR
end Go.Ab

namespace Go.Ab
open Go.Proofs
set_option maxRecDepth 100000

def an_strings_HasPrefix : FAnn := ⟨[], [], none, []⟩
def an_internal_stringslite_HasPrefix : FAnn := ⟨[], [], none, []⟩
def an_strings_HasSuffix : FAnn := ⟨[], [], none, []⟩
def an_internal_stringslite_HasSuffix : FAnn := ⟨[], [], none, []⟩
def an_seal_Open : FAnn := ⟨[], [], none, []⟩
def an_internal_stringslite_Cut : FAnn := ⟨[], [], none, []⟩
def an_strings_Cut : FAnn := ⟨[], [], none, []⟩
def an_seal_Split : FAnn := ⟨[], [], none, []⟩
def an_greatsealref_SplitOf : FAnn := ⟨[], [], none, []⟩
def an_note_Print : FAnn := ⟨[], [], none, []⟩
def an_greatsealref_HeadText : FAnn := ⟨[], [], none, []⟩

theorem strings_HasPrefix_run (s0 : List UInt8) (prefix1 : List UInt8) (G0 : Nat → Option Go.Obj) (R : AV → List (Option Blk) → Prop) (h :
  ∃ b0, Good PG nG G0 f_internal_stringslite_HasPrefix [AV.str s0, AV.str prefix1] [] (AV.bool b0) [] ∧ R (AV.bool b0) []) :
  Hold (runF PG ty nG G0 an_strings_HasPrefix f_strings_HasPrefix [AV.str s0, AV.str prefix1] [] R) := kshow h (by kernel_rfl)

theorem internal_stringslite_HasPrefix_run (s0 : List UInt8) (prefix1 : List UInt8) (G0 : Nat → Option Go.Obj) (R : AV → List (Option Blk) → Prop) (h :
  ifK (decide ((↑(List.length s0) : Int) ≥ (↑(List.length prefix1) : Int)))
  ((0 : Int) ≤ (0 : Int) ∧ (0 : Int) ≤ (↑(List.length prefix1) : Int) ∧ (↑(List.length prefix1) : Int) ≤ (↑(List.length s0) : Int) ∧ R (AV.bool (List.drop (0 : Nat) (List.take (Int.toNat (↑(List.length prefix1) : Int)) s0) == prefix1)) [])
  (R (AV.bool false) [])) :
  Hold (runF PG ty nG G0 an_internal_stringslite_HasPrefix f_internal_stringslite_HasPrefix [AV.str s0, AV.str prefix1] [] R) := kshow h (by kernel_rfl)

theorem strings_HasSuffix_run (s0 : List UInt8) (suffix1 : List UInt8) (G0 : Nat → Option Go.Obj) (R : AV → List (Option Blk) → Prop) (h :
  ∃ b0, Good PG nG G0 f_internal_stringslite_HasSuffix [AV.str s0, AV.str suffix1] [] (AV.bool b0) [] ∧ R (AV.bool b0) []) :
  Hold (runF PG ty nG G0 an_strings_HasSuffix f_strings_HasSuffix [AV.str s0, AV.str suffix1] [] R) := kshow h (by kernel_rfl)

theorem internal_stringslite_HasSuffix_run (s0 : List UInt8) (suffix1 : List UInt8) (G0 : Nat → Option Go.Obj) (R : AV → List (Option Blk) → Prop) (h :
  ifK (decide ((↑(List.length s0) : Int) ≥ (↑(List.length suffix1) : Int)))
  ((0 : Int) ≤ Go.IntKind.wrap Go.IntKind.i64 ((↑(List.length s0) : Int) - (↑(List.length suffix1) : Int)) ∧
    Go.IntKind.wrap Go.IntKind.i64 ((↑(List.length s0) : Int) - (↑(List.length suffix1) : Int)) ≤ (↑(List.length s0) : Int) ∧
      (↑(List.length s0) : Int) ≤ (↑(List.length s0) : Int) ∧
        R (AV.bool (List.drop (Int.toNat (Go.IntKind.wrap Go.IntKind.i64 ((↑(List.length s0) : Int) - (↑(List.length suffix1) : Int)))) (List.take (Int.toNat (↑(List.length s0) : Int)) s0) == suffix1)) [])
  (R (AV.bool false) [])) :
  Hold (runF PG ty nG G0 an_internal_stringslite_HasSuffix f_internal_stringslite_HasSuffix [AV.str s0, AV.str suffix1] [] R) := kshow h (by kernel_rfl)

theorem seal_Open_run (s0 : List UInt8) (G0 : Nat → Option Go.Obj) (R : AV → List (Option Blk) → Prop) (h :
  ∃ b0,
  Good PG nG G0 f_strings_HasPrefix [AV.str s0, AV.str [(76 : UInt8)]] [] (AV.bool b0) [] ∧
    ifK (!b0) (R (AV.tup [AV.str [], AV.int Go.IntKind.i64 (4 : Int)]) [])
      ((0 : Int) ≤ (1 : Int) ∧
        (1 : Int) ≤ (↑(List.length s0) : Int) ∧ (↑(List.length s0) : Int) ≤ (↑(List.length s0) : Int) ∧ R (AV.tup [AV.str (List.drop (1 : Nat) (List.take (Int.toNat (↑(List.length s0) : Int)) s0)), AV.int Go.IntKind.i64 (0 : Int)]) [])) :
  Hold (runF PG ty nG G0 an_seal_Open f_seal_Open [AV.str s0] [] R) := kshow h (by kernel_rfl)

theorem internal_stringslite_Cut_run (s0 : List UInt8) (sep1 : List UInt8) (G0 : Nat → Option Go.Obj) (R : AV → List (Option Blk) → Prop) (h :
  ∃ n0,
  Good PG nG G0 f_internal_stringslite_Index [AV.str s0, AV.str sep1] [] (AV.int Go.IntKind.i64 n0) [] ∧
    ifK (decide (n0 ≥ (0 : Int)))
      ((0 : Int) ≤ (0 : Int) ∧
        (0 : Int) ≤ n0 ∧
          n0 ≤ (↑(List.length s0) : Int) ∧
            (0 : Int) ≤ Go.IntKind.wrap Go.IntKind.i64 (n0 + (↑(List.length sep1) : Int)) ∧
              Go.IntKind.wrap Go.IntKind.i64 (n0 + (↑(List.length sep1) : Int)) ≤ (↑(List.length s0) : Int) ∧
                (↑(List.length s0) : Int) ≤ (↑(List.length s0) : Int) ∧
                  R
                    (AV.tup
                      [AV.str (List.drop (0 : Nat) (List.take (Int.toNat n0) s0)), AV.str (List.drop (Int.toNat (Go.IntKind.wrap Go.IntKind.i64 (n0 + (↑(List.length sep1) : Int)))) (List.take (Int.toNat (↑(List.length s0) : Int)) s0)),
                        AV.bool true])
                    [])
      (R (AV.tup [AV.str s0, AV.str [], AV.bool false]) [])) :
  Hold (runF PG ty nG G0 an_internal_stringslite_Cut f_internal_stringslite_Cut [AV.str s0, AV.str sep1] [] R) := kshow h (by kernel_rfl)

theorem strings_Cut_run (s0 : List UInt8) (sep1 : List UInt8) (G0 : Nat → Option Go.Obj) (R : AV → List (Option Blk) → Prop) (h :
  ∃ s0_1 s1 b2, Good PG nG G0 f_internal_stringslite_Cut [AV.str s0, AV.str sep1] [] (AV.tup [AV.str s0_1, AV.str s1, AV.bool b2]) [] ∧ R (AV.tup [AV.str s0_1, AV.str s1, AV.bool b2]) []) :
  Hold (runF PG ty nG G0 an_strings_Cut f_strings_Cut [AV.str s0, AV.str sep1] [] R) := kshow h (by kernel_rfl)

theorem seal_Split_run (s0 : List UInt8) (G0 : Nat → Option Go.Obj) (R : AV → List (Option Blk) → Prop) (h :
  ∃ s0_1 s1 b2,
  Good PG nG G0 f_strings_Cut [AV.str s0, AV.str [(58 : UInt8)]] [] (AV.tup [AV.str s0_1, AV.str s1, AV.bool b2]) [] ∧
    ifK (!b2) (R (AV.tup [AV.str [], AV.str [], AV.int Go.IntKind.i64 (4 : Int)]) [])
      (∃ b3,
        Good PG nG G0 f_strings_HasPrefix [AV.str s0_1, AV.str [(78 : UInt8)]] [] (AV.bool b3) [] ∧
          ifK (!b3) (R (AV.tup [AV.str [], AV.str [], AV.int Go.IntKind.i64 (4 : Int)]) [])
            ((0 : Int) ≤ (1 : Int) ∧
              (1 : Int) ≤ (↑(List.length s0_1) : Int) ∧
                (↑(List.length s0_1) : Int) ≤ (↑(List.length s0_1) : Int) ∧
                  ∃ n4 b5,
                    ifK b5
                      (Good PG nG G0 f_strconv_Atoi [AV.str (List.drop (1 : Nat) (List.take (Int.toNat (↑(List.length s0_1) : Int)) s0_1))] [] (AV.tup [AV.int Go.IntKind.i64 n4, AV.iface]) [] ∧
                        R (AV.tup [AV.str [], AV.str [], AV.int Go.IntKind.i64 (4 : Int)]) [])
                      (Good PG nG G0 f_strconv_Atoi [AV.str (List.drop (1 : Nat) (List.take (Int.toNat (↑(List.length s0_1) : Int)) s0_1))] [] (AV.tup [AV.int Go.IntKind.i64 n4, AV.nilIface]) [] ∧
                        ∃ s6,
                          Good PG nG G0 f_strconv_Itoa [AV.int Go.IntKind.i64 n4] [] (AV.str s6) [] ∧
                            (0 : Int) ≤ (1 : Int) ∧
                              (1 : Int) ≤ (↑(List.length s0_1) : Int) ∧
                                (↑(List.length s0_1) : Int) ≤ (↑(List.length s0_1) : Int) ∧
                                  ifK (!s6 == List.drop (1 : Nat) (List.take (Int.toNat (↑(List.length s0_1) : Int)) s0_1)) (R (AV.tup [AV.str [], AV.str [], AV.int Go.IntKind.i64 (4 : Int)]) [])
                                    (ifK (decide (n4 < (0 : Int))) (R (AV.tup [AV.str [], AV.str [], AV.int Go.IntKind.i64 (4 : Int)]) [])
                                      (ifK (decide (n4 > (↑(List.length s1) : Int))) (R (AV.tup [AV.str [], AV.str [], AV.int Go.IntKind.i64 (4 : Int)]) [])
                                        ((0 : Int) ≤ (0 : Int) ∧
                                          (0 : Int) ≤ n4 ∧
                                            n4 ≤ (↑(List.length s1) : Int) ∧
                                              (0 : Int) ≤ n4 ∧
                                                n4 ≤ (↑(List.length s1) : Int) ∧
                                                  (↑(List.length s1) : Int) ≤ (↑(List.length s1) : Int) ∧
                                                    R
                                                      (AV.tup
                                                        [AV.str (List.drop (0 : Nat) (List.take (Int.toNat n4) s1)), AV.str (List.drop (Int.toNat n4) (List.take (Int.toNat (↑(List.length s1) : Int)) s1)), AV.int Go.IntKind.i64 (0 : Int)])
                                                      []))))))) :
  Hold (runF PG ty nG G0 an_seal_Split f_seal_Split [AV.str s0] [] R) := kshow h (by kernel_rfl)

theorem greatsealref_SplitOf_run (s0 : List UInt8) (G0 : Nat → Option Go.Obj) (R : AV → List (Option Blk) → Prop) (h :
  ∃ n0,
  Good PG nG G0 f_strings_IndexByte [AV.str s0, AV.int Go.IntKind.u8 (58 : Int)] [] (AV.int Go.IntKind.i64 n0) [] ∧
    ifK (decide (n0 < (0 : Int))) (R (AV.tup [AV.str [], AV.str [], AV.int Go.IntKind.i64 (4 : Int)]) [])
      (∃ b1,
        Good PG nG G0 f_strings_HasPrefix [AV.str s0, AV.str [(78 : UInt8)]] [] (AV.bool b1) [] ∧
          ifK (!b1) (R (AV.tup [AV.str [], AV.str [], AV.int Go.IntKind.i64 (4 : Int)]) [])
            ((0 : Int) ≤ Go.IntKind.wrap Go.IntKind.i64 (n0 + (1 : Int)) ∧
              Go.IntKind.wrap Go.IntKind.i64 (n0 + (1 : Int)) ≤ (↑(List.length s0) : Int) ∧
                (↑(List.length s0) : Int) ≤ (↑(List.length s0) : Int) ∧
                  (0 : Int) ≤ (1 : Int) ∧
                    (1 : Int) ≤ n0 ∧
                      n0 ≤ (↑(List.length s0) : Int) ∧
                        ∃ n2 b3,
                          ifK b3
                            (Good PG nG G0 f_strconv_ParseInt [AV.str (List.drop (1 : Nat) (List.take (Int.toNat n0) s0)), AV.int Go.IntKind.i64 (10 : Int), AV.int Go.IntKind.i64 (64 : Int)] [] (AV.tup [AV.int Go.IntKind.i64 n2, AV.iface])
                                [] ∧
                              R (AV.tup [AV.str [], AV.str [], AV.int Go.IntKind.i64 (4 : Int)]) [])
                            (Good PG nG G0 f_strconv_ParseInt [AV.str (List.drop (1 : Nat) (List.take (Int.toNat n0) s0)), AV.int Go.IntKind.i64 (10 : Int), AV.int Go.IntKind.i64 (64 : Int)] []
                                (AV.tup [AV.int Go.IntKind.i64 n2, AV.nilIface]) [] ∧
                              ∃ s4,
                                Good PG nG G0 f_strconv_FormatInt [AV.int Go.IntKind.i64 n2, AV.int Go.IntKind.i64 (10 : Int)] [] (AV.str s4) [] ∧
                                  (0 : Int) ≤ (1 : Int) ∧
                                    (1 : Int) ≤ n0 ∧
                                      n0 ≤ (↑(List.length s0) : Int) ∧
                                        ifK (!s4 == List.drop (1 : Nat) (List.take (Int.toNat n0) s0)) (R (AV.tup [AV.str [], AV.str [], AV.int Go.IntKind.i64 (4 : Int)]) [])
                                          (ifK (decide (n2 < (0 : Int))) (R (AV.tup [AV.str [], AV.str [], AV.int Go.IntKind.i64 (4 : Int)]) [])
                                            (ifK (decide (n2 > (↑(List.length (List.drop (Int.toNat (Go.IntKind.wrap Go.IntKind.i64 (n0 + (1 : Int)))) (List.take (Int.toNat (↑(List.length s0) : Int)) s0))) : Int)))
                                              (R (AV.tup [AV.str [], AV.str [], AV.int Go.IntKind.i64 (4 : Int)]) [])
                                              ((0 : Int) ≤ (0 : Int) ∧
                                                (0 : Int) ≤ n2 ∧
                                                  n2 ≤ (↑(List.length (List.drop (Int.toNat (Go.IntKind.wrap Go.IntKind.i64 (n0 + (1 : Int)))) (List.take (Int.toNat (↑(List.length s0) : Int)) s0))) : Int) ∧
                                                    (0 : Int) ≤ n2 ∧
                                                      n2 ≤ (↑(List.length (List.drop (Int.toNat (Go.IntKind.wrap Go.IntKind.i64 (n0 + (1 : Int)))) (List.take (Int.toNat (↑(List.length s0) : Int)) s0))) : Int) ∧
                                                        (↑(List.length (List.drop (Int.toNat (Go.IntKind.wrap Go.IntKind.i64 (n0 + (1 : Int)))) (List.take (Int.toNat (↑(List.length s0) : Int)) s0))) : Int) ≤
                                                            (↑(List.length (List.drop (Int.toNat (Go.IntKind.wrap Go.IntKind.i64 (n0 + (1 : Int)))) (List.take (Int.toNat (↑(List.length s0) : Int)) s0))) : Int) ∧
                                                          R
                                                            (AV.tup
                                                              [AV.str
                                                                  (List.drop (0 : Nat)
                                                                    (List.take (Int.toNat n2) (List.drop (Int.toNat (Go.IntKind.wrap Go.IntKind.i64 (n0 + (1 : Int)))) (List.take (Int.toNat (↑(List.length s0) : Int)) s0)))),
                                                                AV.str
                                                                  (List.drop (Int.toNat n2)
                                                                    (List.take (Int.toNat (↑(List.length (List.drop (Int.toNat (Go.IntKind.wrap Go.IntKind.i64 (n0 + (1 : Int)))) (List.take (Int.toNat (↑(List.length s0) : Int)) s0))) : Int))
                                                                      (List.drop (Int.toNat (Go.IntKind.wrap Go.IntKind.i64 (n0 + (1 : Int)))) (List.take (Int.toNat (↑(List.length s0) : Int)) s0)))),
                                                                AV.int Go.IntKind.i64 (0 : Int)])
                                                            []))))))) :
  Hold (runF PG ty nG G0 an_greatsealref_SplitOf f_greatsealref_SplitOf [AV.str s0] [] R) := kshow h (by kernel_rfl)

theorem note_Print_run (h0_0 : Int) (h0_1 : List UInt8) (h0_2 : List UInt8) (G0 : Nat → Option Go.Obj) (R : AV → List (Option Blk) → Prop) (h :
  ∃ n0,
  Good PG nG G0 f_note_Check [AV.agg [AV.int Go.IntKind.i64 h0_0, AV.str h0_1, AV.str h0_2]] [] (AV.int Go.IntKind.i64 n0) [] ∧
    ifK (n0 != (0 : Int)) (R (AV.tup [AV.str [], AV.int Go.IntKind.i64 n0]) [])
      (∃ s1,
        Good PG nG G0 f_strconv_Itoa [AV.int Go.IntKind.i64 h0_0] [] (AV.str s1) [] ∧
          List.length s1 + (1 : Nat) ≤ (9223372036854775807 : Nat) ∧
            ∃ s2,
              Good PG nG G0 f_strconv_Itoa [AV.int Go.IntKind.i64 (↑(List.length h0_1) : Int)] [] (AV.str s2) [] ∧
                List.length (s1 ++ [(32 : UInt8)]) + List.length s2 ≤ (9223372036854775807 : Nat) ∧
                  List.length (s1 ++ [(32 : UInt8)] ++ s2) + (1 : Nat) ≤ (9223372036854775807 : Nat) ∧
                    ∃ s3,
                      Good PG nG G0 f_strconv_Itoa [AV.int Go.IntKind.i64 (↑(List.length h0_2) : Int)] [] (AV.str s3) [] ∧
                        List.length (s1 ++ [(32 : UInt8)] ++ s2 ++ [(32 : UInt8)]) + List.length s3 ≤ (9223372036854775807 : Nat) ∧
                          List.length (s1 ++ [(32 : UInt8)] ++ s2 ++ [(32 : UInt8)] ++ s3) + (1 : Nat) ≤ (9223372036854775807 : Nat) ∧
                            List.length (s1 ++ [(32 : UInt8)] ++ s2 ++ [(32 : UInt8)] ++ s3 ++ [(32 : UInt8)]) + List.length h0_1 ≤ (9223372036854775807 : Nat) ∧
                              List.length (s1 ++ [(32 : UInt8)] ++ s2 ++ [(32 : UInt8)] ++ s3 ++ [(32 : UInt8)] ++ h0_1) + List.length h0_2 ≤ (9223372036854775807 : Nat) ∧
                                R (AV.tup [AV.str (s1 ++ [(32 : UInt8)] ++ s2 ++ [(32 : UInt8)] ++ s3 ++ [(32 : UInt8)] ++ h0_1 ++ h0_2), AV.int Go.IntKind.i64 (0 : Int)]) [])) :
  Hold (runF PG ty nG G0 an_note_Print f_note_Print [AV.agg [AV.int Go.IntKind.i64 h0_0, AV.str h0_1, AV.str h0_2]] [] R) := kshow h (by kernel_rfl)

theorem greatsealref_HeadText_run (h0_0 : Int) (h0_1 : List UInt8) (h0_2 : List UInt8) (G0 : Nat → Option Go.Obj) (R : AV → List (Option Blk) → Prop) (h :
  ∃ n0,
  Good PG nG G0 f_greatsealref_CheckHead [AV.agg [AV.int Go.IntKind.i64 h0_0, AV.str h0_1, AV.str h0_2]] [] (AV.int Go.IntKind.i64 n0) [] ∧
    ifK (n0 != (0 : Int)) (R (AV.tup [AV.str [], AV.int Go.IntKind.i64 n0]) [])
      (∃ s1,
        Good PG nG G0 f_strconv_Itoa [AV.int Go.IntKind.i64 h0_0] [] (AV.str s1) [] ∧
          List.length s1 + (1 : Nat) ≤ (9223372036854775807 : Nat) ∧
            ∃ s2,
              Good PG nG G0 f_strconv_Itoa [AV.int Go.IntKind.i64 (↑(List.length h0_1) : Int)] [] (AV.str s2) [] ∧
                List.length (s1 ++ [(32 : UInt8)]) + List.length s2 ≤ (9223372036854775807 : Nat) ∧
                  List.length (s1 ++ [(32 : UInt8)] ++ s2) + (1 : Nat) ≤ (9223372036854775807 : Nat) ∧
                    ∃ s3,
                      Good PG nG G0 f_strconv_Itoa [AV.int Go.IntKind.i64 (↑(List.length h0_2) : Int)] [] (AV.str s3) [] ∧
                        List.length (s1 ++ [(32 : UInt8)] ++ s2 ++ [(32 : UInt8)]) + List.length s3 ≤ (9223372036854775807 : Nat) ∧
                          List.length (s1 ++ [(32 : UInt8)] ++ s2 ++ [(32 : UInt8)] ++ s3) + (1 : Nat) ≤ (9223372036854775807 : Nat) ∧
                            List.length (s1 ++ [(32 : UInt8)] ++ s2 ++ [(32 : UInt8)] ++ s3 ++ [(32 : UInt8)]) + List.length h0_1 ≤ (9223372036854775807 : Nat) ∧
                              List.length (s1 ++ [(32 : UInt8)] ++ s2 ++ [(32 : UInt8)] ++ s3 ++ [(32 : UInt8)] ++ h0_1) + List.length h0_2 ≤ (9223372036854775807 : Nat) ∧
                                R (AV.tup [AV.str (s1 ++ [(32 : UInt8)] ++ s2 ++ [(32 : UInt8)] ++ s3 ++ [(32 : UInt8)] ++ h0_1 ++ h0_2), AV.int Go.IntKind.i64 (0 : Int)]) [])) :
  Hold (runF PG ty nG G0 an_greatsealref_HeadText f_greatsealref_HeadText [AV.agg [AV.int Go.IntKind.i64 h0_0, AV.str h0_1, AV.str h0_2]] [] R) := kshow h (by kernel_rfl)

end Go.Ab

namespace Go.Ab
open Go.Proofs
set_option maxRecDepth 100000

def an_strings_SplitN : FAnn := ⟨[], [], none, []⟩
def an_strings_genSplit_4 : FAnn := ⟨[], [(0, [0, 1, 2, 3, 9, 10], [])], none, [(18, [0])]⟩
def an_note_Parse : FAnn := ⟨[], [(0, [0, 2, 4, 13], [])], none, []⟩
def an_greatsealref_HeadRead : FAnn := ⟨[], [(0, [2, 4, 5, 18], [])], none, []⟩
def an_greatseallaw_sealed : FAnn := ⟨[], [], none, []⟩
def an_greatseallaw_noted : FAnn := ⟨[], [], none, []⟩

theorem strings_SplitN_run (s0 : List UInt8) (sep1 : List UInt8) (n2 : Int) (G0 : Nat → Option Go.Obj) (R : AV → List (Option Blk) → Prop) (h :
  ∃ b0 xs1, Good PG nG G0 f_strings_genSplit [AV.str s0, AV.str sep1, AV.int Go.IntKind.i64 (0 : Int), AV.int Go.IntKind.i64 n2] [] (AV.sl (1 : Nat) b0 none xs1) [] ∧ R (AV.sl (1 : Nat) b0 none xs1) []) :
  Hold (runF PG ty nG G0 an_strings_SplitN f_strings_SplitN [AV.str s0, AV.str sep1, AV.int Go.IntKind.i64 n2] [] R) := kshow h (by kernel_rfl)

theorem strings_genSplit_4_run (s : List UInt8) (G0 : Nat → Option Go.Obj) (R : AV → List (Option Blk) → Prop) (h :
  ((if Go.IntKind.wrap Go.IntKind.i64 ((↑(List.length s) : Int) + (1 : Int)) < (4 : Int) then Go.IntKind.wrap Go.IntKind.i64 ((↑(List.length s) : Int) + (1 : Int)) else (4 : Int)) =
    if Go.IntKind.wrap Go.IntKind.i64 ((↑(List.length s) : Int) + (1 : Int)) < (4 : Int) then Go.IntKind.wrap Go.IntKind.i64 ((↑(List.length s) : Int) + (1 : Int)) else (4 : Int)) ∧
  ((0 : Int) ≤ if Go.IntKind.wrap Go.IntKind.i64 ((↑(List.length s) : Int) + (1 : Int)) < (4 : Int) then Go.IntKind.wrap Go.IntKind.i64 ((↑(List.length s) : Int) + (1 : Int)) else (4 : Int)) ∧
    ((16 : Int) * if Go.IntKind.wrap Go.IntKind.i64 ((↑(List.length s) : Int) + (1 : Int)) < (4 : Int) then Go.IntKind.wrap Go.IntKind.i64 ((↑(List.length s) : Int) + (1 : Int)) else (4 : Int)) ≤ (281474976710656 : Int) ∧
      (if Go.IntKind.wrap Go.IntKind.i64 ((↑(List.length s) : Int) + (1 : Int)) < (4 : Int) then Go.IntKind.wrap Go.IntKind.i64 ((↑(List.length s) : Int) + (1 : Int)) else (4 : Int)) ≤ (9223372036854775807 : Int) ∧
        Does PG nG G0 (fnOf PG f_strings_genSplit) (0 : Nat) (lp PG f_strings_genSplit (0 : Nat))
          (mkT (66 : Nat)
            [((0 : Nat), AV.str s), ((1 : Nat), AV.str [(32 : UInt8)]), ((2 : Nat), AV.int Go.IntKind.i64 (0 : Int)),
              ((3 : Nat),
                AV.int Go.IntKind.i64
                  (Go.IntKind.wrap Go.IntKind.i64
                    ((if Go.IntKind.wrap Go.IntKind.i64 ((↑(List.length s) : Int) + (1 : Int)) < (4 : Int) then Go.IntKind.wrap Go.IntKind.i64 ((↑(List.length s) : Int) + (1 : Int)) else (4 : Int)) - (1 : Int)))),
              ((9 : Nat),
                AV.rsl (1 : Nat) (0 : Nat) (0 : Nat)
                  (Int.toNat (if Go.IntKind.wrap Go.IntKind.i64 ((↑(List.length s) : Int) + (1 : Int)) < (4 : Int) then Go.IntKind.wrap Go.IntKind.i64 ((↑(List.length s) : Int) + (1 : Int)) else (4 : Int)))),
              ((10 : Nat), AV.int Go.IntKind.i64 (0 : Int))])
          [some
              (Blk.arr (1 : Nat)
                (List.replicate (Int.toNat (if Go.IntKind.wrap Go.IntKind.i64 ((↑(List.length s) : Int) + (1 : Int)) < (4 : Int) then Go.IntKind.wrap Go.IntKind.i64 ((↑(List.length s) : Int) + (1 : Int)) else (4 : Int))) [AV.str []]))]
          R) :
  Hold (runF PG ty nG G0 an_strings_genSplit_4 f_strings_genSplit [AV.str s, AV.str [(32 : UInt8)], AV.int Go.IntKind.i64 (0 : Int), AV.int Go.IntKind.i64 (4 : Int)] [] R) := kshow h (by kernel_rfl)

theorem strings_genSplit_4_l0_run (G0 : Nat → Option Obj) (s0 : List UInt8) (s1 : List UInt8) (n2 : Int) (n3 : Int) (m4 : Nat) (m5 : Nat) (n6 : Int) (xs7 : List (List AV)) (R : AV → List (Option Blk) → Prop) (h :
  ifK (decide (n6 < n3))
  (∃ n8,
    Good PG nG G0 f_strings_Index [AV.str s0, AV.str s1] [] (AV.int Go.IntKind.i64 n8) [] ∧
      ifK (decide (n8 < (0 : Int)))
        ((0 : Int) ≤ n6 ∧
          n6 < (↑m5 : Int) ∧
            (0 : Int) ≤ (0 : Int) ∧
              (0 : Int) ≤ Go.IntKind.wrap Go.IntKind.i64 (n6 + (1 : Int)) ∧
                Go.IntKind.wrap Go.IntKind.i64 (n6 + (1 : Int)) ≤ (↑(List.length (List.take m5 (List.drop m4 (List.set xs7 (m4 + Int.toNat n6) (setR (List.getD xs7 (m4 + Int.toNat n6) []) (0 : Nat) [AV.str s0]))))) : Int) ∧
                  R
                    (AV.sl (1 : Nat) false none
                      (List.drop (0 : Nat)
                        (List.take (Int.toNat (Go.IntKind.wrap Go.IntKind.i64 (n6 + (1 : Int)))) (List.take m5 (List.drop m4 (List.set xs7 (m4 + Int.toNat n6) (setR (List.getD xs7 (m4 + Int.toNat n6) []) (0 : Nat) [AV.str s0])))))))
                    [])
        ((0 : Int) ≤ (0 : Int) ∧
          (0 : Int) ≤ Go.IntKind.wrap Go.IntKind.i64 (n8 + n2) ∧
            Go.IntKind.wrap Go.IntKind.i64 (n8 + n2) ≤ (↑(List.length s0) : Int) ∧
              (0 : Int) ≤ n6 ∧
                n6 < (↑m5 : Int) ∧
                  (0 : Int) ≤ Go.IntKind.wrap Go.IntKind.i64 (n8 + (↑(List.length s1) : Int)) ∧
                    Go.IntKind.wrap Go.IntKind.i64 (n8 + (↑(List.length s1) : Int)) ≤ (↑(List.length s0) : Int) ∧
                      (↑(List.length s0) : Int) ≤ (↑(List.length s0) : Int) ∧
                        Does PG nG G0 (fnOf PG f_strings_genSplit) (0 : Nat) (lp PG f_strings_genSplit (0 : Nat))
                          (mkT (66 : Nat)
                            [((0 : Nat), AV.str (List.drop (Int.toNat (Go.IntKind.wrap Go.IntKind.i64 (n8 + (↑(List.length s1) : Int)))) (List.take (Int.toNat (↑(List.length s0) : Int)) s0))), ((1 : Nat), AV.str s1),
                              ((2 : Nat), AV.int Go.IntKind.i64 n2), ((3 : Nat), AV.int Go.IntKind.i64 n3), ((9 : Nat), AV.rsl (1 : Nat) (0 : Nat) m4 m5),
                              ((10 : Nat), AV.int Go.IntKind.i64 (Go.IntKind.wrap Go.IntKind.i64 (n6 + (1 : Int))))])
                          [some
                              (Blk.arr (1 : Nat)
                                (List.set xs7 (m4 + Int.toNat n6) (setR (List.getD xs7 (m4 + Int.toNat n6) []) (0 : Nat) [AV.str (List.drop (0 : Nat) (List.take (Int.toNat (Go.IntKind.wrap Go.IntKind.i64 (n8 + n2))) s0))])))]
                          R))
  ((0 : Int) ≤ n6 ∧
    n6 < (↑m5 : Int) ∧
      (0 : Int) ≤ (0 : Int) ∧
        (0 : Int) ≤ Go.IntKind.wrap Go.IntKind.i64 (n6 + (1 : Int)) ∧
          Go.IntKind.wrap Go.IntKind.i64 (n6 + (1 : Int)) ≤ (↑(List.length (List.take m5 (List.drop m4 (List.set xs7 (m4 + Int.toNat n6) (setR (List.getD xs7 (m4 + Int.toNat n6) []) (0 : Nat) [AV.str s0]))))) : Int) ∧
            R
              (AV.sl (1 : Nat) false none
                (List.drop (0 : Nat)
                  (List.take (Int.toNat (Go.IntKind.wrap Go.IntKind.i64 (n6 + (1 : Int)))) (List.take m5 (List.drop m4 (List.set xs7 (m4 + Int.toNat n6) (setR (List.getD xs7 (m4 + Int.toNat n6) []) (0 : Nat) [AV.str s0])))))))
              [])) :
  Hold (runL PG ty nG G0 an_strings_genSplit_4 f_strings_genSplit (0 : Nat) (0 : Nat)
  (mkT (66 : Nat) [((0 : Nat), AV.str s0), ((1 : Nat), AV.str s1), ((2 : Nat), AV.int Go.IntKind.i64 n2), ((3 : Nat), AV.int Go.IntKind.i64 n3), ((9 : Nat), AV.rsl (1 : Nat) (0 : Nat) m4 m5), ((10 : Nat), AV.int Go.IntKind.i64 n6)])
  [some (Blk.arr (1 : Nat) xs7)] R) := kshow h (by kernel_rfl)

theorem note_Parse_run (s0 : List UInt8) (G0 : Nat → Option Go.Obj) (R : AV → List (Option Blk) → Prop) (h :
  Does PG nG G0 (fnOf PG f_note_Parse) (0 : Nat) (lp PG f_note_Parse (0 : Nat))
  (mkT (83 : Nat) [((0 : Nat), AV.str s0), ((2 : Nat), AV.ref (0 : Nat) (0 : Nat)), ((4 : Nat), AV.ref (1 : Nat) (0 : Nat)), ((13 : Nat), AV.int Go.IntKind.i64 (0 : Int))])
  [some (Blk.var [AV.int Go.IntKind.i64 (0 : Int), AV.str [], AV.str []]), some (Blk.var [AV.int Go.IntKind.i64 (0 : Int), AV.int Go.IntKind.i64 (0 : Int), AV.int Go.IntKind.i64 (0 : Int)])] R) :
  Hold (runF PG ty nG G0 an_note_Parse f_note_Parse [AV.str s0] [] R) := kshow h (by kernel_rfl)

theorem note_Parse_l0_run (G0 : Nat → Option Obj) (s0 : List UInt8) (n1 : Int) (n2 : Int) (s3 : List UInt8) (s4 : List UInt8) (n5 : Int) (n6 : Int) (n7 : Int) (R : AV → List (Option Blk) → Prop) (h :
  ifK (decide (n1 < (3 : Int)))
  (∃ s8 s9 b10,
    Good PG nG G0 f_strings_Cut [AV.str s0, AV.str [(32 : UInt8)]] [] (AV.tup [AV.str s8, AV.str s9, AV.bool b10]) [] ∧
      ∃ n11 b12,
        ifK b12
          (Good PG nG G0 f_strconv_Atoi [AV.str s8] [] (AV.tup [AV.int Go.IntKind.i64 n11, AV.iface]) [] ∧
            ifK (!b10) (R (AV.tup [AV.agg [AV.int Go.IntKind.i64 (0 : Int), AV.str [], AV.str []], AV.int Go.IntKind.i64 (1 : Int)]) [])
              (R (AV.tup [AV.agg [AV.int Go.IntKind.i64 (0 : Int), AV.str [], AV.str []], AV.int Go.IntKind.i64 (1 : Int)]) []))
          (Good PG nG G0 f_strconv_Atoi [AV.str s8] [] (AV.tup [AV.int Go.IntKind.i64 n11, AV.nilIface]) [] ∧
            ifK (!b10) (R (AV.tup [AV.agg [AV.int Go.IntKind.i64 (0 : Int), AV.str [], AV.str []], AV.int Go.IntKind.i64 (1 : Int)]) [])
              (∃ s13,
                Good PG nG G0 f_strconv_Itoa [AV.int Go.IntKind.i64 n11] [] (AV.str s13) [] ∧
                  ifK (!s13 == s8) (R (AV.tup [AV.agg [AV.int Go.IntKind.i64 (0 : Int), AV.str [], AV.str []], AV.int Go.IntKind.i64 (1 : Int)]) [])
                    (ifK (decide (n11 < (0 : Int))) (R (AV.tup [AV.agg [AV.int Go.IntKind.i64 (0 : Int), AV.str [], AV.str []], AV.int Go.IntKind.i64 (1 : Int)]) [])
                      ((0 : Int) ≤ n1 ∧
                        n1 < (3 : Int) ∧
                          ifK (n1 == (0 : Int))
                            (Does PG nG G0 (fnOf PG f_note_Parse) (0 : Nat) (lp PG f_note_Parse (0 : Nat))
                              (mkT (83 : Nat) [((0 : Nat), AV.str s9), ((2 : Nat), AV.ref (0 : Nat) (0 : Nat)), ((4 : Nat), AV.ref (1 : Nat) (0 : Nat)), ((13 : Nat), AV.int Go.IntKind.i64 (Go.IntKind.wrap Go.IntKind.i64 (n1 + (1 : Int))))])
                              [some (Blk.var [AV.int Go.IntKind.i64 n2, AV.str s3, AV.str s4]), some (Blk.var [AV.int Go.IntKind.i64 n11, AV.int Go.IntKind.i64 n6, AV.int Go.IntKind.i64 n7])] R)
                            (ifK (n1 == (1 : Int))
                              (Does PG nG G0 (fnOf PG f_note_Parse) (0 : Nat) (lp PG f_note_Parse (0 : Nat))
                                (mkT (83 : Nat)
                                  [((0 : Nat), AV.str s9), ((2 : Nat), AV.ref (0 : Nat) (0 : Nat)), ((4 : Nat), AV.ref (1 : Nat) (0 : Nat)), ((13 : Nat), AV.int Go.IntKind.i64 (Go.IntKind.wrap Go.IntKind.i64 (n1 + (1 : Int))))])
                                [some (Blk.var [AV.int Go.IntKind.i64 n2, AV.str s3, AV.str s4]), some (Blk.var [AV.int Go.IntKind.i64 n5, AV.int Go.IntKind.i64 n11, AV.int Go.IntKind.i64 n7])] R)
                              (Does PG nG G0 (fnOf PG f_note_Parse) (0 : Nat) (lp PG f_note_Parse (0 : Nat))
                                (mkT (83 : Nat)
                                  [((0 : Nat), AV.str s9), ((2 : Nat), AV.ref (0 : Nat) (0 : Nat)), ((4 : Nat), AV.ref (1 : Nat) (0 : Nat)), ((13 : Nat), AV.int Go.IntKind.i64 (Go.IntKind.wrap Go.IntKind.i64 (n1 + (1 : Int))))])
                                [some (Blk.var [AV.int Go.IntKind.i64 n2, AV.str s3, AV.str s4]), some (Blk.var [AV.int Go.IntKind.i64 n5, AV.int Go.IntKind.i64 n6, AV.int Go.IntKind.i64 n11])] R)))))))
  ((0 : Int) ≤ (1 : Int) ∧
    (1 : Int) < (3 : Int) ∧
      ifK (decide (n6 > (↑(List.length s0) : Int))) (R (AV.tup [AV.agg [AV.int Go.IntKind.i64 (0 : Int), AV.str [], AV.str []], AV.int Go.IntKind.i64 (1 : Int)]) [])
        ((0 : Int) ≤ (2 : Int) ∧
          (2 : Int) < (3 : Int) ∧
            (0 : Int) ≤ (1 : Int) ∧
              (1 : Int) < (3 : Int) ∧
                ifK (n7 != Go.IntKind.wrap Go.IntKind.i64 ((↑(List.length s0) : Int) - n6)) (R (AV.tup [AV.agg [AV.int Go.IntKind.i64 (0 : Int), AV.str [], AV.str []], AV.int Go.IntKind.i64 (1 : Int)]) [])
                  ((0 : Int) ≤ (0 : Int) ∧
                    (0 : Int) < (3 : Int) ∧
                      (0 : Int) ≤ (1 : Int) ∧
                        (1 : Int) < (3 : Int) ∧
                          (0 : Int) ≤ (0 : Int) ∧
                            (0 : Int) ≤ n6 ∧
                              n6 ≤ (↑(List.length s0) : Int) ∧
                                (0 : Int) ≤ (1 : Int) ∧
                                  (1 : Int) < (3 : Int) ∧
                                    (0 : Int) ≤ n6 ∧
                                      n6 ≤ (↑(List.length s0) : Int) ∧
                                        (↑(List.length s0) : Int) ≤ (↑(List.length s0) : Int) ∧
                                          ∃ n14,
                                            Good PG nG G0 f_note_Check
                                                [AV.agg [AV.int Go.IntKind.i64 n5, AV.str (List.drop (0 : Nat) (List.take (Int.toNat n6) s0)), AV.str (List.drop (Int.toNat n6) (List.take (Int.toNat (↑(List.length s0) : Int)) s0))]] []
                                                (AV.int Go.IntKind.i64 n14) [] ∧
                                              ifK (n14 != (0 : Int)) (R (AV.tup [AV.agg [AV.int Go.IntKind.i64 (0 : Int), AV.str [], AV.str []], AV.int Go.IntKind.i64 n14]) [])
                                                (R
                                                  (AV.tup
                                                    [AV.agg [AV.int Go.IntKind.i64 n5, AV.str (List.drop (0 : Nat) (List.take (Int.toNat n6) s0)), AV.str (List.drop (Int.toNat n6) (List.take (Int.toNat (↑(List.length s0) : Int)) s0))],
                                                      AV.int Go.IntKind.i64 (0 : Int)])
                                                  []))))) :
  Hold (runL PG ty nG G0 an_note_Parse f_note_Parse (0 : Nat) (0 : Nat) (mkT (83 : Nat) [((0 : Nat), AV.str s0), ((2 : Nat), AV.ref (0 : Nat) (0 : Nat)), ((4 : Nat), AV.ref (1 : Nat) (0 : Nat)), ((13 : Nat), AV.int Go.IntKind.i64 n1)])
  [some (Blk.var [AV.int Go.IntKind.i64 n2, AV.str s3, AV.str s4]), some (Blk.var [AV.int Go.IntKind.i64 n5, AV.int Go.IntKind.i64 n6, AV.int Go.IntKind.i64 n7])] R) := kshow h (by kernel_rfl)

theorem greatsealref_HeadRead_run (s0 : List UInt8) (G0 : Nat → Option Go.Obj) (R : AV → List (Option Blk) → Prop) (h :
  ∃ b0 xs1,
  Good PG nG G0 f_strings_SplitN [AV.str s0, AV.str [(32 : UInt8)], AV.int Go.IntKind.i64 (4 : Int)] [] (AV.sl (1 : Nat) b0 none xs1) [] ∧
    ifK (decide ((↑(List.length xs1) : Int) < (4 : Int))) (R (AV.tup [AV.agg [AV.int Go.IntKind.i64 (0 : Int), AV.str [], AV.str []], AV.int Go.IntKind.i64 (1 : Int)]) [])
      (Does PG nG G0 (fnOf PG f_greatsealref_HeadRead) (0 : Nat) (lp PG f_greatsealref_HeadRead (0 : Nat))
        (mkT (89 : Nat) [((2 : Nat), AV.ref (0 : Nat) (0 : Nat)), ((4 : Nat), AV.sl (1 : Nat) b0 none xs1), ((5 : Nat), AV.ref (1 : Nat) (0 : Nat)), ((18 : Nat), AV.int Go.IntKind.i64 (0 : Int))])
        [some (Blk.var [AV.int Go.IntKind.i64 (0 : Int), AV.str [], AV.str []]), some (Blk.var [AV.int Go.IntKind.i64 (0 : Int), AV.int Go.IntKind.i64 (0 : Int), AV.int Go.IntKind.i64 (0 : Int)])] R)) :
  Hold (runF PG ty nG G0 an_greatsealref_HeadRead f_greatsealref_HeadRead [AV.str s0] [] R) := kshow h (by kernel_rfl)

theorem greatsealref_HeadRead_l0_run (G0 : Nat → Option Obj) (b2 : Bool) (xs3 : List (List AV)) (n4 : Int) (n5 : Int) (s6 : List UInt8) (s7 : List UInt8) (n8 : Int) (n9 : Int) (n10 : Int) (R : AV → List (Option Blk) → Prop) (h :
  ifK (decide (n4 < (3 : Int)))
  ((0 : Int) ≤ n4 ∧
    ∃ s11,
      xs3[Int.toNat n4]? = some [AV.str s11] ∧
        ∃ n12 b13,
          ifK b13
            (Good PG nG G0 f_strconv_ParseInt [AV.str s11, AV.int Go.IntKind.i64 (10 : Int), AV.int Go.IntKind.i64 (64 : Int)] [] (AV.tup [AV.int Go.IntKind.i64 n12, AV.iface]) [] ∧
              R (AV.tup [AV.agg [AV.int Go.IntKind.i64 (0 : Int), AV.str [], AV.str []], AV.int Go.IntKind.i64 (1 : Int)]) [])
            (Good PG nG G0 f_strconv_ParseInt [AV.str s11, AV.int Go.IntKind.i64 (10 : Int), AV.int Go.IntKind.i64 (64 : Int)] [] (AV.tup [AV.int Go.IntKind.i64 n12, AV.nilIface]) [] ∧
              ∃ s14,
                Good PG nG G0 f_strconv_FormatInt [AV.int Go.IntKind.i64 n12, AV.int Go.IntKind.i64 (10 : Int)] [] (AV.str s14) [] ∧
                  (0 : Int) ≤ n4 ∧
                    ∃ s15,
                      xs3[Int.toNat n4]? = some [AV.str s15] ∧
                        ifK (!s14 == s15) (R (AV.tup [AV.agg [AV.int Go.IntKind.i64 (0 : Int), AV.str [], AV.str []], AV.int Go.IntKind.i64 (1 : Int)]) [])
                          (ifK (decide (n12 < (0 : Int))) (R (AV.tup [AV.agg [AV.int Go.IntKind.i64 (0 : Int), AV.str [], AV.str []], AV.int Go.IntKind.i64 (1 : Int)]) [])
                            ((0 : Int) ≤ n4 ∧
                              n4 < (3 : Int) ∧
                                ifK (n4 == (0 : Int))
                                  (Does PG nG G0 (fnOf PG f_greatsealref_HeadRead) (0 : Nat) (lp PG f_greatsealref_HeadRead (0 : Nat))
                                    (mkT (89 : Nat)
                                      [((2 : Nat), AV.ref (0 : Nat) (0 : Nat)), ((4 : Nat), AV.sl (1 : Nat) b2 none xs3), ((5 : Nat), AV.ref (1 : Nat) (0 : Nat)),
                                        ((18 : Nat), AV.int Go.IntKind.i64 (Go.IntKind.wrap Go.IntKind.i64 (n4 + (1 : Int))))])
                                    [some (Blk.var [AV.int Go.IntKind.i64 n5, AV.str s6, AV.str s7]), some (Blk.var [AV.int Go.IntKind.i64 n12, AV.int Go.IntKind.i64 n9, AV.int Go.IntKind.i64 n10])] R)
                                  (ifK (n4 == (1 : Int))
                                    (Does PG nG G0 (fnOf PG f_greatsealref_HeadRead) (0 : Nat) (lp PG f_greatsealref_HeadRead (0 : Nat))
                                      (mkT (89 : Nat)
                                        [((2 : Nat), AV.ref (0 : Nat) (0 : Nat)), ((4 : Nat), AV.sl (1 : Nat) b2 none xs3), ((5 : Nat), AV.ref (1 : Nat) (0 : Nat)),
                                          ((18 : Nat), AV.int Go.IntKind.i64 (Go.IntKind.wrap Go.IntKind.i64 (n4 + (1 : Int))))])
                                      [some (Blk.var [AV.int Go.IntKind.i64 n5, AV.str s6, AV.str s7]), some (Blk.var [AV.int Go.IntKind.i64 n8, AV.int Go.IntKind.i64 n12, AV.int Go.IntKind.i64 n10])] R)
                                    (Does PG nG G0 (fnOf PG f_greatsealref_HeadRead) (0 : Nat) (lp PG f_greatsealref_HeadRead (0 : Nat))
                                      (mkT (89 : Nat)
                                        [((2 : Nat), AV.ref (0 : Nat) (0 : Nat)), ((4 : Nat), AV.sl (1 : Nat) b2 none xs3), ((5 : Nat), AV.ref (1 : Nat) (0 : Nat)),
                                          ((18 : Nat), AV.int Go.IntKind.i64 (Go.IntKind.wrap Go.IntKind.i64 (n4 + (1 : Int))))])
                                      [some (Blk.var [AV.int Go.IntKind.i64 n5, AV.str s6, AV.str s7]), some (Blk.var [AV.int Go.IntKind.i64 n8, AV.int Go.IntKind.i64 n9, AV.int Go.IntKind.i64 n12])] R))))))
  ((0 : Int) ≤ (3 : Int) ∧
    ∃ s16,
      xs3[(3 : Nat)]? = some [AV.str s16] ∧
        (0 : Int) ≤ (1 : Int) ∧
          (1 : Int) < (3 : Int) ∧
            ifK (decide (n9 > (↑(List.length s16) : Int))) (R (AV.tup [AV.agg [AV.int Go.IntKind.i64 (0 : Int), AV.str [], AV.str []], AV.int Go.IntKind.i64 (1 : Int)]) [])
              ((0 : Int) ≤ (2 : Int) ∧
                (2 : Int) < (3 : Int) ∧
                  (0 : Int) ≤ (1 : Int) ∧
                    (1 : Int) < (3 : Int) ∧
                      ifK (n10 != Go.IntKind.wrap Go.IntKind.i64 ((↑(List.length s16) : Int) - n9)) (R (AV.tup [AV.agg [AV.int Go.IntKind.i64 (0 : Int), AV.str [], AV.str []], AV.int Go.IntKind.i64 (1 : Int)]) [])
                        ((0 : Int) ≤ (0 : Int) ∧
                          (0 : Int) < (3 : Int) ∧
                            (0 : Int) ≤ (3 : Int) ∧
                              ∃ s17,
                                xs3[(3 : Nat)]? = some [AV.str s17] ∧
                                  (0 : Int) ≤ (1 : Int) ∧
                                    (1 : Int) < (3 : Int) ∧
                                      (0 : Int) ≤ (0 : Int) ∧
                                        (0 : Int) ≤ n9 ∧
                                          n9 ≤ (↑(List.length s17) : Int) ∧
                                            (0 : Int) ≤ (3 : Int) ∧
                                              ∃ s18,
                                                xs3[(3 : Nat)]? = some [AV.str s18] ∧
                                                  (0 : Int) ≤ (1 : Int) ∧
                                                    (1 : Int) < (3 : Int) ∧
                                                      (0 : Int) ≤ n9 ∧
                                                        n9 ≤ (↑(List.length s18) : Int) ∧
                                                          (↑(List.length s18) : Int) ≤ (↑(List.length s18) : Int) ∧
                                                            ∃ n19,
                                                              Good PG nG G0 f_greatsealref_CheckHead
                                                                  [AV.agg
                                                                      [AV.int Go.IntKind.i64 n8, AV.str (List.drop (0 : Nat) (List.take (Int.toNat n9) s17)),
                                                                        AV.str (List.drop (Int.toNat n9) (List.take (Int.toNat (↑(List.length s18) : Int)) s18))]]
                                                                  [] (AV.int Go.IntKind.i64 n19) [] ∧
                                                                ifK (n19 != (0 : Int)) (R (AV.tup [AV.agg [AV.int Go.IntKind.i64 (0 : Int), AV.str [], AV.str []], AV.int Go.IntKind.i64 n19]) [])
                                                                  (R
                                                                    (AV.tup
                                                                      [AV.agg
                                                                          [AV.int Go.IntKind.i64 n8, AV.str (List.drop (0 : Nat) (List.take (Int.toNat n9) s17)),
                                                                            AV.str (List.drop (Int.toNat n9) (List.take (Int.toNat (↑(List.length s18) : Int)) s18))],
                                                                        AV.int Go.IntKind.i64 (0 : Int)])
                                                                    []))))) :
  Hold (runL PG ty nG G0 an_greatsealref_HeadRead f_greatsealref_HeadRead (0 : Nat) (0 : Nat)
  (mkT (89 : Nat) [((2 : Nat), AV.ref (0 : Nat) (0 : Nat)), ((4 : Nat), AV.sl (1 : Nat) b2 none xs3), ((5 : Nat), AV.ref (1 : Nat) (0 : Nat)), ((18 : Nat), AV.int Go.IntKind.i64 n4)])
  [some (Blk.var [AV.int Go.IntKind.i64 n5, AV.str s6, AV.str s7]), some (Blk.var [AV.int Go.IntKind.i64 n8, AV.int Go.IntKind.i64 n9, AV.int Go.IntKind.i64 n10])] R) := kshow h (by kernel_rfl)

theorem greatseallaw_sealed_run (G0 : Nat → Option Go.Obj) (R : AV → List (Option Blk) → Prop) (h :
  ∃ s0 n1,
  Good PG nG G0 f_seal_Leaf [AV.str [(97 : UInt8)]] [] (AV.tup [AV.str s0, AV.int Go.IntKind.i64 n1]) [] ∧
    ∃ s2 n3,
      Good PG nG G0 f_seal_Node [AV.str s0, AV.str [(76 : UInt8), (98 : UInt8)]] [] (AV.tup [AV.str s2, AV.int Go.IntKind.i64 n3]) [] ∧
        ∃ s4 s5 n6,
          Good PG nG G0 f_seal_Split [AV.str s2] [] (AV.tup [AV.str s4, AV.str s5, AV.int Go.IntKind.i64 n6]) [] ∧
            ∃ s7 n8,
              Good PG nG G0 f_seal_Open [AV.str s0] [] (AV.tup [AV.str s7, AV.int Go.IntKind.i64 n8]) [] ∧
                ∃ s9 s10 n11,
                  Good PG nG G0 f_seal_Split [AV.str [(78 : UInt8), (51 : UInt8), (58 : UInt8), (97 : UInt8), (98 : UInt8)]] [] (AV.tup [AV.str s9, AV.str s10, AV.int Go.IntKind.i64 n11]) [] ∧
                    ∃ s12 n13,
                      Good PG nG G0 f_seal_Open [AV.str [(69 : UInt8)]] [] (AV.tup [AV.str s12, AV.int Go.IntKind.i64 n13]) [] ∧
                        ifK (n1 == (0 : Int))
                          (ifK (n3 == (0 : Int))
                            (ifK (n6 == (0 : Int))
                              (ifK (n8 == (0 : Int))
                                (ifK (n11 == (4 : Int))
                                  (ifK (n13 == (4 : Int))
                                    (ifK (s2 == [(78 : UInt8), (50 : UInt8), (58 : UInt8), (76 : UInt8), (97 : UInt8), (76 : UInt8), (98 : UInt8)])
                                      (ifK (s4 == [(76 : UInt8), (97 : UInt8)])
                                        (ifK (s5 == [(76 : UInt8), (98 : UInt8)]) (ifK (s7 == [(97 : UInt8)]) (∃ s14, Good PG nG G0 f_seal_None [] [] (AV.str s14) [] ∧ R (AV.bool (s14 == [(69 : UInt8)])) []) (R (AV.bool false) []))
                                          (R (AV.bool false) []))
                                        (R (AV.bool false) []))
                                      (R (AV.bool false) []))
                                    (R (AV.bool false) []))
                                  (R (AV.bool false) []))
                                (R (AV.bool false) []))
                              (R (AV.bool false) []))
                            (R (AV.bool false) []))
                          (R (AV.bool false) [])) :
  Hold (runF PG ty nG G0 an_greatseallaw_sealed f_greatseallaw_sealed [] [] R) := kshow h (by kernel_rfl)

theorem greatseallaw_noted_run (G0 : Nat → Option Go.Obj) (R : AV → List (Option Blk) → Prop) (h :
  ∃ s0 n1,
  Good PG nG G0 f_note_Print [AV.agg [AV.int Go.IntKind.i64 (2 : Int), AV.str [(97 : UInt8), (98 : UInt8)], AV.str [(99 : UInt8), (32 : UInt8), (100 : UInt8)]]] [] (AV.tup [AV.str s0, AV.int Go.IntKind.i64 n1]) [] ∧
    ∃ n2 s3 s4 n5,
      Good PG nG G0 f_note_Parse [AV.str s0] [] (AV.tup [AV.agg [AV.int Go.IntKind.i64 n2, AV.str s3, AV.str s4], AV.int Go.IntKind.i64 n5]) [] ∧
        ∃ n6 s7 s8 n9,
          Good PG nG G0 f_note_Parse [AV.str [(50 : UInt8), (32 : UInt8), (50 : UInt8), (32 : UInt8), (52 : UInt8), (32 : UInt8), (97 : UInt8), (98 : UInt8), (99 : UInt8), (32 : UInt8), (100 : UInt8)]] []
              (AV.tup [AV.agg [AV.int Go.IntKind.i64 n6, AV.str s7, AV.str s8], AV.int Go.IntKind.i64 n9]) [] ∧
            ifK (n1 == (0 : Int))
              (ifK (n5 == (0 : Int))
                (ifK (n9 == (1 : Int))
                  (ifK (s0 == [(50 : UInt8), (32 : UInt8), (50 : UInt8), (32 : UInt8), (51 : UInt8), (32 : UInt8), (97 : UInt8), (98 : UInt8), (99 : UInt8), (32 : UInt8), (100 : UInt8)])
                    (R (AV.bool (eqAll [AV.int Go.IntKind.i64 n2, AV.str s3, AV.str s4] [AV.int Go.IntKind.i64 (2 : Int), AV.str [(97 : UInt8), (98 : UInt8)], AV.str [(99 : UInt8), (32 : UInt8), (100 : UInt8)]])) []) (R (AV.bool false) []))
                  (R (AV.bool false) []))
                (R (AV.bool false) []))
              (R (AV.bool false) [])) :
  Hold (runF PG ty nG G0 an_greatseallaw_noted f_greatseallaw_noted [] [] R) := kshow h (by kernel_rfl)

end Go.Ab

namespace Go.Ab
open Go.Proofs Go.Gs
variable {G0 : Nat → Option Obj}

def hasPre (s p : By) : Bool := s.take p.length == p
def hasSuf (s p : By) : Bool := decide (p.length ≤ s.length) && s.drop (s.length - p.length) == p

theorem good_hasPre1 (s p : By) : Good PG nG G0 f_internal_stringslite_HasPrefix [.str s, .str p] [] (.bool (hasPre s p)) [] := by
  refine good_of_run prOk (by kernel_rfl) (internal_stringslite_HasPrefix_run s p G0 _ ?_)
  rw [ifK_iff]
  simp only [decide_eq_true_eq, decide_eq_false_iff_not, Int.toNat_natCast, List.drop_zero]
  refine ⟨fun h => ⟨by omega, by omega, by omega, rfl, trivial⟩, fun h => ⟨?_, trivial⟩⟩
  have : hasPre s p = false := by
    unfold hasPre
    rw [beq_eq_false_iff_ne]
    intro e
    have := congrArg List.length e
    rw [List.length_take] at this
    omega
  rw [this]

theorem good_HasPrefix (s p : By) : Good PG nG G0 f_strings_HasPrefix [.str s, .str p] [] (.bool (hasPre s p)) [] :=
  good_of_run prOk (by kernel_rfl) (strings_HasPrefix_run s p G0 _ ⟨_, good_hasPre1 s p, rfl, rfl⟩)

theorem hasPre_one (s : By) (c : UInt8) : hasPre s [c] = (s.head? == some c) := by
  cases s with
  | nil => rfl
  | cons x r => simp [hasPre]

def openS (s : By) : By × Int := if s.head? = some 76 then (s.drop 1, 0) else ([], 4)

theorem good_Open (s : By) : Good PG nG G0 f_seal_Open [.str s] [] (.tup [.str (openS s).1, .int .i64 (openS s).2]) [] := by
  refine good_of_run prOk (by kernel_rfl) (seal_Open_run s G0 _ ⟨_, good_HasPrefix s [76], ?_⟩)
  rw [hasPre_one, ifK_iff]
  unfold openS
  simp only [Bool.not_eq_true', Bool.not_eq_false', beq_eq_false_iff_ne, ne_eq, beq_iff_eq, Int.toNat_natCast, List.take_length]
  refine ⟨fun h => ⟨by rw [if_neg h], trivial⟩, fun h => ?_⟩
  have h1 : 1 ≤ s.length := by
    cases s with
    | nil => cases h
    | cons _ _ => simp
  exact ⟨by omega, by omega, by omega, by rw [if_pos h], trivial⟩
end Go.Ab

namespace Go.Gs

/-- The seal of one key. -/
def tV : Option By → By × Int
  | some s => tLeaf s
  | none => ([69], 0)

theorem tV_inj {a b : Option By} {x : By} (h : tV a = (x, 0)) (k : tV b = (x, 0)) : a = b := by
  cases a with
  | none =>
    cases b with
    | none => rfl
    | some t =>
      have := tLeaf_ok (s := t) (by rw [show tLeaf t = (x, 0) from k])
      rw [show tLeaf t = (x, 0) from k] at this
      have h : ([69] : By) = x := (Prod.mk.injEq _ _ _ _ ▸ h).1
      rw [← h] at this
      simp at this
  | some s =>
    cases b with
    | none =>
      have := tLeaf_ok (s := s) (by rw [show tLeaf s = (x, 0) from h])
      rw [show tLeaf s = (x, 0) from h] at this
      have k : ([69] : By) = x := (Prod.mk.injEq _ _ _ _ ▸ k).1
      rw [← k] at this
      simp at this
    | some t => rw [tLeaf_inj h k]

/-- The seal of the 2^d keys from one on. -/
def tTrie (f : Nat → Option By) : Nat → Nat → By × Int
  | 0, i => tV (f i)
  | d + 1, i =>
    if (tTrie f d i).2 ≠ 0 then ([], (tTrie f d i).2)
    else if (tTrie f d (i + 2 ^ d)).2 ≠ 0 then ([], (tTrie f d (i + 2 ^ d)).2)
    else tNode (tTrie f d i).1 (tTrie f d (i + 2 ^ d)).1

/-- No value is too long. -/
def GoodV (f : Nat → Option By) : Prop := ∀ k v, f k = some v → v.length ≤ 12

def bnd : Nat → Nat
  | 0 => 13
  | d + 1 => 3 * bnd d + 3

theorem tTrie_good {f : Nat → Option By} (hf : GoodV f) : ∀ (d i : Nat), d ≤ 4 → (tTrie f d i).2 = 0 ∧ (tTrie f d i).1.length ≤ bnd d
  | 0, i, _ => by
    unfold tTrie
    cases h : f i with
    | none => exact ⟨rfl, by simp [tV, bnd]⟩
    | some v =>
      have := hf i v h
      simp only [tV, tLeaf, bnd]
      rw [if_neg (by omega)]
      exact ⟨rfl, by simp; omega⟩
  | d + 1, i, hd => by
    obtain ⟨a1, a2⟩ := tTrie_good hf d i (by omega)
    obtain ⟨b1, b2⟩ := tTrie_good hf d (i + 2 ^ d) (by omega)
    have hb : bnd d ≤ 1173 := by
      have : d = 0 ∨ d = 1 ∨ d = 2 ∨ d = 3 := by omega
      rcases this with rfl | rfl | rfl | rfl <;> decide
    have := itoa_len (tTrie f d i).1.length
    rw [tTrie, if_neg (by simpa using a1), if_neg (by simpa using b1)]
    unfold tNode
    rw [if_neg (by omega)]
    refine ⟨rfl, ?_⟩
    simp only [List.length_cons, List.length_append, bnd]
    omega

theorem tTrie_node {f : Nat → Option By} (hf : GoodV f) {d i : Nat} (hd : d + 1 ≤ 4) : tNode (tTrie f d i).1 (tTrie f d (i + 2 ^ d)).1 = ((tTrie f (d + 1) i).1, 0) := by
  have h := tTrie_good hf (d + 1) i hd
  have a := tTrie_good hf d i (by omega)
  have b := tTrie_good hf d (i + 2 ^ d) (by omega)
  have : tTrie f (d + 1) i = tNode (tTrie f d i).1 (tTrie f d (i + 2 ^ d)).1 := by
    rw [tTrie, if_neg (by simpa using a.1), if_neg (by simpa using b.1)]
  rw [← this]
  exact Prod.ext rfl h.1

theorem tTrie_inj {f g : Nat → Option By} (hf : GoodV f) (hg : GoodV g) : ∀ (d i : Nat), d ≤ 4 → (tTrie f d i).1 = (tTrie g d i).1 → ∀ k, i ≤ k → k < i + 2 ^ d → f k = g k
  | 0, i, _, h, k, h1, h2 => by
    obtain rfl : k = i := by simp at h2; omega
    have a := tTrie_good hf 0 k (by omega)
    have b := tTrie_good hg 0 k (by omega)
    exact tV_inj (x := (tTrie f 0 k).1) (Prod.ext rfl a.1) (Prod.ext h.symm b.1)
  | d + 1, i, hd, h, k, h1, h2 => by
    have a := tTrie_node hf (d := d) (i := i) hd
    have b := tTrie_node hg (d := d) (i := i) hd
    rw [← h] at b
    obtain ⟨e1, e2⟩ := tNode_inj a b
    rcases Nat.lt_or_ge k (i + 2 ^ d) with hk | hk
    · exact tTrie_inj hf hg d i (by omega) e1 k h1 hk
    · exact tTrie_inj hf hg d (i + 2 ^ d) (by omega) e2 k hk (by rw [Nat.pow_succ] at h2; omega)

theorem tTrie_same {f g : Nat → Option By} : ∀ (d i : Nat), (∀ k, i ≤ k → k < i + 2 ^ d → f k = g k) → tTrie f d i = tTrie g d i
  | 0, i, h => by rw [tTrie, tTrie, h i (Nat.le_refl _) (by simp)]
  | d + 1, i, h => by
    have e : (2 : Nat) ^ (d + 1) = 2 ^ d + 2 ^ d := by rw [Nat.pow_succ]; omega
    have h1 := tTrie_same d i fun k h1 h2 => h k h1 (by omega)
    have h2 := tTrie_same d (i + 2 ^ d) fun k h1 h2 => h k (by omega) (by omega)
    rw [tTrie, tTrie, h1, h2]

/-- Where the 2^d keys begin among which a key is; where those beside begin. -/
def base (d key : Nat) : Nat := key / 2 ^ d * 2 ^ d
def sib (d key : Nat) : Nat := if key / 2 ^ d % 2 = 1 then base d key - 2 ^ d else base d key + 2 ^ d
def bitOf (key d : Nat) : Bool := key / 2 ^ d % 2 == 1
def bitsOf (key d : Nat) : List Bool := (List.range d).map (bitOf key)
def triePath (f : Nat → Option By) (key d : Nat) : List By := (List.range d).map fun k => (tTrie f k (sib k key)).1

theorem bitsOf_succ (key d : Nat) : bitsOf key (d + 1) = bitsOf key d ++ [bitOf key d] := by simp [bitsOf, List.range_succ]
theorem triePath_succ (f : Nat → Option By) (key d : Nat) : triePath f key (d + 1) = triePath f key d ++ [(tTrie f d (sib d key)).1] := by simp [triePath, List.range_succ]
theorem bitsOf_len (key d : Nat) : (bitsOf key d).length = d := by simp [bitsOf]
theorem triePath_len (f : Nat → Option By) (key d : Nat) : (triePath f key d).length = d := by simp [triePath]

theorem base_succ (d key : Nat) : (bitOf key d = true → base d key = base (d + 1) key + 2 ^ d ∧ sib d key = base (d + 1) key) ∧ (bitOf key d = false → base d key = base (d + 1) key ∧ sib d key = base (d + 1) key + 2 ^ d) := by
  have hp : 0 < 2 ^ d := Nat.pos_of_ne_zero (by simp)
  have e : key / 2 ^ (d + 1) = key / 2 ^ d / 2 := by rw [Nat.pow_succ, Nat.div_div_eq_div_mul]
  have key2 : base (d + 1) key = (key / 2 ^ d / 2 * 2) * 2 ^ d := by
    unfold base; rw [e, Nat.pow_succ, Nat.mul_comm (2 ^ d) 2, Nat.mul_assoc]
  unfold bitOf sib
  rw [key2]
  unfold base
  constructor
  · intro h
    have h : key / 2 ^ d % 2 = 1 := by simpa using h
    rw [if_pos h]
    have h2 : key / 2 ^ d = key / 2 ^ d / 2 * 2 + 1 := by omega
    have h3 : key / 2 ^ d * 2 ^ d = key / 2 ^ d / 2 * 2 * 2 ^ d + 2 ^ d := by
      conv => lhs; rw [h2]
      rw [Nat.add_mul, Nat.one_mul]
    exact ⟨h3, by omega⟩
  · intro h
    have h : ¬ key / 2 ^ d % 2 = 1 := by simpa using h
    rw [if_neg h]
    have h2 : key / 2 ^ d = key / 2 ^ d / 2 * 2 := by omega
    have h3 : key / 2 ^ d * 2 ^ d = key / 2 ^ d / 2 * 2 * 2 ^ d := by
      conv => lhs; rw [h2]
    exact ⟨h3, by omega⟩

theorem trie_climb {f : Nat → Option By} (hf : GoodV f) (key : Nat) : ∀ (d : Nat) (now : By) (l : List By), d ≤ 4 → l.length = d →
    (climb now (bitsOf key d) (List.zip (bitsOf key d) l) = ((tTrie f d (base d key)).1, 0) ↔ tV (f key) = (now, 0) ∧ l = triePath f key d)
  | 0, now, l, _, hl => by
    obtain rfl : l = [] := List.eq_nil_of_length_eq_zero hl
    have h0 : base 0 key = key := by simp [base]
    have hg := (tTrie_good hf 0 key (by omega)).1
    rw [h0]
    simp only [bitsOf, List.range_zero, List.map_nil, List.zip_nil_left, climb, triePath, and_true, Prod.mk.injEq]
    constructor
    · rintro rfl; exact Prod.ext rfl hg
    · intro h; rw [tTrie, h]
  | d + 1, now, l, hd, hl => by
    have hne : l ≠ [] := by rintro rfl; simp at hl
    obtain ⟨st, last, rfl⟩ : ∃ st last, l = st ++ [last] := ⟨l.dropLast, l.getLast hne, (List.dropLast_concat_getLast hne).symm⟩
    have hsl : st.length = d := by simpa using hl
    have IH := trie_climb hf key d now st (by omega) hsl
    have hz : List.zip (bitsOf key d ++ [bitOf key d]) (st ++ [last]) = List.zip (bitsOf key d) st ++ [(bitOf key d, last)] := by
      rw [List.zip_append (by rw [bitsOf_len, hsl])]; rfl
    have hlen : (bitsOf key d).length = (List.zip (bitsOf key d) st).length := by rw [List.length_zip, bitsOf_len, hsl]; omega
    rw [bitsOf_succ, triePath_succ, hz, climb_append _ _ _ _ _ hlen]
    obtain ⟨b1, b2⟩ := base_succ d key
    have node : up1 (tTrie f d (base d key)).1 (bitOf key d, (tTrie f d (sib d key)).1) = ((tTrie f (d + 1) (base (d + 1) key)).1, 0) := by
      unfold up1
      cases hb : bitOf key d with
      | true =>
        obtain ⟨e1, e2⟩ := b1 hb
        rw [e1, e2]
        exact tTrie_node hf hd
      | false =>
        obtain ⟨e1, e2⟩ := b2 hb
        rw [e1, e2]
        exact tTrie_node hf hd
    constructor
    · intro h
      split at h
      · rename_i h1; rw [Prod.mk.injEq] at h; exact absurd h.2 h1
      · rename_i h1
        have h1 : (climb now (bitsOf key d) (List.zip (bitsOf key d) st)).2 = 0 := by simpa using h1
        simp only [climb] at h
        rw [if_neg (by simp)] at h
        split at h
        · rename_i h4; rw [Prod.mk.injEq] at h; exact absurd h.2 h4
        · rename_i h4
          have h4 : (up1 (climb now (bitsOf key d) (List.zip (bitsOf key d) st)).1 (bitOf key d, last)).2 = 0 := by simpa using h4
          have h5 : up1 (climb now (bitsOf key d) (List.zip (bitsOf key d) st)).1 (bitOf key d, last) = ((tTrie f (d + 1) (base (d + 1) key)).1, 0) := by
            rw [← h]; exact Prod.ext rfl h4
          have hh : (climb now (bitsOf key d) (List.zip (bitsOf key d) st)).1 = (tTrie f d (base d key)).1 ∧ last = (tTrie f d (sib d key)).1 := by
            unfold up1 at h5 node
            cases hb : bitOf key d with
            | true =>
              rw [hb] at h5 node
              obtain ⟨g1, g2⟩ := tNode_inj h5 node
              exact ⟨g2, g1⟩
            | false =>
              rw [hb] at h5 node
              obtain ⟨g1, g2⟩ := tNode_inj h5 node
              exact ⟨g1, g2⟩
          obtain ⟨g3, g4⟩ := IH.1 (Prod.ext hh.1 h1)
          exact ⟨g3, by rw [g4, hh.2]⟩
    · rintro ⟨h1, h3⟩
      obtain ⟨h4, h5⟩ := List.append_inj' h3 rfl
      have h6 := IH.2 ⟨h1, h4⟩
      rw [h6]
      have h5 : last = (tTrie f d (sib d key)).1 := by simpa using h5
      rw [h5]
      simp only [climb]
      rw [if_neg (by simp), if_neg (by simp), node]
      simp

/-- Do seals show that a key has a value (or none) where this is the seal of all? -/
def trieShows (all : By) (key : Int) (value : By) (there : Bool) (l : List By) : Int :=
  if key < 0 ∨ 16 ≤ key then 5 else if there = false ∧ value ≠ [] then 4 else if l.length ≠ 4 then 7
  else if (tV (if there then some value else none)).2 ≠ 0 then (tV (if there then some value else none)).2
  else if (climb (tV (if there then some value else none)).1 (bitsOf key.toNat 4) (List.zip (bitsOf key.toNat 4) l)).2 ≠ 0 then (climb (tV (if there then some value else none)).1 (bitsOf key.toNat 4) (List.zip (bitsOf key.toNat 4) l)).2
  else if (climb (tV (if there then some value else none)).1 (bitsOf key.toNat 4) (List.zip (bitsOf key.toNat 4) l)).1 ≠ all then 7 else 0

theorem trieShows_iff {f : Nat → Option By} (hf : GoodV f) {key : Nat} (hk : key < 16) (value : By) (there : Bool) (l : List By) :
    trieShows (tTrie f 4 0).1 key value there l = 0 ↔ (there = (f key).isSome ∧ value = (f key).getD [] ∧ l = triePath f key 4) := by
  have hb : base 4 key = 0 := by simp only [base]; omega
  have hc := fun now l => trie_climb hf key 4 now l (Nat.le_refl _)
  rw [hb] at hc
  have hg : (tV (f key)).2 = 0 := (tTrie_good hf 0 key (by omega)).1
  unfold trieShows
  rw [if_neg (by omega), Int.toNat_natCast]
  constructor
  · intro h
    generalize hs : tV (if there then some value else none) = s at h
    split at h
    · cases h
    · rename_i h0
      split at h
      · cases h
      · rename_i h1
        have h1 : l.length = 4 := by simpa using h1
        split at h
        · rename_i h2; exact absurd h h2
        · rename_i h2
          have h2 : s.2 = 0 := by simpa using h2
          split at h
          · rename_i h3; exact absurd h h3
          · rename_i h3
            have h3 : (climb s.1 (bitsOf key 4) (List.zip (bitsOf key 4) l)).2 = 0 := by simpa using h3
            split at h
            · cases h
            · rename_i h4
              have h4 : (climb s.1 (bitsOf key 4) (List.zip (bitsOf key 4) l)).1 = (tTrie f 4 0).1 := by simpa using h4
              obtain ⟨g1, g2⟩ := (hc _ l h1).1 (Prod.ext h4 h3)
              have := tV_inj (x := s.1) (hs.trans (Prod.ext rfl h2)) g1
              rw [← this]
              cases there with
              | true => exact ⟨rfl, rfl, g2⟩
              | false => exact ⟨rfl, by simpa using h0, g2⟩
  · rintro ⟨rfl, rfl, rfl⟩
    have e : (if (f key).isSome = true then some ((f key).getD []) else none) = f key := by cases f key <;> rfl
    have h5 := (hc (tV (f key)).1 (triePath f key 4) (triePath_len _ _ _)).2 ⟨Prod.ext rfl hg, rfl⟩
    rw [e, h5, if_neg (by cases f key <;> simp), if_neg (by simp [triePath_len]), if_neg (by simpa using hg), if_neg (by simp), if_neg (by simp)]

/-- A key's path doesn't hang on its own value. -/
theorem triePath_same {f g : Nat → Option By} {key : Nat} (h : ∀ k, k ≠ key → f k = g k) (d : Nat) : triePath f key d = triePath g key d := by
  unfold triePath
  refine List.map_congr_left fun k _ => ?_
  rw [tTrie_same k (sib k key) fun j h1 h2 => h j ?_]
  rintro rfl
  have hp : 0 < 2 ^ k := Nat.pos_of_ne_zero (by simp)
  have hb1 : base k j ≤ j := Nat.div_mul_le_self _ _
  have hb2 : j < base k j + 2 ^ k := by
    have h3 := Nat.div_add_mod j (2 ^ k)
    have h4 := Nat.mod_lt j hp
    rw [Nat.mul_comm] at h3
    unfold base
    omega
  obtain ⟨c1, c2⟩ := base_succ k j
  cases hb : bitOf j k with
  | true => obtain ⟨e1, e2⟩ := c1 hb; omega
  | false => obtain ⟨e1, e2⟩ := c2 hb; omega
end Go.Gs

namespace Go.Gs

abbrev Mp := List (Int × By)

def mGet : Mp → Int → Option By
  | [], _ => none
  | p :: r, k => if p.1 = k then some p.2 else mGet r k

def mPut : Mp → Int → By → Mp
  | [], k, v => [(k, v)]
  | p :: r, k, v => if p.1 = k then (k, v) :: r else p :: mPut r k v

theorem mGet_put : ∀ (m : Mp) (k : Int) (v : By) (j : Int), mGet (mPut m k v) j = if j = k then some v else mGet m j
  | [], k, v, j => by
    simp only [mPut, mGet]
    by_cases h : j = k
    · rw [if_pos h.symm, if_pos h]
    · rw [if_neg (fun e => h e.symm), if_neg h]
  | p :: r, k, v, j => by
    unfold mPut
    split
    · rename_i h
      simp only [mGet]
      by_cases hj : j = k
      · rw [if_pos hj.symm, if_pos hj]
      · rw [if_neg (fun e => hj e.symm), if_neg hj, if_neg (fun e => hj (by rw [← e, h]))]
    · rename_i h
      simp only [mGet]
      rw [mGet_put r k v j]
      by_cases hj : j = k
      · rw [if_neg (by rw [hj]; exact h), if_pos hj, if_pos hj]
      · rw [if_neg hj, if_neg hj]

theorem mGet_none {m : Mp} {k : Int} : mGet m k = none ↔ k ∉ m.map (·.1) := by
  induction m with
  | nil => simp [mGet]
  | cons p r ih =>
    simp only [mGet, List.map_cons, List.mem_cons, not_or]
    split
    · rename_i h; simp [h]
    · rename_i h; rw [ih]; exact ⟨fun h2 => ⟨fun e => h e.symm, h2⟩, fun h2 => h2.2⟩

theorem mGet_mem {m : Mp} {k : Int} {v : By} (h : mGet m k = some v) : (k, v) ∈ m := by
  induction m with
  | nil => simp [mGet] at h
  | cons p r ih =>
    simp only [mGet] at h
    split at h
    · rename_i hk; rw [← hk, ← Option.some.inj h]; simp
    · simp [ih h]

theorem mGet_of_mem {m : Mp} (hn : (m.map (·.1)).Nodup) {k : Int} {v : By} (h : (k, v) ∈ m) : mGet m k = some v := by
  induction m with
  | nil => simp at h
  | cons p r ih =>
    simp only [List.map_cons, List.nodup_cons] at hn
    simp only [mGet]
    rcases List.mem_cons.1 h with h | h
    · rw [← h]; simp
    · rw [if_neg, ih hn.2 h]
      intro e
      exact hn.1 (List.mem_map.2 ⟨_, h, e.symm⟩)

theorem mPut_keys (m : Mp) (k : Int) (v : By) : (mPut m k v).map (·.1) = if k ∈ m.map (·.1) then m.map (·.1) else m.map (·.1) ++ [k] := by
  induction m with
  | nil => simp [mPut]
  | cons p r ih =>
    unfold mPut
    split
    · rename_i h; simp [h]
    · rename_i h
      rw [List.map_cons, ih]
      simp only [List.map_cons, List.mem_cons]
      by_cases hk : k ∈ r.map (·.1)
      · rw [if_pos hk, if_pos (.inr hk)]
      · rw [if_neg hk, if_neg (by rintro (e | e); exact h e.symm; exact hk e)]; rfl

theorem mPut_nodup {m : Mp} (hn : (m.map (·.1)).Nodup) (k : Int) (v : By) : ((mPut m k v).map (·.1)).Nodup := by
  rw [mPut_keys]
  split
  · exact hn
  · rename_i h
    rw [List.nodup_append]
    exact ⟨hn, by simp, fun a ha b hb => by rw [List.mem_singleton.1 hb]; rintro rfl; exact h ha⟩

theorem mPut_len (m : Mp) (k : Int) (v : By) : (mPut m k v).length = if (mGet m k).isSome then m.length else m.length + 1 := by
  have := congrArg List.length (mPut_keys m k v)
  rw [List.length_map] at this
  rw [this]
  cases h : mGet m k with
  | none => rw [if_neg (mGet_none.1 h)]; simp
  | some v' =>
    rw [if_pos (by
      have := mGet_mem h
      exact List.mem_map.2 ⟨_, this, rfl⟩)]
    simp

/-- Two maps alike: as many, and each of the one's in the other one. -/
def mEq (m o : Mp) : Bool := m.length == o.length && m.all fun p => mGet o p.1 == some p.2

theorem mEq_iff {m o : Mp} (hm : (m.map (·.1)).Nodup) (ho : (o.map (·.1)).Nodup) : mEq m o = true ↔ ∀ k, mGet m k = mGet o k := by
  unfold mEq
  simp only [Bool.and_eq_true, beq_iff_eq, List.all_eq_true]
  constructor
  · rintro ⟨h1, h2⟩ k
    cases h : mGet m k with
    | some v => exact (h2 _ (mGet_mem h)).symm
    | none =>
      have hk := mGet_none.1 h
      have sub : m.map (·.1) ⊆ o.map (·.1) := by
        intro a ha
        obtain ⟨p, hp, rfl⟩ := List.mem_map.1 ha
        exact List.mem_map.2 ⟨_, mGet_mem (h2 p hp), rfl⟩
      symm
      rw [mGet_none]
      intro hko
      have hsub2 : k :: m.map (·.1) ⊆ o.map (·.1) := by
        intro a ha
        rcases List.mem_cons.1 ha with rfl | ha
        · exact hko
        · exact sub ha
      have := (List.nodup_cons.2 ⟨hk, hm⟩).length_le_of_subset hsub2
      simp only [List.length_cons, List.length_map] at this
      omega
  · intro h
    refine ⟨Nat.le_antisymm ?_ ?_, fun p hp => ?_⟩
    · have sub : m.map (·.1) ⊆ o.map (·.1) := by
        intro a ha
        apply Classical.byContradiction
        intro hc
        have := mGet_none.2 hc
        rw [← h a] at this
        exact mGet_none.1 this ha
      have := hm.length_le_of_subset sub
      simpa using this
    · have sub : o.map (·.1) ⊆ m.map (·.1) := by
        intro a ha
        apply Classical.byContradiction
        intro hc
        have := mGet_none.2 hc
        rw [h a] at this
        exact mGet_none.1 this ha
      have := ho.length_le_of_subset sub
      simpa using this
    · rw [← h]
      exact mGet_of_mem hm hp

/-- Values are some: one for each key at most. -/
def checkM (m : Mp) : Int :=
  if m.any (fun p => decide (0 ≤ p.1 ∧ p.1 < 16) && decide (12 < p.2.length)) then 2 else if m.any (fun p => decide (p.1 < 0 ∨ 16 ≤ p.1)) then 5 else 0

theorem checkM_ok {m : Mp} (h : checkM m = 0) : ∀ p ∈ m, 0 ≤ p.1 ∧ p.1 < 16 ∧ p.2.length ≤ 12 := by
  intro p hp
  unfold checkM at h
  split at h
  · cases h
  · rename_i h1
    split at h
    · cases h
    · rename_i h2
      simp only [List.any_eq_true, Bool.and_eq_true, decide_eq_true_eq, not_exists, not_and] at h1 h2
      have a := h1 p hp
      have b := h2 p hp
      omega

theorem checkM_mk {m : Mp} (h : ∀ p ∈ m, 0 ≤ p.1 ∧ p.1 < 16 ∧ p.2.length ≤ 12) : checkM m = 0 := by
  unfold checkM
  rw [if_neg, if_neg]
  · simp only [List.any_eq_true, decide_eq_true_eq, not_exists, not_and]
    intro p hp; have := h p hp; omega
  · simp only [List.any_eq_true, Bool.and_eq_true, decide_eq_true_eq, not_exists, not_and]
    intro p hp; have := h p hp; omega

/-- What a map gives, by small numbers. -/
def fM (m : Mp) : Nat → Option By := fun k => mGet m k

theorem fM_good {m : Mp} (h : checkM m = 0) : GoodV (fM m) := fun _ _ hv => (checkM_ok h _ (mGet_mem hv)).2.2

/-- The seal of values. -/
def mapRoot (m : Mp) : By × Int := if checkM m ≠ 0 then ([], checkM m) else tTrie (fM m) 4 0

theorem mapRoot_ok {m : Mp} (h : checkM m = 0) : mapRoot m = ((tTrie (fM m) 4 0).1, 0) := by
  rw [mapRoot, if_neg (by simpa using h)]
  exact Prod.ext rfl (tTrie_good (fM_good h) 4 0 (Nat.le_refl _)).1

theorem mapRoot_code (m : Mp) : (mapRoot m).2 = checkM m := by
  by_cases h : checkM m = 0
  · rw [mapRoot_ok h, h]
  · rw [mapRoot, if_pos h]

theorem mapRoot_inj {m o : Mp} (hm : (m.map (·.1)).Nodup) (ho : (o.map (·.1)).Nodup) (h1 : checkM m = 0) (h2 : checkM o = 0) : (mapRoot m).1 = (mapRoot o).1 ↔ mEq m o = true := by
  rw [mEq_iff hm ho, mapRoot_ok h1, mapRoot_ok h2]
  constructor
  · intro h k
    by_cases hk : 0 ≤ k ∧ k < 16
    · have := tTrie_inj (fM_good h1) (fM_good h2) 4 0 (Nat.le_refl _) h k.toNat (by omega) (by omega)
      unfold fM at this
      rwa [Int.toNat_of_nonneg hk.1] at this
    · have a : mGet m k = none := by rw [mGet_none]; intro hc; obtain ⟨p, hp, rfl⟩ := List.mem_map.1 hc; have := checkM_ok h1 p hp; omega
      have b : mGet o k = none := by rw [mGet_none]; intro hc; obtain ⟨p, hp, rfl⟩ := List.mem_map.1 hc; have := checkM_ok h2 p hp; omega
      rw [a, b]
  · intro h
    have : fM m = fM o := by funext k; exact h k
    rw [this]

end Go.Gs

namespace Go.Gs

abbrev En := Int × By
abbrev Bk := List En

/-- The text of an entry. -/
def textE (e : En) : By := Lib.itoa e.1 ++ 32 :: e.2

def badE (e : En) : Int := if e.1 < 0 ∨ 16 ≤ e.1 then 5 else if 12 < e.2.length then 2 else 0

def firstBad : Bk → Int
  | [] => 0
  | e :: r => if badE e ≠ 0 then badE e else firstBad r

def checkB (b : Bk) : Int := if 24 < b.length then 2 else firstBad b

theorem firstBad_ok {b : Bk} (h : firstBad b = 0) : ∀ e ∈ b, 0 ≤ e.1 ∧ e.1 < 16 ∧ e.2.length ≤ 12 := by
  induction b with
  | nil => intro e he; cases he
  | cons x r ih =>
    unfold firstBad at h
    split at h
    · rename_i hb; exact absurd h hb
    · rename_i hb
      intro e he
      rcases List.mem_cons.1 he with rfl | he
      · unfold badE at hb
        split at hb
        · simp at hb
        · split at hb
          · simp at hb
          · omega
      · exact ih h e he

theorem firstBad_mk {b : Bk} (h : ∀ e ∈ b, 0 ≤ e.1 ∧ e.1 < 16 ∧ e.2.length ≤ 12) : firstBad b = 0 := by
  induction b with
  | nil => rfl
  | cons x r ih =>
    have hx := h x (by simp)
    have : badE x = 0 := by unfold badE; rw [if_neg (by omega), if_neg (by omega)]
    unfold firstBad
    rw [if_neg (by rw [this]; simp)]
    exact ih fun e he => h e (by simp [he])

theorem checkB_ok {b : Bk} (h : checkB b = 0) : b.length ≤ 24 ∧ ∀ e ∈ b, 0 ≤ e.1 ∧ e.1 < 16 ∧ e.2.length ≤ 12 := by
  unfold checkB at h
  split at h
  · cases h
  · exact ⟨by omega, firstBad_ok h⟩

theorem checkB_mk {b : Bk} (h0 : b.length ≤ 24) (h : ∀ e ∈ b, 0 ≤ e.1 ∧ e.1 < 16 ∧ e.2.length ≤ 12) : checkB b = 0 := by
  unfold checkB
  rw [if_neg (by omega)]
  exact firstBad_mk h

theorem checkB_take {b : Bk} (h : checkB b = 0) (n : Nat) : checkB (b.take n) = 0 := by
  obtain ⟨h1, h2⟩ := checkB_ok h
  exact checkB_mk (by simp only [List.length_take]; omega) fun e he => h2 e (List.mem_of_mem_take he)

/-- Texts of all entries. -/
def textsOf (b : Bk) : List By := b.map textE

/-- Values behind all entries. -/
def valsOf (b : Bk) : Mp := b.foldl (fun m e => mPut m e.1 e.2) []

theorem valsOf_snoc (b : Bk) (e : En) : valsOf (b ++ [e]) = mPut (valsOf b) e.1 e.2 := by simp [valsOf]

theorem valsOf_nodup (b : Bk) : ((valsOf b).map (·.1)).Nodup := by
  have key : ∀ (b : Bk) (m : Mp), (m.map (·.1)).Nodup → ((b.foldl (fun m e => mPut m e.1 e.2) m).map (·.1)).Nodup := by
    intro b
    induction b with
    | nil => intro m h; exact h
    | cons e r ih => intro m h; exact ih _ (mPut_nodup h _ _)
  exact key b [] (by simp)

theorem mPut_mem {m : Mp} {k : Int} {v : By} {p : Int × By} (h : p ∈ mPut m k v) : p = (k, v) ∨ p ∈ m := by
  induction m with
  | nil => simp [mPut] at h; exact .inl h
  | cons q r ih =>
    unfold mPut at h
    split at h
    · rcases List.mem_cons.1 h with h | h
      · exact .inl h
      · exact .inr (by simp [h])
    · rcases List.mem_cons.1 h with h | h
      · exact .inr (by simp [h])
      · rcases ih h with h | h
        · exact .inl h
        · exact .inr (by simp [h])

theorem valsOf_mem {b : Bk} {p : Int × By} (h : p ∈ valsOf b) : p ∈ b := by
  have key : ∀ (b : Bk) (m : Mp), p ∈ b.foldl (fun m e => mPut m e.1 e.2) m → p ∈ b ∨ p ∈ m := by
    intro b
    induction b with
    | nil => intro m h; exact .inr h
    | cons e r ih =>
      intro m h
      rcases ih _ h with h | h
      · exact .inl (by simp [h])
      · rcases mPut_mem h with h | h
        · exact .inl (by simp [h])
        · exact .inr h
  rcases key b [] h with h | h
  · exact h
  · cases h

theorem valsOf_check {b : Bk} (h : checkB b = 0) : checkM (valsOf b) = 0 := checkM_mk fun p hp => (checkB_ok h).2 p (valsOf_mem hp)

theorem valsOf_len (b : Bk) : (valsOf b).length ≤ b.length := by
  have key : ∀ (b : Bk) (m : Mp), (b.foldl (fun m e => mPut m e.1 e.2) m).length ≤ m.length + b.length := by
    intro b
    induction b with
    | nil => intro m; exact Nat.le_refl _
    | cons e r ih =>
      intro m
      have := ih (mPut m e.1 e.2)
      rw [mPut_len] at this
      simp only [List.foldl_cons, List.length_cons]
      split at this <;> omega
  have := key b []
  simpa [valsOf] using this

/-- Texts of a book's entries are short, so that its seal is good. -/
theorem decDigits_small {u : Nat} (h : u < 100) : (Lib.decDigits u).length ≤ 2 := by
  rw [Lib.decDigits]
  split
  · simp
  · rw [Lib.decDigits, dif_pos (by omega)]; simp

theorem decDigits_len4 {u : Nat} (h : u < 100000) : (Lib.decDigits u).length ≤ 5 := by
  have step : ∀ (u k : Nat), (Lib.decDigits (u / 10)).length ≤ k → (Lib.decDigits u).length ≤ k + 1 := by
    intro u k h
    rw [Lib.decDigits]
    split
    · simp
    · simp only [List.length_append, List.length_cons, List.length_nil]; omega
  exact step u 4 (step _ 3 (step _ 2 (decDigits_small (by omega))))

theorem textE_len {e : En} (h : 0 ≤ e.1 ∧ e.1 < 16 ∧ e.2.length ≤ 12) : (textE e).length ≤ 15 := by
  unfold textE
  have he : e.1 = ((e.1.toNat : Nat) : Int) := by omega
  rw [he, itoa_nat]
  have := decDigits_small (u := e.1.toNat) (by omega)
  simp only [List.length_append, List.length_cons]; omega

theorem tRoot_short : ∀ (n : Nat) (l : List By), l.length ≤ n → n ≤ 24 → (∀ s ∈ l, s.length ≤ 15) → (tRoot l).2 = 0 ∧ (tRoot l).1.length + 7 ≤ 23 * (max 1 l.length) := by
  intro n
  induction n with
  | zero =>
    intro l h _ _
    have : l = [] := List.eq_nil_of_length_eq_zero (by omega)
    subst this
    rw [tRoot_zero rfl]; exact ⟨rfl, by simp⟩
  | succ n ih =>
    intro l hn hb hs
    rcases Nat.lt_or_ge l.length 2 with h2 | h2
    · rcases Nat.lt_or_ge l.length 1 with h1 | h1
      · have : l = [] := List.eq_nil_of_length_eq_zero (by omega)
        subst this
        rw [tRoot_zero rfl]; exact ⟨rfl, by simp⟩
      · obtain ⟨s, rfl⟩ := List.length_eq_one_iff.1 (show l.length = 1 by omega)
        have := hs s (by simp)
        have hlf : tLeaf s = (76 :: s, 0) := by unfold tLeaf; rw [if_neg (by omega)]
        rw [tRoot_one rfl, List.headD_cons, hlf]
        refine ⟨rfl, ?_⟩
        simp only [List.length_cons, List.length_nil]; omega
    · have hk1 := halfN_pos l.length
      have hk2 := halfN_lt h2
      obtain ⟨a1, a2⟩ := ih (l.take (halfN l.length)) (by simp only [List.length_take]; omega) (by omega) fun s h => hs s (List.mem_of_mem_take h)
      obtain ⟨b1, b2⟩ := ih (l.drop (halfN l.length)) (by simp only [List.length_drop]; omega) (by omega) fun s h => hs s (List.mem_of_mem_drop h)
      simp only [List.length_take, List.length_drop] at a2 b2
      have c := decDigits_len4 (u := (tRoot (l.take (halfN l.length))).1.length) (by omega)
      rw [tRoot_two h2, if_neg (by simpa using a1), if_neg (by simpa using b1)]
      unfold tNode
      rw [if_neg (by omega), itoa_nat]
      refine ⟨rfl, ?_⟩
      simp only [List.length_cons, List.length_append]
      omega

theorem texts_good {b : Bk} (h : checkB b = 0) : (tRoot (textsOf b)).2 = 0 ∧ (tRoot (textsOf b)).1.length ≤ 545 := by
  obtain ⟨h1, h2⟩ := checkB_ok h
  have hl : (textsOf b).length = b.length := by simp [textsOf]
  have := tRoot_short _ (textsOf b) (Nat.le_refl _) (by omega) fun s hs => by
    obtain ⟨e, he, rfl⟩ := List.mem_map.1 hs
    exact textE_len (h2 e he)
  exact ⟨this.1, by omega⟩

theorem textE_inj {e f : En} (he : 0 ≤ e.1) (hf : 0 ≤ f.1) (h : textE e = textE f) : e = f := by
  unfold textE at h
  have e1 : e.1 = ((e.1.toNat : Nat) : Int) := by omega
  have f1 : f.1 = ((f.1.toNat : Nat) : Int) := by omega
  rw [e1, f1, itoa_nat, itoa_nat] at h
  have no : ∀ n : Nat, (32 : UInt8) ∉ Lib.decDigits n := fun n hc => by
    have := dec_digit n _ hc
    simp at this
  obtain ⟨h1, h2⟩ := split_first (no _) (no _) h
  have := dec_inj h1
  exact Prod.ext (by omega) h2

theorem textsOf_inj : ∀ {b c : Bk}, (∀ e ∈ b, 0 ≤ e.1) → (∀ e ∈ c, 0 ≤ e.1) → textsOf b = textsOf c → b = c
  | [], [], _, _, _ => rfl
  | [], _ :: _, _, _, h => by simp [textsOf] at h
  | _ :: _, [], _, _, h => by simp [textsOf] at h
  | e :: b, f :: c, hb, hc, h => by
    simp only [textsOf, List.map_cons, List.cons.injEq] at h
    rw [textE_inj (hb e (by simp)) (hc f (by simp)) h.1, textsOf_inj (fun e he => hb e (by simp [he])) (fun e he => hc e (by simp [he])) h.2]

/-- A head. -/
structure Hd where
  n : Int
  log : By
  mp : By
  deriving DecidableEq, Inhabited

def hd0 : Hd := ⟨0, [], []⟩

/-- The head of a book. -/
def headOf (b : Bk) : Hd × Int := if checkB b ≠ 0 then (hd0, checkB b) else (⟨b.length, (tRoot (textsOf b)).1, (mapRoot (valsOf b)).1⟩, 0)

theorem headOf_ok {b : Bk} (h : checkB b = 0) : headOf b = (⟨b.length, (tRoot (textsOf b)).1, (mapRoot (valsOf b)).1⟩, 0) := by rw [headOf, if_neg (by simpa using h)]
theorem headOf_code (b : Bk) : (headOf b).2 = checkB b := by
  unfold headOf
  split
  · rfl
  · rename_i h; simpa using (show ¬ checkB b ≠ 0 from h) |> fun h => (Decidable.not_not.1 h).symm

theorem mapRoot_len {m : Mp} (h : checkM m = 0) : (mapRoot m).1.length ≤ 1173 := by
  rw [mapRoot_ok h]
  have := (tTrie_good (fM_good h) 4 0 (Nat.le_refl _)).2
  have hb : bnd 4 = 1173 := by decide
  rw [hb] at this
  exact this

/-- NO TWO BOOKS HAVE ONE HEAD. -/
theorem headOf_inj {b c : Bk} (hb : checkB b = 0) (hc : checkB c = 0) : headOf b = headOf c ↔ b = c := by
  constructor
  · intro h
    rw [headOf_ok hb, headOf_ok hc] at h
    have h2 : (tRoot (textsOf b)).1 = (tRoot (textsOf c)).1 := by injection h with h _; injection h
    have := tRoot_inj _ _ _ (Nat.le_refl _) (texts_good hb).1 (texts_good hc).1 h2
    exact textsOf_inj (fun e he => ((checkB_ok hb).2 e he).1) (fun e he => ((checkB_ok hc).2 e he).1) this
  · rintro rfl; rfl

/-- A head may be one. -/
def checkH (h : Hd) : Int := if h.n < 0 ∨ 24 < h.n then 3 else if 20000 < h.log.length ∨ 20000 < h.mp.length then 2 else 0

theorem headOf_check {b : Bk} (h : checkB b = 0) : checkH (headOf b).1 = 0 := by
  rw [headOf_ok h]
  have h1 := (checkB_ok h).1
  have h2 := (texts_good h).2
  have h3 := mapRoot_len (valsOf_check h)
  unfold checkH
  simp only
  rw [if_neg (by omega), if_neg (by omega)]

/-- Put an entry behind all. -/
def putBk (b : Bk) (e : En) : Bk × Int := if checkB b ≠ 0 then ([], checkB b) else if checkB (b ++ [e]) ≠ 0 then ([], checkB (b ++ [e])) else (b ++ [e], 0)
end Go.Gs

namespace Go.Gs

/-- A text cut at the first such byte. -/
def cutB (c : UInt8) : By → Option (By × By)
  | [] => none
  | b :: r => if b = c then some ([], r) else match cutB c r with
    | some p => some (b :: p.1, p.2)
    | none => none

theorem cutB_index (c : UInt8) : ∀ s : By, match cutB c s with
    | none => Lib.indexByte s c = -1 ∧ c ∉ s
    | some p => Lib.indexByte s c = p.1.length ∧ s = p.1 ++ c :: p.2 ∧ c ∉ p.1
  | [] => by simp [cutB, Lib.indexByte]
  | b :: r => by
    unfold cutB
    by_cases h : b = c
    · rw [if_pos h]
      simp [Lib.indexByte, h]
    · rw [if_neg h]
      have ih := cutB_index c r
      have hb : (b == c) = false := by simpa using h
      cases hc : cutB c r with
      | none =>
        rw [hc] at ih
        obtain ⟨h1, h2⟩ := ih
        refine ⟨by simp [Lib.indexByte, hb, h1], fun hm => ?_⟩
        rcases List.mem_cons.1 hm with e | hm
        · exact h e.symm
        · exact h2 hm
      | some p =>
        rw [hc] at ih
        obtain ⟨h1, h2, h3⟩ := ih
        refine ⟨?_, by rw [h2]; rfl, fun hm => ?_⟩
        · have hne : ¬ ((p.1.length : Int) = -1) := by omega
          simp [Lib.indexByte, hb, h1, hne]
        · rcases List.mem_cons.1 hm with e | hm
          · exact h e.symm
          · exact h3 hm

theorem cutB_mk {c : UInt8} : ∀ {a : By} (b : By), c ∉ a → cutB c (a ++ c :: b) = some (a, b)
  | [], b, _ => by simp [cutB]
  | x :: r, b, h => by
    have hx : x ≠ c := fun e => h (by simp [e])
    rw [List.cons_append, cutB, if_neg hx, cutB_mk b fun hm => h (by simp [hm])]

theorem cutB_some {c : UInt8} {s : By} {p : By × By} (h : cutB c s = some p) : Lib.indexByte s c = p.1.length ∧ s = p.1 ++ c :: p.2 ∧ c ∉ p.1 := by
  have := cutB_index c s
  rw [h] at this
  exact this

theorem cutB_none {c : UInt8} {s : By} (h : cutB c s = none) : Lib.indexByte s c = -1 ∧ c ∉ s := by
  have := cutB_index c s
  rw [h] at this
  exact this

/-! Numerals. -/

theorem parseUint10_snoc (c : UInt8) : ∀ (l : By) (acc : Nat), Lib.parseUint10 acc (l ++ [c]) = match Lib.parseUint10 acc l with
    | .ok u => Lib.parseUint10 u [c]
    | e => e
  | [], acc => by simp [Lib.parseUint10]
  | x :: r, acc => by
    rw [List.cons_append, Lib.parseUint10, Lib.parseUint10]
    split
    · split
      · rfl
      · split
        · rfl
        · exact parseUint10_snoc c r _
    · rfl

theorem digit_nat {d : Nat} (h : d < 10) : (UInt8.ofNat (48 + d)).toNat = 48 + d := by
  rw [UInt8.toNat_ofNat']; omega

theorem decDigits_ne (u : Nat) : Lib.decDigits u ≠ [] := by
  rw [Lib.decDigits]
  split <;> simp

theorem decDigits_digit (u : Nat) : ∀ b ∈ Lib.decDigits u, 48 ≤ b.toNat ∧ b.toNat ≤ 57 := by
  induction u using Nat.strongRecOn with
  | ind u ih =>
    rw [Lib.decDigits]
    split
    · rename_i h
      intro b hb
      have : b = UInt8.ofNat (48 + u) := by simpa using hb
      rw [this, digit_nat h]; omega
    · rename_i h
      intro b hb
      rcases List.mem_append.1 hb with hb | hb
      · exact ih (u / 10) (by omega) b hb
      · have : b = UInt8.ofNat (48 + u % 10) := by simpa using hb
        rw [this, digit_nat (by omega)]; omega

theorem parse_digits (u : Nat) (hu : u < 18446744073709551616) : Lib.parseUint10 0 (Lib.decDigits u) = .ok u := by
  induction u using Nat.strongRecOn with
  | ind u ih =>
    rw [Lib.decDigits]
    split
    · rename_i h
      simp only [Lib.parseUint10, digit_nat h]
      rw [if_pos (by omega), if_neg (by omega), if_neg (by omega)]
      congr 1; omega
    · rename_i h
      rw [parseUint10_snoc, ih (u / 10) (by omega) (by omega)]
      simp only [Lib.parseUint10, digit_nat (show u % 10 < 10 by omega)]
      rw [if_pos (by omega), if_neg (by omega), if_neg (by omega)]
      congr 1; omega

theorem atoi_itoa {n : Nat} (h : n < 9223372036854775808) : Lib.atoiAll (Lib.itoa (n : Int)) = .ok (n : Int) := by
  rw [itoa_nat]
  have h1 := parse_digits n (by omega)
  have h2 := decDigits_digit n
  have h3 := decDigits_ne n
  cases hd : Lib.decDigits n with
  | nil => exact absurd hd h3
  | cons c r =>
    rw [hd] at h1 h2
    have hc := h2 c (by simp)
    unfold Lib.atoiAll
    simp only
    rw [if_neg (by omega), Lib.parseMag, if_neg (by simp), h1]
    simp only
    rw [if_neg (by omega), if_neg (by omega), if_neg (by omega)]

/-- The number that a text is written as, and as nothing else. -/
def numB (w : By) : Option Nat :=
  match Lib.atoiAll w with
  | .ok v => if Lib.itoa v = w ∧ 0 ≤ v then some v.toNat else none
  | _ => none

theorem numB_itoa {n : Nat} (h : n < 9223372036854775808) : numB (Lib.itoa (n : Int)) = some n := by
  unfold numB
  rw [atoi_itoa h]
  simp

theorem numB_some {w : By} {n : Nat} (h : numB w = some n) : w = Lib.itoa (n : Int) ∧ n < 9223372036854775808 := by
  unfold numB at h
  split at h
  · rename_i v hv
    split at h
    · rename_i h1
      have hb := Lib.atoiAll_bounds hv
      injection h with h
      have : v = (n : Int) := by omega
      rw [← this]
      exact ⟨h1.1.symm, by omega⟩
    · cases h
  · cases h

theorem no_byte {c : UInt8} (hc : c.toNat < 48 ∨ 57 < c.toNat) (n : Nat) : c ∉ Lib.itoa (n : Int) := by
  rw [itoa_nat]
  intro h
  have := decDigits_digit n c h
  omega

/-! Seals split. -/

/-- Chapter 1's Split. -/
def splitR (s : By) : (By × By) × Int :=
  match cutB 58 s with
  | none => (([], []), 4)
  | some p =>
    match p.1 with
    | 78 :: w =>
      match numB w with
      | some n => if p.2.length < n then (([], []), 4) else ((p.2.take n, p.2.drop n), 0)
      | none => (([], []), 4)
    | _ => (([], []), 4)

theorem splitR_zero {s : By} (h : (splitR s).2 = 0) : s = 78 :: (Lib.itoa ((splitR s).1.1.length : Int) ++ 58 :: ((splitR s).1.1 ++ (splitR s).1.2)) := by
  unfold splitR at h ⊢
  cases hc : cutB 58 s with
  | none => rw [hc] at h; cases h
  | some p =>
    obtain ⟨p1, p2⟩ := p
    rw [hc] at h
    obtain ⟨-, h2, -⟩ := cutB_some hc
    simp only at h h2 ⊢
    split at h
    · rename_i w
      cases hn : numB w with
      | none => rw [hn] at h; cases h
      | some n =>
        rw [hn] at h
        simp only at h ⊢
        split at h
        · cases h
        · rename_i hl
          rw [if_neg hl]
          simp only
          rw [List.take_append_drop, List.length_take, Nat.min_eq_left (by omega), ← (numB_some hn).1]
          exact h2
    · cases h

theorem splitR_node {a b : By} (h : a.length < 9223372036854775808) : splitR (78 :: (Lib.itoa (a.length : Int) ++ 58 :: (a ++ b))) = ((a, b), 0) := by
  have hc : cutB 58 (78 :: (Lib.itoa (a.length : Int) ++ 58 :: (a ++ b))) = some (78 :: Lib.itoa (a.length : Int), a ++ b) := by
    rw [← List.cons_append]
    refine cutB_mk _ fun hm => ?_
    rcases List.mem_cons.1 hm with e | hm
    · cases e
    · exact no_byte (by decide) _ hm
  unfold splitR
  rw [hc]
  simp only
  rw [numB_itoa h]
  simp only
  rw [if_neg (by simp), List.take_left', List.drop_left'] <;> rfl

/-! Heads as texts. -/

def printR (h : Hd) : By × Int := if checkH h ≠ 0 then ([], checkH h) else
  (Lib.itoa h.n ++ 32 :: (Lib.itoa (h.log.length : Int) ++ 32 :: (Lib.itoa (h.mp.length : Int) ++ 32 :: (h.log ++ h.mp))), 0)

/-- A number, and what stands behind the blank. -/
def fieldB (s : By) : Option (Nat × By) :=
  match cutB 32 s with
  | none => none
  | some p => match numB p.1 with
    | some n => some (n, p.2)
    | none => none

def lastH (a b c : Nat) (s : By) : Hd × Int :=
  if s.length < b ∨ c ≠ s.length - b then (hd0, 1) else if checkH ⟨a, s.take b, s.drop b⟩ ≠ 0 then (hd0, checkH ⟨a, s.take b, s.drop b⟩) else (⟨a, s.take b, s.drop b⟩, 0)

def parseR (s : By) : Hd × Int :=
  match fieldB s with
  | none => (hd0, 1)
  | some (a, s1) => match fieldB s1 with
    | none => (hd0, 1)
    | some (b, s2) => match fieldB s2 with
      | none => (hd0, 1)
      | some (c, s3) => lastH a b c s3

theorem fieldB_some {s : By} {n : Nat} {r : By} (h : fieldB s = some (n, r)) : s = Lib.itoa (n : Int) ++ 32 :: r := by
  unfold fieldB at h
  split at h
  · cases h
  · rename_i p hp
    split at h
    · rename_i m hm
      injection h with h
      injection h with h1 h2
      obtain ⟨_, h3, _⟩ := cutB_some hp
      rw [h3, (numB_some hm).1, h1, h2]
    · cases h

theorem fieldB_mk {n : Nat} (hn : n < 9223372036854775808) (r : By) : fieldB (Lib.itoa (n : Int) ++ 32 :: r) = some (n, r) := by
  unfold fieldB
  rw [cutB_mk r (no_byte (by decide) n)]
  simp only
  rw [numB_itoa hn]

theorem parse_print {h : Hd} (hc : checkH h = 0) : parseR (printR h).1 = (h, 0) := by
  obtain ⟨n, log, mp⟩ := h
  have h1 : 0 ≤ n ∧ n ≤ 24 ∧ log.length ≤ 20000 ∧ mp.length ≤ 20000 := by
    unfold checkH at hc
    split at hc
    · cases hc
    · split at hc
      · cases hc
      · simp only at *; omega
  obtain ⟨k, rfl⟩ : ∃ k : Nat, n = k := ⟨n.toNat, by omega⟩
  unfold printR
  rw [if_neg (by simpa using hc)]
  simp only
  unfold parseR
  rw [fieldB_mk (by omega)]
  simp only
  rw [fieldB_mk (by omega)]
  simp only
  rw [fieldB_mk (by omega)]
  simp only
  unfold lastH
  rw [if_neg (by simp), List.take_left' rfl, List.drop_left' rfl, if_neg (by simpa using hc)]

theorem print_parse {s : By} (h : (parseR s).2 = 0) : checkH (parseR s).1 = 0 ∧ printR (parseR s).1 = (s, 0) := by
  unfold parseR at h ⊢
  cases h1 : fieldB s with
  | none => rw [h1] at h; cases h
  | some p =>
    obtain ⟨a, s1⟩ := p
    rw [h1] at h
    simp only at h ⊢
    cases h2 : fieldB s1 with
    | none => rw [h2] at h; cases h
    | some p =>
      obtain ⟨b, s2⟩ := p
      rw [h2] at h
      simp only at h ⊢
      cases h3 : fieldB s2 with
      | none => rw [h3] at h; cases h
      | some p =>
        obtain ⟨c, s3⟩ := p
        rw [h3] at h
        simp only at h ⊢
        unfold lastH at h ⊢
        split at h
        · cases h
        · rename_i h4
          rw [if_neg h4]
          split at h
          · rename_i h5; exact absurd h h5
          · rename_i h5
            rw [if_neg h5]
            have h6 : checkH ⟨a, s3.take b, s3.drop b⟩ = 0 := by simpa using h5
            refine ⟨h6, ?_⟩
            unfold printR
            rw [if_neg h5]
            simp only
            rw [List.take_append_drop, List.length_take, List.length_drop, Nat.min_eq_left (by omega), show s3.length - b = c by omega, ← fieldB_some h3, ← fieldB_some h2, ← fieldB_some h1]

theorem printR_inj {h g : Hd} (hh : checkH h = 0) (hg : checkH g = 0) : (printR h).1 = (printR g).1 ↔ h = g := by
  constructor
  · intro e
    have h1 := parse_print hh
    rw [e, parse_print hg] at h1
    exact ((Prod.mk.injEq ..).mp h1).1.symm
  · rintro rfl; rfl

/-! What SplitN makes of a text. -/
def piecesB : Nat → By → List By
  | 0, s => [s]
  | k + 1, s => match cutB 32 s with
    | some p => p.1 :: piecesB k p.2
    | none => [s]

theorem piecesB_len : ∀ (n k : Nat), k ≤ n → ∀ s : By, s.length ≤ k → piecesB k s = piecesB s.length s
  | _, 0, _, s, h => by
    have : s = [] := List.eq_nil_of_length_eq_zero (by omega)
    rw [this]; rfl
  | 0, k + 1, hk, _, _ => by omega
  | n + 1, k + 1, hk, s, h => by
    cases s with
    | nil => simp [piecesB, cutB]
    | cons x r =>
      simp only [List.length_cons] at h ⊢
      unfold piecesB
      cases hc : cutB 32 (x :: r) with
      | none => rfl
      | some p =>
        simp only
        have h1 := (cutB_some hc).2.1
        have h2 : p.2.length ≤ r.length := by
          have := congrArg List.length h1
          simp only [List.length_cons, List.length_append] at this
          omega
        rw [piecesB_len n k (by omega) p.2 (by omega), piecesB_len n r.length (by omega) p.2 h2]

theorem piecesB_min (k : Nat) (s : By) : piecesB k s = piecesB (min k s.length) s := by
  rcases Nat.le_total s.length k with h | h
  · rw [Nat.min_eq_right h, piecesB_len k k (Nat.le_refl _) s h]
  · rw [Nat.min_eq_left h]
end Go.Gs

namespace Go.Ab
open Go.Proofs Go.Gs Go.RowKit
variable {G0 : Nat → Option Obj}

/-- What the two variables of errors hold. -/
def GlobE (G0 : Nat → Option Obj) : Prop := ∀ w : World, (∀ b, b < nG → w.heap[b]? = G0 b) →
  (∃ tp p, w.var? Tryd.prog "strconv.ErrSyntax" = some #[.iface tp p]) ∧ ∃ tp p, w.var? Tryd.prog "strconv.ErrRange" = some #[.iface tp p]

theorem good_libB {P : Program} {nG : Nat} {G0 : Nat → Option Obj} {f : FuncId} {args : List AV} {vals : List Value} {r : AV} (hb : hasB P f = true)
    (hargs : ∀ (K : KM) (S : Stb) (w : World) (us : List Value), VRs K S w args us → us = vals)
    (h : ∀ w : World, (∀ b, b < nG → w.heap[b]? = G0 b) → Calls P f vals.toArray w fun e w' => ∃ v, e = .returned v ∧ (∀ (K : KM) (S : Stb), VR K S w' r v) ∧ Below w.heap.size w w') : Good P nG G0 f args [] r [] := by
  have hb' := hb
  unfold hasB at hb'
  split at hb'
  · rename_i fn hf
    simp only [Bool.and_eq_true, Bool.not_eq_true'] at hb'
    refine ⟨⟨fn, hf, hb'.1, hb'.2⟩, fun w K S us hrel hus => ?_⟩
    rw [hargs K S w us hus]
    refine (h w hrel.fix).mono fun e w' ⟨v, he, hv, hw⟩ => ?_
    obtain ⟨g1, g2⟩ := hrel.ext (n0 := 0) (S' := fun _ _ => False) (w' := w') hw.os hw.tape hw.output hw.size (fun b hb => hw.block b hb) (fun b off hs => hs.elim)
    exact ⟨v, K, _, he, g1, hv _ _, g2⟩
  · cases hb'

theorem arg_s {K : KM} {S : Stb} {w : World} {s : By} {us : List Value} (h : VRs K S w [.str s] us) : us = [.string ⟨s.toArray⟩] := by
  obtain ⟨hl, hv⟩ := h
  match us, hl with
  | [u], _ => rw [VR_str (hv 0 _ u rfl rfl)]

theorem arg_ss {K : KM} {S : Stb} {w : World} {s t : By} {us : List Value} (h : VRs K S w [.str s, .str t] us) : us = [.string ⟨s.toArray⟩, .string ⟨t.toArray⟩] := by
  obtain ⟨hl, hv⟩ := h
  match us, hl with
  | [u, v], _ => rw [VR_str (hv 0 _ u rfl rfl), VR_str (hv 1 _ v rfl rfl)]

theorem arg_si {K : KM} {S : Stb} {w : World} {s : By} {k : IntKind} {n : Int} {us : List Value} (h : VRs K S w [.str s, .int k n] us) : us = [.string ⟨s.toArray⟩, .int k n] := by
  obtain ⟨hl, hv⟩ := h
  match us, hl with
  | [u, v], _ => rw [VR_str (hv 0 _ u rfl rfl), VR_int (hv 1 _ v rfl rfl)]

theorem arg_ii {K : KM} {S : Stb} {w : World} {k l : IntKind} {m n : Int} {us : List Value} (h : VRs K S w [.int k m, .int l n] us) : us = [.int k m, .int l n] := by
  obtain ⟨hl, hv⟩ := h
  match us, hl with
  | [u, v], _ => rw [VR_int (hv 0 _ u rfl rfl), VR_int (hv 1 _ v rfl rfl)]

theorem arg_sii {K : KM} {S : Stb} {w : World} {s : By} {k l : IntKind} {m n : Int} {us : List Value} (h : VRs K S w [.str s, .int k m, .int l n] us) : us = [.string ⟨s.toArray⟩, .int k m, .int l n] := by
  obtain ⟨hl, hv⟩ := h
  match us, hl with
  | [u, v, x], _ => rw [VR_str (hv 0 _ u rfl rfl), VR_int (hv 1 _ v rfl rfl), VR_int (hv 2 _ x rfl rfl)]

theorem PR.vra {K : KM} {S : Stb} {w : World} {u : Value} {y : AV} (h : PR S w y u) : VRa K S w y u := by
  cases h <;> simp only [VRa] <;> refine PR.vrc ?_ <;> constructor <;> assumption

theorem vr_two {K : KM} {S : Stb} {w : World} {a b : AV} {u v : Value} (ha : PR S w a u) (hb : PR S w b v) : VR K S w (.tup [a, b]) (.tuple #[u, v]) := by
  refine ⟨#[u, v], rfl, rfl, fun j y x hy hx => ?_⟩
  match j with
  | 0 => cases hy; cases hx; exact ha.vra
  | 1 => cases hy; cases hx; exact hb.vra
  | j + 2 => simp at hy

theorem good_IndexByte (s : By) : Good PG nG G0 f_strings_IndexByte [.str s, .int .u8 58] [] (.int .i64 (Lib.indexByte s 58)) [] :=
  good_libB (vals := [.string ⟨s.toArray⟩, .int .u8 58]) (by kernel_rfl) (fun K S w us hus => arg_si hus) fun w _ => (Tryd.strings_IndexByte ⟨s.toArray⟩ 58 w).mono fun e w' ⟨he, hw⟩ => ⟨_, he, fun _ _ => by
    simpa using (PR.int .i64 (Lib.indexByte s 58)).vr, hw ▸ Below.refl _ _⟩

theorem good_Index1 (s : By) (c : UInt8) : Good PG nG G0 f_strings_Index [.str s, .str [c]] [] (.int .i64 (Lib.indexByte s c)) [] :=
  good_libB (vals := [.string ⟨s.toArray⟩, .string ⟨#[c]⟩]) (by kernel_rfl) (fun K S w us hus => arg_ss hus) fun w _ => (Tryd.strings_Index_one ⟨s.toArray⟩ c w).mono fun e w' ⟨he, hw⟩ => ⟨_, he, fun _ _ => by
    simpa using (PR.int .i64 (Lib.indexByte s c)).vr, hw ▸ Below.refl _ _⟩

theorem good_liteIndex1 (s : By) (c : UInt8) : Good PG nG G0 f_internal_stringslite_Index [.str s, .str [c]] [] (.int .i64 (Lib.indexByte s c)) [] :=
  good_libB (vals := [.string ⟨s.toArray⟩, .string ⟨#[c]⟩]) (by kernel_rfl) (fun K S w us hus => arg_ss hus) fun w _ => (Tryd.stringslite_Index_one ⟨s.toArray⟩ c w).mono fun e w' ⟨he, hw⟩ => ⟨_, he, fun _ _ => by
    simpa using (PR.int .i64 (Lib.indexByte s c)).vr, hw ▸ Below.refl _ _⟩

theorem good_FormatInt (hG : GlobOk G0) (n : Int) (h0 : -9223372036854775808 ≤ n) (h1 : n ≤ 9223372036854775807) : Good PG nG G0 f_strconv_FormatInt [.int .i64 n, .int .i64 10] [] (.str (Lib.itoa n)) [] :=
  good_lib (vals := [.int .i64 n, .int .i64 10]) (v := .string ⟨(Lib.itoa n).toArray⟩) (by kernel_rfl) (fun K S w us hus => arg_ii hus) (fun K S w => (PR.str _).vr) fun w hw => Tryd.strconv_FormatInt_10 n h0 h1 w (hG w hw)

/-- What is read of a numeral, and whether that is an error. -/
def atoiV (s : By) : Int := match Lib.atoiAll s with
  | .ok v => v
  | .range => Lib.atoiSat s
  | _ => 0
def atoiE (s : By) : Bool := match Lib.atoiAll s with
  | .ok _ => false
  | _ => true
def errV (b : Bool) : AV := match b with
  | true => .iface
  | false => .nilIface

theorem below_of_bytes {w w' : World} {e : TypeId} (h : w' = w ∨ ∃ t, w' = Lib.bytesWorld w e t) : Below w.heap.size w w' := by
  rcases h with rfl | ⟨t, rfl⟩
  · exact Below.refl _ _
  · exact Lib.bytesWorld_below _ _ _

theorem good_Atoi (hE : GlobE G0) (s : By) (hs : s.length ≤ 140737488351232) : Good PG nG G0 f_strconv_Atoi [.str s] [] (.tup [.int .i64 (atoiV s), errV (atoiE s)]) [] := by
  have hsz : (⟨s.toArray⟩ : ByteArray).size = s.length := by simp [ByteArray.size]
  refine good_libB (vals := [.string ⟨s.toArray⟩]) (by kernel_rfl) (fun K S w us hus => arg_s hus) fun w hw => ?_
  obtain ⟨⟨t1, p1, e1⟩, t2, p2, e2⟩ := hE w hw
  unfold atoiV atoiE
  cases h : Lib.atoiAll s
  · rename_i v
    exact (Tryd.strconv_Atoi_ok ⟨s.toArray⟩ (by omega) v h w).mono fun e w' ⟨he, hw⟩ => ⟨_, he, fun _ _ => vr_two (.int .i64 v) .nilIface, below_of_bytes hw⟩
  · exact (Tryd.strconv_Atoi_syntax_var ⟨s.toArray⟩ (by omega) h t1 p1 w e1).mono fun e w' ⟨N, he, _, _, hw⟩ => ⟨_, he, fun _ _ => vr_two (.int .i64 0) (.iface _ _), hw⟩
  · exact (Tryd.strconv_Atoi_range_var ⟨s.toArray⟩ (by omega) h t2 p2 w e2).mono fun e w' ⟨N, he, _, _, hw⟩ => ⟨_, he, fun _ _ => vr_two (.int .i64 _) (.iface _ _), hw⟩

theorem good_ParseInt (hE : GlobE G0) (s : By) (hs : s.length ≤ 140737488351232) : Good PG nG G0 f_strconv_ParseInt [.str s, .int .i64 10, .int .i64 64] [] (.tup [.int .i64 (atoiV s), errV (atoiE s)]) [] := by
  have hsz : (⟨s.toArray⟩ : ByteArray).size = s.length := by simp [ByteArray.size]
  refine good_libB (vals := [.string ⟨s.toArray⟩, .int .i64 10, .int .i64 64]) (by kernel_rfl) (fun K S w us hus => arg_sii hus) fun w hw => ?_
  obtain ⟨⟨t1, p1, e1⟩, t2, p2, e2⟩ := hE w hw
  unfold atoiV atoiE
  have hp := Lib.parseIntB_64 s
  cases h : Lib.atoiAll s
  · rename_i v
    exact (Tryd.strconv_ParseInt_10_at64_ok ⟨s.toArray⟩ (by omega) v (hp.trans h) w).mono fun e w' ⟨he, hw⟩ => ⟨_, he, fun _ _ => vr_two (.int .i64 v) .nilIface, below_of_bytes hw⟩
  · exact (Tryd.strconv_ParseInt_10_at64_syntax_var ⟨s.toArray⟩ (by omega) (hp.trans h) t1 p1 w e1).mono fun e w' ⟨N, he, _, _, hw⟩ => ⟨_, he, fun _ _ => vr_two (.int .i64 0) (.iface _ _), hw⟩
  · refine (Tryd.strconv_ParseInt_10_at64_range_var ⟨s.toArray⟩ (by omega) (hp.trans h) t2 p2 w e2).mono fun e w' h => ?_
    · obtain ⟨N, he, _, _, hw⟩ := h
      rw [Lib.intSat_64] at he
      exact ⟨_, he, fun _ _ => vr_two (.int .i64 _) (.iface _ _), hw⟩

/-- A text cut at a byte, told whole. -/
def cutR (c : UInt8) (s : By) : (By × By) × Bool := match cutB c s with
  | some p => (p, true)
  | none => ((s, []), false)

theorem good_Cut (s : By) (c : UInt8) (hs : s.length ≤ 140737488351232) : Good PG nG G0 f_strings_Cut [.str s, .str [c]] [] (.tup [.str (cutR c s).1.1, .str (cutR c s).1.2, .bool (cutR c s).2]) [] := by
  have h1 : Good PG nG G0 f_internal_stringslite_Cut [.str s, .str [c]] [] (.tup [.str (cutR c s).1.1, .str (cutR c s).1.2, .bool (cutR c s).2]) [] := by
    refine good_of_run prOk (by kernel_rfl) (internal_stringslite_Cut_run s [c] G0 _ ⟨_, good_liteIndex1 s c, ?_⟩)
    unfold cutR
    cases hc : cutB c s with
    | none =>
      obtain ⟨hi, _⟩ := cutB_none hc
      rw [hi, decide_eq_false (by omega), ifF]
      exact ⟨rfl, rfl⟩
    | some p =>
      obtain ⟨hi, he, _⟩ := cutB_some hc
      have hl : s.length = p.1.length + (p.2.length + 1) := by rw [he]; simp
      rw [hi, decide_eq_true (by omega), ifT, show (([c] : By).length : Int) = 1 from rfl, wrap64 (by omega) (by omega)]
      refine ⟨by decide, by omega, by omega, by omega, by omega, Int.le_refl _, ?_, rfl⟩
      rw [Int.toNat_natCast, Int.toNat_natCast, show ((p.1.length : Int) + 1).toNat = p.1.length + 1 by omega, List.take_length, List.drop_zero]
      have t1 : s.take p.1.length = p.1 := by rw [he, List.take_left' rfl]
      have t2 : s.drop (p.1.length + 1) = p.2 := by rw [he, ← List.drop_drop, List.drop_left' rfl]; rfl
      rw [t1, t2]
  exact good_of_run prOk (by kernel_rfl) (strings_Cut_run s [c] G0 _ ⟨_, _, _, h1, rfl, rfl⟩)

theorem setR_uno (y : List AV) (a : AV) (h : y.length = 1) : setR y 0 [a] = [a] := by
  match y, h with
  | [x], _ => rfl

/-- Split at blanks, four pieces at most. -/
theorem good_genSplit (s : By) (hs : s.length ≤ 140737488351232) : Good PG nG G0 f_strings_genSplit [.str s, .str [32], .int .i64 0, .int .i64 4] [] (.sl 1 false none ((piecesB 3 s).map S1)) [] := by
  suffices main : ∀ R : AV → List (Option Blk) → Prop, R (.sl 1 false none ((piecesB 3 s).map S1)) [] → Hold (runF PG ty nG G0 an_strings_genSplit_4 f_strings_genSplit [.str s, .str [32], .int .i64 0, .int .i64 4] [] R) from
    good_of_run prOk (by kernel_rfl) (main _ ⟨rfl, rfl⟩)
  intro R hR
  refine strings_genSplit_4_run s G0 R ?_
  rw [piecesB_min] at hR
  rw [wrap64 (show -9223372036854775808 ≤ (s.length : Int) + 1 by omega) (by omega)]
  obtain ⟨N, hN, hNe⟩ : ∃ N : Nat, (if (s.length : Int) + 1 < 4 then (s.length : Int) + 1 else 4) = ((N + 1 : Nat) : Int) ∧ N = min 3 s.length := by
    by_cases h : (s.length : Int) + 1 < 4
    · exact ⟨s.length, by rw [if_pos h]; rfl, by omega⟩
    · exact ⟨3, by rw [if_neg h]; rfl, by omega⟩
  have hN3 : N ≤ 3 := by omega
  rw [hN]
  rw [← hNe] at hR
  rw [wrap64 (show -9223372036854775808 ≤ ((N + 1 : Nat) : Int) - 1 by omega) (by omega), Int.toNat_natCast, show ((N + 1 : Nat) : Int) - 1 = (N : Int) by omega]
  refine ⟨rfl, by omega, by omega, by omega, ?_⟩
  clear hN
  generalize hL : piecesB N s = L at *
  have key : ∀ (k i : Nat) (t : By) (done : List By) (xs : List (List AV)), i + k = N → t.length ≤ 140737488351232 → xs.length = N + 1 → xs.take i = done.map S1 → done.length = i → (∀ (j : Nat) (y : List AV), xs[j]? = some y → y.length = 1) → done ++ piecesB k t = L →
      Does PG nG G0 (fnOf PG f_strings_genSplit) 0 (lp PG f_strings_genSplit 0) (mkT 66 [(0, .str t), (1, .str [32]), (2, .int .i64 0), (3, .int .i64 N), (9, .rsl 1 0 0 (N + 1)), (10, .int .i64 (i : Int))]) [some (.arr 1 xs)] R := by
    intro k
    have fin : ∀ (i : Nat) (t : By) (done : List By) (xs : List (List AV)), i ≤ N → xs.length = N + 1 → xs.take i = done.map S1 → done.length = i → (∀ (j : Nat) (y : List AV), xs[j]? = some y → y.length = 1) → done ++ [t] = L →
        (0 : Int) ≤ i ∧ (i : Int) < ((N + 1 : Nat) : Int) ∧ (0 : Int) ≤ 0 ∧ 0 ≤ IntKind.i64.wrap ((i : Int) + 1) ∧ IntKind.i64.wrap ((i : Int) + 1) ≤ (((List.take (N + 1) (List.drop 0 (xs.set (0 + Int.toNat i) (setR (xs.getD (0 + Int.toNat i) []) 0 [.str t])))).length : Nat) : Int) ∧
          R (.sl 1 false none (List.drop 0 (List.take (Int.toNat (IntKind.i64.wrap ((i : Int) + 1))) (List.take (N + 1) (List.drop 0 (xs.set (0 + Int.toNat i) (setR (xs.getD (0 + Int.toNat i) []) 0 [.str t]))))))) [] := by
      intro i t done xs hi hx hd hdl h1 he
      have hix : i < xs.length := by omega
      have e1 : setR (xs.getD i []) 0 [AV.str t] = [.str t] := by
        rw [List.getD_eq_getElem?_getD, List.getElem?_eq_getElem hix]
        exact setR_uno _ _ (h1 i _ (List.getElem?_eq_getElem hix))
      rw [wrap64 (by omega) (by omega), Int.toNat_natCast, Nat.zero_add, show ((i : Int) + 1).toNat = i + 1 by omega, e1, List.drop_zero, List.drop_zero, List.take_of_length_le (show (xs.set i [AV.str t]).length ≤ N + 1 by rw [List.length_set]; omega)]
      refine ⟨by omega, by omega, by decide, by omega, by rw [List.length_set]; omega, ?_⟩
      have e2 : (xs.set i [AV.str t]).take (i + 1) = (done ++ [t]).map S1 := by
        rw [List.take_add_one, List.take_set_of_le (Nat.le_refl i), hd, List.getElem?_set_self hix]
        simp [S1]
      rw [e2, he]
      exact hR
    induction k with
    | zero =>
      intro i t done xs hi ht hx hd hdl h1 he
      refine does_of_run prOk (strings_genSplit_4_l0_run G0 _ _ _ _ _ _ _ _ R ?_)
      rw [decide_eq_false (by omega), ifF]
      exact fin i t done xs (by omega) hx hd hdl h1 he
    | succ k ih =>
      intro i t done xs hi ht hx hd hdl h1 he
      refine does_of_run prOk (strings_genSplit_4_l0_run G0 _ _ _ _ _ _ _ _ R ?_)
      rw [decide_eq_true (by omega), ifT]
      refine ⟨_, good_Index1 t 32, ?_⟩
      unfold piecesB at he
      cases hc : cutB 32 t with
      | none =>
        rw [hc] at he
        obtain ⟨hi1, _⟩ := cutB_none hc
        rw [hi1, decide_eq_true (by decide), ifT]
        exact fin i t done xs (by omega) hx hd hdl h1 he
      | some p =>
        rw [hc] at he
        obtain ⟨hi1, het, _⟩ := cutB_some hc
        have hl : t.length = p.1.length + (p.2.length + 1) := by rw [het]; simp
        rw [hi1, decide_eq_false (by omega), ifF, Int.add_zero, wrap64 (by omega) (by omega), show (([32] : By).length : Int) = 1 from rfl, wrap64 (by omega) (by omega), wrap64 (by omega) (by omega), Int.toNat_natCast, Int.toNat_natCast, Int.toNat_natCast, Nat.zero_add, show ((p.1.length : Int) + 1).toNat = p.1.length + 1 by omega, List.take_length, List.drop_zero]
        have t1 : t.take p.1.length = p.1 := by rw [het, List.take_left' rfl]
        have t2 : t.drop (p.1.length + 1) = p.2 := by rw [het, ← List.drop_drop, List.drop_left' rfl]; rfl
        have hix : i < xs.length := by omega
        have e1 : setR (xs.getD i []) 0 [AV.str p.1] = [.str p.1] := by
          rw [List.getD_eq_getElem?_getD, List.getElem?_eq_getElem hix]
          exact setR_uno _ _ (h1 i _ (List.getElem?_eq_getElem hix))
        rw [t1, t2, e1]
        refine ⟨by decide, by omega, by omega, by omega, by omega, by omega, by omega, Int.le_refl _, ih (i + 1) p.2 (done ++ [p.1]) (xs.set i [.str p.1]) (by omega) (by omega) (by rw [List.length_set]; exact hx) ?_ (by simp [hdl]) ?_ (by rw [List.append_assoc]; exact he)⟩
        · rw [List.take_add_one, List.take_set_of_le (Nat.le_refl i), hd, List.getElem?_set_self hix]
          simp [S1]
        · intro j y hy
          rw [List.getElem?_set] at hy
          split at hy
          · rename_i e
            injection hy with hy
            rw [← hy]; rfl
          · exact h1 j y hy
  refine key N 0 s [] _ (by omega) hs (List.length_replicate ..) rfl rfl (fun j y hy => ?_) hL
  have := List.mem_replicate.1 (List.mem_of_getElem? hy)
  rw [this.2]; rfl

theorem good_SplitN (s : By) (hs : s.length ≤ 140737488351232) : Good PG nG G0 f_strings_SplitN [.str s, .str [32], .int .i64 4] [] (.sl 1 false none ((piecesB 3 s).map S1)) [] :=
  good_of_run prOk (by kernel_rfl) (strings_SplitN_run s [32] 4 G0 _ ⟨_, _, good_genSplit s hs, rfl, rfl⟩)
end Go.Ab

namespace Go.Proofs.YtlfhhbcihaginaaDoor
open Go.Ab Go.Gs Go.ChangeShapes Go.WideShapes Go.ChangeAt Go.RowKit

theorem own : ownKnob Tryd.prog.godebug = none := by kernel_rfl
theorem laidOutP : laidOutB Tryd.prog = true := by kernel_rfl

/-- The three tables, as the rows list them. -/
def tabs : List (String × DataW Unit) := Rows.pathOnlyRow.laid

theorem var_heap {W : World} {name : String} {cs : Array Value} {g : Nat} (hg : Tryd.prog.globalNamed name = some g) (h : W.var? Tryd.prog name = some cs) : g < W.heap.size := by
  simp only [World.var?, hg, Option.bind_some] at h
  split at h
  · rename_i hh; exact (Array.getElem?_eq_some_iff.1 hh).1
  · cases h

theorem var_same {W w : World} {name : String} {g : Nat} (hg : Tryd.prog.globalNamed name = some g) (h : w.heap[g]? = W.heap[g]?) : w.var? Tryd.prog name = W.var? Tryd.prog name := by
  simp only [World.var?, hg, Option.bind_some, h]

theorem glob_ofM {W : World} {rest : List (String × DataW Unit)} (h : laidMet Tryd.prog (Rows.pathOnlyRow.laid ++ rest) W) : GlobOk (fun b => W.heap[b]?) ∧ nG ≤ W.heap.size := by
  obtain ⟨ps, ⟨g0, t0, cs0, f0, p0, q0, hg0, ht0, hv0, hd0, ⟨g1, t1, cs1, f1, p1, q1, hg1, ht1, hv1, hd1, ⟨g2, t2, cs2, f2, p2, q2, hg2, ht2, hv2, hd2, _, _⟩, _⟩, _⟩, _⟩ := h
  have hn0 : Tryd.prog.globalNamed "math/bits.deBruijn32tab" = some 6 := by kernel_rfl
  have hn1 : Tryd.prog.globalNamed "math/bits.deBruijn64tab" = some 7 := by kernel_rfl
  have hn2 : Tryd.prog.globalNamed "internal/strconv.uint64pow10" = some 3 := by kernel_rfl
  have l1 := var_heap hn1 hv1
  have hng : nG = 8 := rfl
  refine ⟨fun w hw => ?_, by omega⟩
  have hty : (Tryd.prog.globals[3]?).map (·.type) = some 115 := by kernel_rfl
  obtain rfl := Option.some.inj (hn2.symm.trans hg2)
  obtain rfl := Option.some.inj (hty.symm.trans ht2)
  unfold Lib.TabIs
  rw [var_same hn2 (hw 3 (by decide)), hv2]
  have := Lib.cells_of_tab (k := .u64) (zs := Lib.pow10Tab) (n := 20) Tryd.underlying115 Tryd.underlying95 (by kernel_rfl) (by kernel_rfl) (show DataW.trod (fun _ => ()) Tryd.prog W 0 (fun _ => true) false f2 115 cs2.toList = some (Lib.tabData .u64 Lib.pow10Tab, p2) from hd2)
  rw [← this]

theorem glob_of {W : World} (h : laidMetH Tryd.prog Rows.pathOnlyRow.laid W) : GlobOk (fun b => W.heap[b]?) ∧ nG ≤ W.heap.size := glob_ofM (rest := []) (show laidMet Tryd.prog Rows.pathOnlyRow.laid W from h)

theorem star : "*" ++ "errors.errorString" = "*errors.errorString" := by decide
theorem row_err (u : TypeId) (h : Tryd.prog.typeName? 3 u = some "*errors.errorString") : u = 123 :=
  typeName_ptr_named (nm := "errors.errorString") (by rw [star]; kernel_rfl) (by kernel_rfl) (by decide) u (by rw [star]; exact h)

/-- What the two variables of errors hold. -/
theorem err_of {W : World} {t1 t2 : List UInt8} {r : List (String × DataW Unit)}
    (h : laidMet Tryd.prog (("strconv.ErrRange", .iface "*errors.errorString" (.ptr (.agg [.lit (.string t1)]))) :: ("strconv.ErrSyntax", .iface "*errors.errorString" (.ptr (.agg [.lit (.string t2)]))) :: r) W) : GlobE (fun b => W.heap[b]?) := by
  have gR : Tryd.prog.globalNamed "strconv.ErrRange" = some 2 := by kernel_rfl
  have gS : Tryd.prog.globalNamed "strconv.ErrSyntax" = some 1 := by kernel_rfl
  have tR : (Tryd.prog.globals[2]?).map (·.type) = some 68 := by kernel_rfl
  have tS : (Tryd.prog.globals[1]?).map (·.type) = some 68 := by kernel_rfl
  obtain ⟨a0, s0, hR, _⟩ := laid_sentinel h gR tR Tryd.underlying68 row_err Tryd.underlying123 Tryd.underlying125 rfl rfl Tryd.underlying9 (by kernel_rfl) (by kernel_rfl)
  obtain ⟨a1, s1, hS, _⟩ := laid_sentinel h.tail gS tS Tryd.underlying68 row_err Tryd.underlying123 Tryd.underlying125 rfl rfl Tryd.underlying9 (by kernel_rfl) (by kernel_rfl)
  exact fun w hw => ⟨⟨_, _, (var_same gS (hw 1 (by decide))).trans hS⟩, _, _, (var_same gR (hw 2 (by decide))).trans hR⟩

/-- A world for the witness. -/
noncomputable def wit0 (os : Os) : World := World.doorLaid Tryd.prog 1000 os

end Go.Proofs.YtlfhhbcihaginaaDoor

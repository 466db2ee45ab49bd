/- What the proofs of these laws lean on (7): What the runs come to; Contracts: the laws of seals, of heads as texts; What the listed variables give, for any law of this seat; no condition. -/
import Derived.Test.YtlfhhbcihaginaaDoorZAllF
import Derived.Stop.LaidErr
import Derived.Lay
import Derived.Test.YtlfhhbcihaginaaDoorCards
import Derived.Test.YtlfhhbcihaginaaDoorTie
import Derived.OpenShut
import Derived.LaidMore
import Derived.Deep.DeepHandedRow
import Derived.Lib.LaidTab
namespace Go.Ab
open Go.Proofs
set_option maxRecDepth 100000

def an_greatseallaw_SealSays : FAnn := ⟨[], [], none, []⟩
def an_greatseallaw_SealOne : FAnn := ⟨[], [], none, []⟩
def an_greatseallaw_SealLong : FAnn := ⟨[], [], none, []⟩
def an_greatseallaw_TreeHalves : FAnn := ⟨[], [], none, []⟩
def an_greatseallaw_NoteSays : FAnn := ⟨[], [], none, []⟩
def an_greatseallaw_NoteBack : FAnn := ⟨[], [], none, []⟩

theorem greatseallaw_SealSays_run (a0 : List UInt8) (b1 : List UInt8) (G0 : Nat → Option Go.Obj) (R : AV → List (Option Blk) → Prop) (h :
∃ s0 n1,
  Good PG nG G0 f_seal_Leaf [AV.str a0] [] (AV.tup [AV.str s0, AV.int Go.IntKind.i64 n1]) [] ∧
    ∃ s2 n3,
      Good PG nG G0 f_seal_Node [AV.str a0, AV.str b1] [] (AV.tup [AV.str s2, AV.int Go.IntKind.i64 n3]) [] ∧
        ∃ s4 n5,
          Good PG nG G0 f_seal_Open [AV.str a0] [] (AV.tup [AV.str s4, AV.int Go.IntKind.i64 n5]) [] ∧
            ∃ s6 s7 n8,
              Good PG nG G0 f_seal_Split [AV.str a0] [] (AV.tup [AV.str s6, AV.str s7, AV.int Go.IntKind.i64 n8]) [] ∧
                ∃ s9 n10,
                  Good PG nG G0 f_greatsealref_LeafOf [AV.str a0] [] (AV.tup [AV.str s9, AV.int Go.IntKind.i64 n10]) [] ∧
                    ∃ s11 n12,
                      Good PG nG G0 f_greatsealref_NodeOf [AV.str a0, AV.str b1] [] (AV.tup [AV.str s11, AV.int Go.IntKind.i64 n12]) [] ∧
                        ∃ s13 s14 n15,
                          Good PG nG G0 f_greatsealref_SplitOf [AV.str a0] [] (AV.tup [AV.str s13, AV.str s14, AV.int Go.IntKind.i64 n15]) [] ∧
                            ∃ b16,
                              Good PG nG G0 f_greatseallaw_sealed [] [] (AV.bool b16) [] ∧
                                ifK (!b16) (R (AV.bool false) [])
                                  (ifK (!s0 == s9) (R (AV.bool false) [])
                                    (ifK (n1 != n10) (R (AV.bool false) [])
                                      (ifK (!s2 == s11) (R (AV.bool false) [])
                                        (ifK (n3 != n12) (R (AV.bool false) [])
                                          (ifK (!s6 == s13) (R (AV.bool false) [])
                                            (ifK (!s7 == s14) (R (AV.bool false) [])
                                              (ifK (n8 != n15) (R (AV.bool false) [])
                                                (ifK ((↑(List.length a0) : Int) == (0 : Int)) (ifK (n5 == (4 : Int)) (R (AV.bool (s4 == [])) []) (R (AV.bool false) []))
                                                  ((0 : Int) ≤ (0 : Int) ∧
                                                    ∃ c17,
                                                      a0[(0 : Nat)]? = some c17 ∧
                                                        ifK ((↑(UInt8.toNat c17) : Int) != (76 : Int)) (ifK (n5 == (4 : Int)) (R (AV.bool (s4 == [])) []) (R (AV.bool false) []))
                                                          (ifK (n5 == (0 : Int))
                                                            ((0 : Int) ≤ (1 : Int) ∧
                                                              (1 : Int) ≤ (↑(List.length a0) : Int) ∧
                                                                (↑(List.length a0) : Int) ≤ (↑(List.length a0) : Int) ∧ R (AV.bool (s4 == List.drop (1 : Nat) (List.take (Int.toNat (↑(List.length a0) : Int)) a0))) [])
                                                            (R (AV.bool false) [])))))))))))) :
  Hold (runF PG ty nG G0 an_greatseallaw_SealSays f_greatseallaw_SealSays [AV.str a0, AV.str b1] [] R) := kshow h (by kernel_rfl)

theorem greatseallaw_SealOne_run (a0 : List UInt8) (b1 : List UInt8) (c2 : List UInt8) (d3 : List UInt8) (G0 : Nat → Option Go.Obj) (R : AV → List (Option Blk) → Prop) (h :
∃ s0 n1,
  Good PG nG G0 f_seal_Node [AV.str a0, AV.str b1] [] (AV.tup [AV.str s0, AV.int Go.IntKind.i64 n1]) [] ∧
    ∃ s2 n3,
      Good PG nG G0 f_seal_Node [AV.str c2, AV.str d3] [] (AV.tup [AV.str s2, AV.int Go.IntKind.i64 n3]) [] ∧
        ∃ b4,
          Good PG nG G0 f_greatseallaw_sealed [] [] (AV.bool b4) [] ∧
            ifK (!b4) (R (AV.bool false) [])
              (ifK (n1 == (0 : Int))
                (ifK (n3 == (0 : Int))
                  (ifK (a0 == c2)
                    (ifK (!(s0 == s2) == (b1 == d3)) (R (AV.bool false) [])
                      (ifK (n1 == (0 : Int))
                        (∃ s5 s6 n7,
                          Good PG nG G0 f_seal_Split [AV.str s0] [] (AV.tup [AV.str s5, AV.str s6, AV.int Go.IntKind.i64 n7]) [] ∧
                            ifK (n7 != (0 : Int)) (R (AV.bool false) [])
                              (ifK (!s5 == a0) (R (AV.bool false) [])
                                (ifK (!s6 == b1) (R (AV.bool false) [])
                                  (∃ s8 n9,
                                    Good PG nG G0 f_seal_Leaf [AV.str a0] [] (AV.tup [AV.str s8, AV.int Go.IntKind.i64 n9]) [] ∧
                                      ifK (n9 == (0 : Int))
                                        (∃ s10 n11,
                                          Good PG nG G0 f_seal_Leaf [AV.str c2] [] (AV.tup [AV.str s10, AV.int Go.IntKind.i64 n11]) [] ∧
                                            ∃ s12 n13,
                                              Good PG nG G0 f_seal_Open [AV.str s8] [] (AV.tup [AV.str s12, AV.int Go.IntKind.i64 n13]) [] ∧
                                                ifK (n13 != (0 : Int)) (R (AV.bool false) [])
                                                  (ifK (!s12 == a0) (R (AV.bool false) [])
                                                    (ifK (n11 == (0 : Int))
                                                      (ifK (!(s8 == s10) == (a0 == c2)) (R (AV.bool false) [])
                                                        (ifK (n1 == (0 : Int))
                                                          (ifK (s8 == s0) (R (AV.bool false) [])
                                                            (∃ s14,
                                                              Good PG nG G0 f_seal_None [] [] (AV.str s14) [] ∧
                                                                ifK (s8 == s14) (R (AV.bool false) [])
                                                                  (∃ s15 s16 n17,
                                                                    Good PG nG G0 f_seal_Split [AV.str c2] [] (AV.tup [AV.str s15, AV.str s16, AV.int Go.IntKind.i64 n17]) [] ∧
                                                                      ifK (n17 != (0 : Int)) (R (AV.bool true) [])
                                                                        (∃ s18 n19,
                                                                          Good PG nG G0 f_seal_Node [AV.str s15, AV.str s16] [] (AV.tup [AV.str s18, AV.int Go.IntKind.i64 n19]) [] ∧
                                                                            ifK (n19 != (0 : Int)) (R (AV.bool true) []) (R (AV.bool (s18 == c2)) [])))))
                                                          (∃ s20,
                                                            Good PG nG G0 f_seal_None [] [] (AV.str s20) [] ∧
                                                              ifK (s8 == s20) (R (AV.bool false) [])
                                                                (∃ s21 s22 n23,
                                                                  Good PG nG G0 f_seal_Split [AV.str c2] [] (AV.tup [AV.str s21, AV.str s22, AV.int Go.IntKind.i64 n23]) [] ∧
                                                                    ifK (n23 != (0 : Int)) (R (AV.bool true) [])
                                                                      (∃ s24 n25,
                                                                        Good PG nG G0 f_seal_Node [AV.str s21, AV.str s22] [] (AV.tup [AV.str s24, AV.int Go.IntKind.i64 n25]) [] ∧
                                                                          ifK (n25 != (0 : Int)) (R (AV.bool true) []) (R (AV.bool (s24 == c2)) []))))))
                                                      (ifK (n1 == (0 : Int))
                                                        (ifK (s8 == s0) (R (AV.bool false) [])
                                                          (∃ s26,
                                                            Good PG nG G0 f_seal_None [] [] (AV.str s26) [] ∧
                                                              ifK (s8 == s26) (R (AV.bool false) [])
                                                                (∃ s27 s28 n29,
                                                                  Good PG nG G0 f_seal_Split [AV.str c2] [] (AV.tup [AV.str s27, AV.str s28, AV.int Go.IntKind.i64 n29]) [] ∧
                                                                    ifK (n29 != (0 : Int)) (R (AV.bool true) [])
                                                                      (∃ s30 n31,
                                                                        Good PG nG G0 f_seal_Node [AV.str s27, AV.str s28] [] (AV.tup [AV.str s30, AV.int Go.IntKind.i64 n31]) [] ∧
                                                                          ifK (n31 != (0 : Int)) (R (AV.bool true) []) (R (AV.bool (s30 == c2)) [])))))
                                                        (∃ s32,
                                                          Good PG nG G0 f_seal_None [] [] (AV.str s32) [] ∧
                                                            ifK (s8 == s32) (R (AV.bool false) [])
                                                              (∃ s33 s34 n35,
                                                                Good PG nG G0 f_seal_Split [AV.str c2] [] (AV.tup [AV.str s33, AV.str s34, AV.int Go.IntKind.i64 n35]) [] ∧
                                                                  ifK (n35 != (0 : Int)) (R (AV.bool true) [])
                                                                    (∃ s36 n37,
                                                                      Good PG nG G0 f_seal_Node [AV.str s33, AV.str s34] [] (AV.tup [AV.str s36, AV.int Go.IntKind.i64 n37]) [] ∧
                                                                        ifK (n37 != (0 : Int)) (R (AV.bool true) []) (R (AV.bool (s36 == c2)) []))))))))
                                        (∃ s38 s39 n40,
                                          Good PG nG G0 f_seal_Split [AV.str c2] [] (AV.tup [AV.str s38, AV.str s39, AV.int Go.IntKind.i64 n40]) [] ∧
                                            ifK (n40 != (0 : Int)) (R (AV.bool true) [])
                                              (∃ s41 n42,
                                                Good PG nG G0 f_seal_Node [AV.str s38, AV.str s39] [] (AV.tup [AV.str s41, AV.int Go.IntKind.i64 n42]) [] ∧
                                                  ifK (n42 != (0 : Int)) (R (AV.bool true) []) (R (AV.bool (s41 == c2)) [])))))))
                        (∃ s43 n44,
                          Good PG nG G0 f_seal_Leaf [AV.str a0] [] (AV.tup [AV.str s43, AV.int Go.IntKind.i64 n44]) [] ∧
                            ifK (n44 == (0 : Int))
                              (∃ s45 n46,
                                Good PG nG G0 f_seal_Leaf [AV.str c2] [] (AV.tup [AV.str s45, AV.int Go.IntKind.i64 n46]) [] ∧
                                  ∃ s47 n48,
                                    Good PG nG G0 f_seal_Open [AV.str s43] [] (AV.tup [AV.str s47, AV.int Go.IntKind.i64 n48]) [] ∧
                                      ifK (n48 != (0 : Int)) (R (AV.bool false) [])
                                        (ifK (!s47 == a0) (R (AV.bool false) [])
                                          (ifK (n46 == (0 : Int))
                                            (ifK (!(s43 == s45) == (a0 == c2)) (R (AV.bool false) [])
                                              (ifK (n1 == (0 : Int))
                                                (ifK (s43 == s0) (R (AV.bool false) [])
                                                  (∃ s49,
                                                    Good PG nG G0 f_seal_None [] [] (AV.str s49) [] ∧
                                                      ifK (s43 == s49) (R (AV.bool false) [])
                                                        (∃ s50 s51 n52,
                                                          Good PG nG G0 f_seal_Split [AV.str c2] [] (AV.tup [AV.str s50, AV.str s51, AV.int Go.IntKind.i64 n52]) [] ∧
                                                            ifK (n52 != (0 : Int)) (R (AV.bool true) [])
                                                              (∃ s53 n54,
                                                                Good PG nG G0 f_seal_Node [AV.str s50, AV.str s51] [] (AV.tup [AV.str s53, AV.int Go.IntKind.i64 n54]) [] ∧
                                                                  ifK (n54 != (0 : Int)) (R (AV.bool true) []) (R (AV.bool (s53 == c2)) [])))))
                                                (∃ s55,
                                                  Good PG nG G0 f_seal_None [] [] (AV.str s55) [] ∧
                                                    ifK (s43 == s55) (R (AV.bool false) [])
                                                      (∃ s56 s57 n58,
                                                        Good PG nG G0 f_seal_Split [AV.str c2] [] (AV.tup [AV.str s56, AV.str s57, AV.int Go.IntKind.i64 n58]) [] ∧
                                                          ifK (n58 != (0 : Int)) (R (AV.bool true) [])
                                                            (∃ s59 n60,
                                                              Good PG nG G0 f_seal_Node [AV.str s56, AV.str s57] [] (AV.tup [AV.str s59, AV.int Go.IntKind.i64 n60]) [] ∧
                                                                ifK (n60 != (0 : Int)) (R (AV.bool true) []) (R (AV.bool (s59 == c2)) []))))))
                                            (ifK (n1 == (0 : Int))
                                              (ifK (s43 == s0) (R (AV.bool false) [])
                                                (∃ s61,
                                                  Good PG nG G0 f_seal_None [] [] (AV.str s61) [] ∧
                                                    ifK (s43 == s61) (R (AV.bool false) [])
                                                      (∃ s62 s63 n64,
                                                        Good PG nG G0 f_seal_Split [AV.str c2] [] (AV.tup [AV.str s62, AV.str s63, AV.int Go.IntKind.i64 n64]) [] ∧
                                                          ifK (n64 != (0 : Int)) (R (AV.bool true) [])
                                                            (∃ s65 n66,
                                                              Good PG nG G0 f_seal_Node [AV.str s62, AV.str s63] [] (AV.tup [AV.str s65, AV.int Go.IntKind.i64 n66]) [] ∧
                                                                ifK (n66 != (0 : Int)) (R (AV.bool true) []) (R (AV.bool (s65 == c2)) [])))))
                                              (∃ s67,
                                                Good PG nG G0 f_seal_None [] [] (AV.str s67) [] ∧
                                                  ifK (s43 == s67) (R (AV.bool false) [])
                                                    (∃ s68 s69 n70,
                                                      Good PG nG G0 f_seal_Split [AV.str c2] [] (AV.tup [AV.str s68, AV.str s69, AV.int Go.IntKind.i64 n70]) [] ∧
                                                        ifK (n70 != (0 : Int)) (R (AV.bool true) [])
                                                          (∃ s71 n72,
                                                            Good PG nG G0 f_seal_Node [AV.str s68, AV.str s69] [] (AV.tup [AV.str s71, AV.int Go.IntKind.i64 n72]) [] ∧
                                                              ifK (n72 != (0 : Int)) (R (AV.bool true) []) (R (AV.bool (s71 == c2)) []))))))))
                              (∃ s73 s74 n75,
                                Good PG nG G0 f_seal_Split [AV.str c2] [] (AV.tup [AV.str s73, AV.str s74, AV.int Go.IntKind.i64 n75]) [] ∧
                                  ifK (n75 != (0 : Int)) (R (AV.bool true) [])
                                    (∃ s76 n77, Good PG nG G0 f_seal_Node [AV.str s73, AV.str s74] [] (AV.tup [AV.str s76, AV.int Go.IntKind.i64 n77]) [] ∧ ifK (n77 != (0 : Int)) (R (AV.bool true) []) (R (AV.bool (s76 == c2)) []))))))
                    (ifK (!(s0 == s2) == false) (R (AV.bool false) [])
                      (ifK (n1 == (0 : Int))
                        (∃ s78 s79 n80,
                          Good PG nG G0 f_seal_Split [AV.str s0] [] (AV.tup [AV.str s78, AV.str s79, AV.int Go.IntKind.i64 n80]) [] ∧
                            ifK (n80 != (0 : Int)) (R (AV.bool false) [])
                              (ifK (!s78 == a0) (R (AV.bool false) [])
                                (ifK (!s79 == b1) (R (AV.bool false) [])
                                  (∃ s81 n82,
                                    Good PG nG G0 f_seal_Leaf [AV.str a0] [] (AV.tup [AV.str s81, AV.int Go.IntKind.i64 n82]) [] ∧
                                      ifK (n82 == (0 : Int))
                                        (∃ s83 n84,
                                          Good PG nG G0 f_seal_Leaf [AV.str c2] [] (AV.tup [AV.str s83, AV.int Go.IntKind.i64 n84]) [] ∧
                                            ∃ s85 n86,
                                              Good PG nG G0 f_seal_Open [AV.str s81] [] (AV.tup [AV.str s85, AV.int Go.IntKind.i64 n86]) [] ∧
                                                ifK (n86 != (0 : Int)) (R (AV.bool false) [])
                                                  (ifK (!s85 == a0) (R (AV.bool false) [])
                                                    (ifK (n84 == (0 : Int))
                                                      (ifK (!(s81 == s83) == (a0 == c2)) (R (AV.bool false) [])
                                                        (ifK (n1 == (0 : Int))
                                                          (ifK (s81 == s0) (R (AV.bool false) [])
                                                            (∃ s87,
                                                              Good PG nG G0 f_seal_None [] [] (AV.str s87) [] ∧
                                                                ifK (s81 == s87) (R (AV.bool false) [])
                                                                  (∃ s88 s89 n90,
                                                                    Good PG nG G0 f_seal_Split [AV.str c2] [] (AV.tup [AV.str s88, AV.str s89, AV.int Go.IntKind.i64 n90]) [] ∧
                                                                      ifK (n90 != (0 : Int)) (R (AV.bool true) [])
                                                                        (∃ s91 n92,
                                                                          Good PG nG G0 f_seal_Node [AV.str s88, AV.str s89] [] (AV.tup [AV.str s91, AV.int Go.IntKind.i64 n92]) [] ∧
                                                                            ifK (n92 != (0 : Int)) (R (AV.bool true) []) (R (AV.bool (s91 == c2)) [])))))
                                                          (∃ s93,
                                                            Good PG nG G0 f_seal_None [] [] (AV.str s93) [] ∧
                                                              ifK (s81 == s93) (R (AV.bool false) [])
                                                                (∃ s94 s95 n96,
                                                                  Good PG nG G0 f_seal_Split [AV.str c2] [] (AV.tup [AV.str s94, AV.str s95, AV.int Go.IntKind.i64 n96]) [] ∧
                                                                    ifK (n96 != (0 : Int)) (R (AV.bool true) [])
                                                                      (∃ s97 n98,
                                                                        Good PG nG G0 f_seal_Node [AV.str s94, AV.str s95] [] (AV.tup [AV.str s97, AV.int Go.IntKind.i64 n98]) [] ∧
                                                                          ifK (n98 != (0 : Int)) (R (AV.bool true) []) (R (AV.bool (s97 == c2)) []))))))
                                                      (ifK (n1 == (0 : Int))
                                                        (ifK (s81 == s0) (R (AV.bool false) [])
                                                          (∃ s99,
                                                            Good PG nG G0 f_seal_None [] [] (AV.str s99) [] ∧
                                                              ifK (s81 == s99) (R (AV.bool false) [])
                                                                (∃ s100 s101 n102,
                                                                  Good PG nG G0 f_seal_Split [AV.str c2] [] (AV.tup [AV.str s100, AV.str s101, AV.int Go.IntKind.i64 n102]) [] ∧
                                                                    ifK (n102 != (0 : Int)) (R (AV.bool true) [])
                                                                      (∃ s103 n104,
                                                                        Good PG nG G0 f_seal_Node [AV.str s100, AV.str s101] [] (AV.tup [AV.str s103, AV.int Go.IntKind.i64 n104]) [] ∧
                                                                          ifK (n104 != (0 : Int)) (R (AV.bool true) []) (R (AV.bool (s103 == c2)) [])))))
                                                        (∃ s105,
                                                          Good PG nG G0 f_seal_None [] [] (AV.str s105) [] ∧
                                                            ifK (s81 == s105) (R (AV.bool false) [])
                                                              (∃ s106 s107 n108,
                                                                Good PG nG G0 f_seal_Split [AV.str c2] [] (AV.tup [AV.str s106, AV.str s107, AV.int Go.IntKind.i64 n108]) [] ∧
                                                                  ifK (n108 != (0 : Int)) (R (AV.bool true) [])
                                                                    (∃ s109 n110,
                                                                      Good PG nG G0 f_seal_Node [AV.str s106, AV.str s107] [] (AV.tup [AV.str s109, AV.int Go.IntKind.i64 n110]) [] ∧
                                                                        ifK (n110 != (0 : Int)) (R (AV.bool true) []) (R (AV.bool (s109 == c2)) []))))))))
                                        (∃ s111 s112 n113,
                                          Good PG nG G0 f_seal_Split [AV.str c2] [] (AV.tup [AV.str s111, AV.str s112, AV.int Go.IntKind.i64 n113]) [] ∧
                                            ifK (n113 != (0 : Int)) (R (AV.bool true) [])
                                              (∃ s114 n115,
                                                Good PG nG G0 f_seal_Node [AV.str s111, AV.str s112] [] (AV.tup [AV.str s114, AV.int Go.IntKind.i64 n115]) [] ∧
                                                  ifK (n115 != (0 : Int)) (R (AV.bool true) []) (R (AV.bool (s114 == c2)) [])))))))
                        (∃ s116 n117,
                          Good PG nG G0 f_seal_Leaf [AV.str a0] [] (AV.tup [AV.str s116, AV.int Go.IntKind.i64 n117]) [] ∧
                            ifK (n117 == (0 : Int))
                              (∃ s118 n119,
                                Good PG nG G0 f_seal_Leaf [AV.str c2] [] (AV.tup [AV.str s118, AV.int Go.IntKind.i64 n119]) [] ∧
                                  ∃ s120 n121,
                                    Good PG nG G0 f_seal_Open [AV.str s116] [] (AV.tup [AV.str s120, AV.int Go.IntKind.i64 n121]) [] ∧
                                      ifK (n121 != (0 : Int)) (R (AV.bool false) [])
                                        (ifK (!s120 == a0) (R (AV.bool false) [])
                                          (ifK (n119 == (0 : Int))
                                            (ifK (!(s116 == s118) == (a0 == c2)) (R (AV.bool false) [])
                                              (ifK (n1 == (0 : Int))
                                                (ifK (s116 == s0) (R (AV.bool false) [])
                                                  (∃ s122,
                                                    Good PG nG G0 f_seal_None [] [] (AV.str s122) [] ∧
                                                      ifK (s116 == s122) (R (AV.bool false) [])
                                                        (∃ s123 s124 n125,
                                                          Good PG nG G0 f_seal_Split [AV.str c2] [] (AV.tup [AV.str s123, AV.str s124, AV.int Go.IntKind.i64 n125]) [] ∧
                                                            ifK (n125 != (0 : Int)) (R (AV.bool true) [])
                                                              (∃ s126 n127,
                                                                Good PG nG G0 f_seal_Node [AV.str s123, AV.str s124] [] (AV.tup [AV.str s126, AV.int Go.IntKind.i64 n127]) [] ∧
                                                                  ifK (n127 != (0 : Int)) (R (AV.bool true) []) (R (AV.bool (s126 == c2)) [])))))
                                                (∃ s128,
                                                  Good PG nG G0 f_seal_None [] [] (AV.str s128) [] ∧
                                                    ifK (s116 == s128) (R (AV.bool false) [])
                                                      (∃ s129 s130 n131,
                                                        Good PG nG G0 f_seal_Split [AV.str c2] [] (AV.tup [AV.str s129, AV.str s130, AV.int Go.IntKind.i64 n131]) [] ∧
                                                          ifK (n131 != (0 : Int)) (R (AV.bool true) [])
                                                            (∃ s132 n133,
                                                              Good PG nG G0 f_seal_Node [AV.str s129, AV.str s130] [] (AV.tup [AV.str s132, AV.int Go.IntKind.i64 n133]) [] ∧
                                                                ifK (n133 != (0 : Int)) (R (AV.bool true) []) (R (AV.bool (s132 == c2)) []))))))
                                            (ifK (n1 == (0 : Int))
                                              (ifK (s116 == s0) (R (AV.bool false) [])
                                                (∃ s134,
                                                  Good PG nG G0 f_seal_None [] [] (AV.str s134) [] ∧
                                                    ifK (s116 == s134) (R (AV.bool false) [])
                                                      (∃ s135 s136 n137,
                                                        Good PG nG G0 f_seal_Split [AV.str c2] [] (AV.tup [AV.str s135, AV.str s136, AV.int Go.IntKind.i64 n137]) [] ∧
                                                          ifK (n137 != (0 : Int)) (R (AV.bool true) [])
                                                            (∃ s138 n139,
                                                              Good PG nG G0 f_seal_Node [AV.str s135, AV.str s136] [] (AV.tup [AV.str s138, AV.int Go.IntKind.i64 n139]) [] ∧
                                                                ifK (n139 != (0 : Int)) (R (AV.bool true) []) (R (AV.bool (s138 == c2)) [])))))
                                              (∃ s140,
                                                Good PG nG G0 f_seal_None [] [] (AV.str s140) [] ∧
                                                  ifK (s116 == s140) (R (AV.bool false) [])
                                                    (∃ s141 s142 n143,
                                                      Good PG nG G0 f_seal_Split [AV.str c2] [] (AV.tup [AV.str s141, AV.str s142, AV.int Go.IntKind.i64 n143]) [] ∧
                                                        ifK (n143 != (0 : Int)) (R (AV.bool true) [])
                                                          (∃ s144 n145,
                                                            Good PG nG G0 f_seal_Node [AV.str s141, AV.str s142] [] (AV.tup [AV.str s144, AV.int Go.IntKind.i64 n145]) [] ∧
                                                              ifK (n145 != (0 : Int)) (R (AV.bool true) []) (R (AV.bool (s144 == c2)) []))))))))
                              (∃ s146 s147 n148,
                                Good PG nG G0 f_seal_Split [AV.str c2] [] (AV.tup [AV.str s146, AV.str s147, AV.int Go.IntKind.i64 n148]) [] ∧
                                  ifK (n148 != (0 : Int)) (R (AV.bool true) [])
                                    (∃ s149 n150,
                                      Good PG nG G0 f_seal_Node [AV.str s146, AV.str s147] [] (AV.tup [AV.str s149, AV.int Go.IntKind.i64 n150]) [] ∧ ifK (n150 != (0 : Int)) (R (AV.bool true) []) (R (AV.bool (s149 == c2)) [])))))))
                  (ifK (n1 == (0 : Int))
                    (∃ s151 s152 n153,
                      Good PG nG G0 f_seal_Split [AV.str s0] [] (AV.tup [AV.str s151, AV.str s152, AV.int Go.IntKind.i64 n153]) [] ∧
                        ifK (n153 != (0 : Int)) (R (AV.bool false) [])
                          (ifK (!s151 == a0) (R (AV.bool false) [])
                            (ifK (!s152 == b1) (R (AV.bool false) [])
                              (∃ s154 n155,
                                Good PG nG G0 f_seal_Leaf [AV.str a0] [] (AV.tup [AV.str s154, AV.int Go.IntKind.i64 n155]) [] ∧
                                  ifK (n155 == (0 : Int))
                                    (∃ s156 n157,
                                      Good PG nG G0 f_seal_Leaf [AV.str c2] [] (AV.tup [AV.str s156, AV.int Go.IntKind.i64 n157]) [] ∧
                                        ∃ s158 n159,
                                          Good PG nG G0 f_seal_Open [AV.str s154] [] (AV.tup [AV.str s158, AV.int Go.IntKind.i64 n159]) [] ∧
                                            ifK (n159 != (0 : Int)) (R (AV.bool false) [])
                                              (ifK (!s158 == a0) (R (AV.bool false) [])
                                                (ifK (n157 == (0 : Int))
                                                  (ifK (!(s154 == s156) == (a0 == c2)) (R (AV.bool false) [])
                                                    (ifK (n1 == (0 : Int))
                                                      (ifK (s154 == s0) (R (AV.bool false) [])
                                                        (∃ s160,
                                                          Good PG nG G0 f_seal_None [] [] (AV.str s160) [] ∧
                                                            ifK (s154 == s160) (R (AV.bool false) [])
                                                              (∃ s161 s162 n163,
                                                                Good PG nG G0 f_seal_Split [AV.str c2] [] (AV.tup [AV.str s161, AV.str s162, AV.int Go.IntKind.i64 n163]) [] ∧
                                                                  ifK (n163 != (0 : Int)) (R (AV.bool true) [])
                                                                    (∃ s164 n165,
                                                                      Good PG nG G0 f_seal_Node [AV.str s161, AV.str s162] [] (AV.tup [AV.str s164, AV.int Go.IntKind.i64 n165]) [] ∧
                                                                        ifK (n165 != (0 : Int)) (R (AV.bool true) []) (R (AV.bool (s164 == c2)) [])))))
                                                      (∃ s166,
                                                        Good PG nG G0 f_seal_None [] [] (AV.str s166) [] ∧
                                                          ifK (s154 == s166) (R (AV.bool false) [])
                                                            (∃ s167 s168 n169,
                                                              Good PG nG G0 f_seal_Split [AV.str c2] [] (AV.tup [AV.str s167, AV.str s168, AV.int Go.IntKind.i64 n169]) [] ∧
                                                                ifK (n169 != (0 : Int)) (R (AV.bool true) [])
                                                                  (∃ s170 n171,
                                                                    Good PG nG G0 f_seal_Node [AV.str s167, AV.str s168] [] (AV.tup [AV.str s170, AV.int Go.IntKind.i64 n171]) [] ∧
                                                                      ifK (n171 != (0 : Int)) (R (AV.bool true) []) (R (AV.bool (s170 == c2)) []))))))
                                                  (ifK (n1 == (0 : Int))
                                                    (ifK (s154 == s0) (R (AV.bool false) [])
                                                      (∃ s172,
                                                        Good PG nG G0 f_seal_None [] [] (AV.str s172) [] ∧
                                                          ifK (s154 == s172) (R (AV.bool false) [])
                                                            (∃ s173 s174 n175,
                                                              Good PG nG G0 f_seal_Split [AV.str c2] [] (AV.tup [AV.str s173, AV.str s174, AV.int Go.IntKind.i64 n175]) [] ∧
                                                                ifK (n175 != (0 : Int)) (R (AV.bool true) [])
                                                                  (∃ s176 n177,
                                                                    Good PG nG G0 f_seal_Node [AV.str s173, AV.str s174] [] (AV.tup [AV.str s176, AV.int Go.IntKind.i64 n177]) [] ∧
                                                                      ifK (n177 != (0 : Int)) (R (AV.bool true) []) (R (AV.bool (s176 == c2)) [])))))
                                                    (∃ s178,
                                                      Good PG nG G0 f_seal_None [] [] (AV.str s178) [] ∧
                                                        ifK (s154 == s178) (R (AV.bool false) [])
                                                          (∃ s179 s180 n181,
                                                            Good PG nG G0 f_seal_Split [AV.str c2] [] (AV.tup [AV.str s179, AV.str s180, AV.int Go.IntKind.i64 n181]) [] ∧
                                                              ifK (n181 != (0 : Int)) (R (AV.bool true) [])
                                                                (∃ s182 n183,
                                                                  Good PG nG G0 f_seal_Node [AV.str s179, AV.str s180] [] (AV.tup [AV.str s182, AV.int Go.IntKind.i64 n183]) [] ∧
                                                                    ifK (n183 != (0 : Int)) (R (AV.bool true) []) (R (AV.bool (s182 == c2)) []))))))))
                                    (∃ s184 s185 n186,
                                      Good PG nG G0 f_seal_Split [AV.str c2] [] (AV.tup [AV.str s184, AV.str s185, AV.int Go.IntKind.i64 n186]) [] ∧
                                        ifK (n186 != (0 : Int)) (R (AV.bool true) [])
                                          (∃ s187 n188,
                                            Good PG nG G0 f_seal_Node [AV.str s184, AV.str s185] [] (AV.tup [AV.str s187, AV.int Go.IntKind.i64 n188]) [] ∧
                                              ifK (n188 != (0 : Int)) (R (AV.bool true) []) (R (AV.bool (s187 == c2)) [])))))))
                    (∃ s189 n190,
                      Good PG nG G0 f_seal_Leaf [AV.str a0] [] (AV.tup [AV.str s189, AV.int Go.IntKind.i64 n190]) [] ∧
                        ifK (n190 == (0 : Int))
                          (∃ s191 n192,
                            Good PG nG G0 f_seal_Leaf [AV.str c2] [] (AV.tup [AV.str s191, AV.int Go.IntKind.i64 n192]) [] ∧
                              ∃ s193 n194,
                                Good PG nG G0 f_seal_Open [AV.str s189] [] (AV.tup [AV.str s193, AV.int Go.IntKind.i64 n194]) [] ∧
                                  ifK (n194 != (0 : Int)) (R (AV.bool false) [])
                                    (ifK (!s193 == a0) (R (AV.bool false) [])
                                      (ifK (n192 == (0 : Int))
                                        (ifK (!(s189 == s191) == (a0 == c2)) (R (AV.bool false) [])
                                          (ifK (n1 == (0 : Int))
                                            (ifK (s189 == s0) (R (AV.bool false) [])
                                              (∃ s195,
                                                Good PG nG G0 f_seal_None [] [] (AV.str s195) [] ∧
                                                  ifK (s189 == s195) (R (AV.bool false) [])
                                                    (∃ s196 s197 n198,
                                                      Good PG nG G0 f_seal_Split [AV.str c2] [] (AV.tup [AV.str s196, AV.str s197, AV.int Go.IntKind.i64 n198]) [] ∧
                                                        ifK (n198 != (0 : Int)) (R (AV.bool true) [])
                                                          (∃ s199 n200,
                                                            Good PG nG G0 f_seal_Node [AV.str s196, AV.str s197] [] (AV.tup [AV.str s199, AV.int Go.IntKind.i64 n200]) [] ∧
                                                              ifK (n200 != (0 : Int)) (R (AV.bool true) []) (R (AV.bool (s199 == c2)) [])))))
                                            (∃ s201,
                                              Good PG nG G0 f_seal_None [] [] (AV.str s201) [] ∧
                                                ifK (s189 == s201) (R (AV.bool false) [])
                                                  (∃ s202 s203 n204,
                                                    Good PG nG G0 f_seal_Split [AV.str c2] [] (AV.tup [AV.str s202, AV.str s203, AV.int Go.IntKind.i64 n204]) [] ∧
                                                      ifK (n204 != (0 : Int)) (R (AV.bool true) [])
                                                        (∃ s205 n206,
                                                          Good PG nG G0 f_seal_Node [AV.str s202, AV.str s203] [] (AV.tup [AV.str s205, AV.int Go.IntKind.i64 n206]) [] ∧
                                                            ifK (n206 != (0 : Int)) (R (AV.bool true) []) (R (AV.bool (s205 == c2)) []))))))
                                        (ifK (n1 == (0 : Int))
                                          (ifK (s189 == s0) (R (AV.bool false) [])
                                            (∃ s207,
                                              Good PG nG G0 f_seal_None [] [] (AV.str s207) [] ∧
                                                ifK (s189 == s207) (R (AV.bool false) [])
                                                  (∃ s208 s209 n210,
                                                    Good PG nG G0 f_seal_Split [AV.str c2] [] (AV.tup [AV.str s208, AV.str s209, AV.int Go.IntKind.i64 n210]) [] ∧
                                                      ifK (n210 != (0 : Int)) (R (AV.bool true) [])
                                                        (∃ s211 n212,
                                                          Good PG nG G0 f_seal_Node [AV.str s208, AV.str s209] [] (AV.tup [AV.str s211, AV.int Go.IntKind.i64 n212]) [] ∧
                                                            ifK (n212 != (0 : Int)) (R (AV.bool true) []) (R (AV.bool (s211 == c2)) [])))))
                                          (∃ s213,
                                            Good PG nG G0 f_seal_None [] [] (AV.str s213) [] ∧
                                              ifK (s189 == s213) (R (AV.bool false) [])
                                                (∃ s214 s215 n216,
                                                  Good PG nG G0 f_seal_Split [AV.str c2] [] (AV.tup [AV.str s214, AV.str s215, AV.int Go.IntKind.i64 n216]) [] ∧
                                                    ifK (n216 != (0 : Int)) (R (AV.bool true) [])
                                                      (∃ s217 n218,
                                                        Good PG nG G0 f_seal_Node [AV.str s214, AV.str s215] [] (AV.tup [AV.str s217, AV.int Go.IntKind.i64 n218]) [] ∧
                                                          ifK (n218 != (0 : Int)) (R (AV.bool true) []) (R (AV.bool (s217 == c2)) []))))))))
                          (∃ s219 s220 n221,
                            Good PG nG G0 f_seal_Split [AV.str c2] [] (AV.tup [AV.str s219, AV.str s220, AV.int Go.IntKind.i64 n221]) [] ∧
                              ifK (n221 != (0 : Int)) (R (AV.bool true) [])
                                (∃ s222 n223,
                                  Good PG nG G0 f_seal_Node [AV.str s219, AV.str s220] [] (AV.tup [AV.str s222, AV.int Go.IntKind.i64 n223]) [] ∧ ifK (n223 != (0 : Int)) (R (AV.bool true) []) (R (AV.bool (s222 == c2)) []))))))
                (ifK (n1 == (0 : Int))
                  (∃ s224 s225 n226,
                    Good PG nG G0 f_seal_Split [AV.str s0] [] (AV.tup [AV.str s224, AV.str s225, AV.int Go.IntKind.i64 n226]) [] ∧
                      ifK (n226 != (0 : Int)) (R (AV.bool false) [])
                        (ifK (!s224 == a0) (R (AV.bool false) [])
                          (ifK (!s225 == b1) (R (AV.bool false) [])
                            (∃ s227 n228,
                              Good PG nG G0 f_seal_Leaf [AV.str a0] [] (AV.tup [AV.str s227, AV.int Go.IntKind.i64 n228]) [] ∧
                                ifK (n228 == (0 : Int))
                                  (∃ s229 n230,
                                    Good PG nG G0 f_seal_Leaf [AV.str c2] [] (AV.tup [AV.str s229, AV.int Go.IntKind.i64 n230]) [] ∧
                                      ∃ s231 n232,
                                        Good PG nG G0 f_seal_Open [AV.str s227] [] (AV.tup [AV.str s231, AV.int Go.IntKind.i64 n232]) [] ∧
                                          ifK (n232 != (0 : Int)) (R (AV.bool false) [])
                                            (ifK (!s231 == a0) (R (AV.bool false) [])
                                              (ifK (n230 == (0 : Int))
                                                (ifK (!(s227 == s229) == (a0 == c2)) (R (AV.bool false) [])
                                                  (ifK (n1 == (0 : Int))
                                                    (ifK (s227 == s0) (R (AV.bool false) [])
                                                      (∃ s233,
                                                        Good PG nG G0 f_seal_None [] [] (AV.str s233) [] ∧
                                                          ifK (s227 == s233) (R (AV.bool false) [])
                                                            (∃ s234 s235 n236,
                                                              Good PG nG G0 f_seal_Split [AV.str c2] [] (AV.tup [AV.str s234, AV.str s235, AV.int Go.IntKind.i64 n236]) [] ∧
                                                                ifK (n236 != (0 : Int)) (R (AV.bool true) [])
                                                                  (∃ s237 n238,
                                                                    Good PG nG G0 f_seal_Node [AV.str s234, AV.str s235] [] (AV.tup [AV.str s237, AV.int Go.IntKind.i64 n238]) [] ∧
                                                                      ifK (n238 != (0 : Int)) (R (AV.bool true) []) (R (AV.bool (s237 == c2)) [])))))
                                                    (∃ s239,
                                                      Good PG nG G0 f_seal_None [] [] (AV.str s239) [] ∧
                                                        ifK (s227 == s239) (R (AV.bool false) [])
                                                          (∃ s240 s241 n242,
                                                            Good PG nG G0 f_seal_Split [AV.str c2] [] (AV.tup [AV.str s240, AV.str s241, AV.int Go.IntKind.i64 n242]) [] ∧
                                                              ifK (n242 != (0 : Int)) (R (AV.bool true) [])
                                                                (∃ s243 n244,
                                                                  Good PG nG G0 f_seal_Node [AV.str s240, AV.str s241] [] (AV.tup [AV.str s243, AV.int Go.IntKind.i64 n244]) [] ∧
                                                                    ifK (n244 != (0 : Int)) (R (AV.bool true) []) (R (AV.bool (s243 == c2)) []))))))
                                                (ifK (n1 == (0 : Int))
                                                  (ifK (s227 == s0) (R (AV.bool false) [])
                                                    (∃ s245,
                                                      Good PG nG G0 f_seal_None [] [] (AV.str s245) [] ∧
                                                        ifK (s227 == s245) (R (AV.bool false) [])
                                                          (∃ s246 s247 n248,
                                                            Good PG nG G0 f_seal_Split [AV.str c2] [] (AV.tup [AV.str s246, AV.str s247, AV.int Go.IntKind.i64 n248]) [] ∧
                                                              ifK (n248 != (0 : Int)) (R (AV.bool true) [])
                                                                (∃ s249 n250,
                                                                  Good PG nG G0 f_seal_Node [AV.str s246, AV.str s247] [] (AV.tup [AV.str s249, AV.int Go.IntKind.i64 n250]) [] ∧
                                                                    ifK (n250 != (0 : Int)) (R (AV.bool true) []) (R (AV.bool (s249 == c2)) [])))))
                                                  (∃ s251,
                                                    Good PG nG G0 f_seal_None [] [] (AV.str s251) [] ∧
                                                      ifK (s227 == s251) (R (AV.bool false) [])
                                                        (∃ s252 s253 n254,
                                                          Good PG nG G0 f_seal_Split [AV.str c2] [] (AV.tup [AV.str s252, AV.str s253, AV.int Go.IntKind.i64 n254]) [] ∧
                                                            ifK (n254 != (0 : Int)) (R (AV.bool true) [])
                                                              (∃ s255 n256,
                                                                Good PG nG G0 f_seal_Node [AV.str s252, AV.str s253] [] (AV.tup [AV.str s255, AV.int Go.IntKind.i64 n256]) [] ∧
                                                                  ifK (n256 != (0 : Int)) (R (AV.bool true) []) (R (AV.bool (s255 == c2)) []))))))))
                                  (∃ s257 s258 n259,
                                    Good PG nG G0 f_seal_Split [AV.str c2] [] (AV.tup [AV.str s257, AV.str s258, AV.int Go.IntKind.i64 n259]) [] ∧
                                      ifK (n259 != (0 : Int)) (R (AV.bool true) [])
                                        (∃ s260 n261,
                                          Good PG nG G0 f_seal_Node [AV.str s257, AV.str s258] [] (AV.tup [AV.str s260, AV.int Go.IntKind.i64 n261]) [] ∧
                                            ifK (n261 != (0 : Int)) (R (AV.bool true) []) (R (AV.bool (s260 == c2)) [])))))))
                  (∃ s262 n263,
                    Good PG nG G0 f_seal_Leaf [AV.str a0] [] (AV.tup [AV.str s262, AV.int Go.IntKind.i64 n263]) [] ∧
                      ifK (n263 == (0 : Int))
                        (∃ s264 n265,
                          Good PG nG G0 f_seal_Leaf [AV.str c2] [] (AV.tup [AV.str s264, AV.int Go.IntKind.i64 n265]) [] ∧
                            ∃ s266 n267,
                              Good PG nG G0 f_seal_Open [AV.str s262] [] (AV.tup [AV.str s266, AV.int Go.IntKind.i64 n267]) [] ∧
                                ifK (n267 != (0 : Int)) (R (AV.bool false) [])
                                  (ifK (!s266 == a0) (R (AV.bool false) [])
                                    (ifK (n265 == (0 : Int))
                                      (ifK (!(s262 == s264) == (a0 == c2)) (R (AV.bool false) [])
                                        (ifK (n1 == (0 : Int))
                                          (ifK (s262 == s0) (R (AV.bool false) [])
                                            (∃ s268,
                                              Good PG nG G0 f_seal_None [] [] (AV.str s268) [] ∧
                                                ifK (s262 == s268) (R (AV.bool false) [])
                                                  (∃ s269 s270 n271,
                                                    Good PG nG G0 f_seal_Split [AV.str c2] [] (AV.tup [AV.str s269, AV.str s270, AV.int Go.IntKind.i64 n271]) [] ∧
                                                      ifK (n271 != (0 : Int)) (R (AV.bool true) [])
                                                        (∃ s272 n273,
                                                          Good PG nG G0 f_seal_Node [AV.str s269, AV.str s270] [] (AV.tup [AV.str s272, AV.int Go.IntKind.i64 n273]) [] ∧
                                                            ifK (n273 != (0 : Int)) (R (AV.bool true) []) (R (AV.bool (s272 == c2)) [])))))
                                          (∃ s274,
                                            Good PG nG G0 f_seal_None [] [] (AV.str s274) [] ∧
                                              ifK (s262 == s274) (R (AV.bool false) [])
                                                (∃ s275 s276 n277,
                                                  Good PG nG G0 f_seal_Split [AV.str c2] [] (AV.tup [AV.str s275, AV.str s276, AV.int Go.IntKind.i64 n277]) [] ∧
                                                    ifK (n277 != (0 : Int)) (R (AV.bool true) [])
                                                      (∃ s278 n279,
                                                        Good PG nG G0 f_seal_Node [AV.str s275, AV.str s276] [] (AV.tup [AV.str s278, AV.int Go.IntKind.i64 n279]) [] ∧
                                                          ifK (n279 != (0 : Int)) (R (AV.bool true) []) (R (AV.bool (s278 == c2)) []))))))
                                      (ifK (n1 == (0 : Int))
                                        (ifK (s262 == s0) (R (AV.bool false) [])
                                          (∃ s280,
                                            Good PG nG G0 f_seal_None [] [] (AV.str s280) [] ∧
                                              ifK (s262 == s280) (R (AV.bool false) [])
                                                (∃ s281 s282 n283,
                                                  Good PG nG G0 f_seal_Split [AV.str c2] [] (AV.tup [AV.str s281, AV.str s282, AV.int Go.IntKind.i64 n283]) [] ∧
                                                    ifK (n283 != (0 : Int)) (R (AV.bool true) [])
                                                      (∃ s284 n285,
                                                        Good PG nG G0 f_seal_Node [AV.str s281, AV.str s282] [] (AV.tup [AV.str s284, AV.int Go.IntKind.i64 n285]) [] ∧
                                                          ifK (n285 != (0 : Int)) (R (AV.bool true) []) (R (AV.bool (s284 == c2)) [])))))
                                        (∃ s286,
                                          Good PG nG G0 f_seal_None [] [] (AV.str s286) [] ∧
                                            ifK (s262 == s286) (R (AV.bool false) [])
                                              (∃ s287 s288 n289,
                                                Good PG nG G0 f_seal_Split [AV.str c2] [] (AV.tup [AV.str s287, AV.str s288, AV.int Go.IntKind.i64 n289]) [] ∧
                                                  ifK (n289 != (0 : Int)) (R (AV.bool true) [])
                                                    (∃ s290 n291,
                                                      Good PG nG G0 f_seal_Node [AV.str s287, AV.str s288] [] (AV.tup [AV.str s290, AV.int Go.IntKind.i64 n291]) [] ∧
                                                        ifK (n291 != (0 : Int)) (R (AV.bool true) []) (R (AV.bool (s290 == c2)) []))))))))
                        (∃ s292 s293 n294,
                          Good PG nG G0 f_seal_Split [AV.str c2] [] (AV.tup [AV.str s292, AV.str s293, AV.int Go.IntKind.i64 n294]) [] ∧
                            ifK (n294 != (0 : Int)) (R (AV.bool true) [])
                              (∃ s295 n296,
                                Good PG nG G0 f_seal_Node [AV.str s292, AV.str s293] [] (AV.tup [AV.str s295, AV.int Go.IntKind.i64 n296]) [] ∧ ifK (n296 != (0 : Int)) (R (AV.bool true) []) (R (AV.bool (s295 == c2)) []))))))) :
  Hold (runF PG ty nG G0 an_greatseallaw_SealOne f_greatseallaw_SealOne [AV.str a0, AV.str b1, AV.str c2, AV.str d3] [] R) := kshow h (by kernel_rfl)

theorem greatseallaw_SealLong_run (a0 : List UInt8) (b1 : List UInt8) (G0 : Nat → Option Go.Obj) (R : AV → List (Option Blk) → Prop) (h :
∃ s0 n1,
  Good PG nG G0 f_seal_Leaf [AV.str a0] [] (AV.tup [AV.str s0, AV.int Go.IntKind.i64 n1]) [] ∧
    ∃ s2 n3,
      Good PG nG G0 f_seal_Node [AV.str a0, AV.str b1] [] (AV.tup [AV.str s2, AV.int Go.IntKind.i64 n3]) [] ∧
        ∃ b4,
          Good PG nG G0 f_greatseallaw_sealed [] [] (AV.bool b4) [] ∧
            ifK (!b4) (R (AV.bool false) [])
              (ifK (n1 == (0 : Int))
                (ifK ((↑(List.length s0) : Int) != Go.IntKind.wrap Go.IntKind.i64 ((↑(List.length a0) : Int) + (1 : Int))) (R (AV.bool false) [])
                  (ifK (n3 != (0 : Int)) (R (AV.bool true) [])
                    (ifK (decide ((↑(List.length s2) : Int) ≤ Go.IntKind.wrap Go.IntKind.i64 (Go.IntKind.wrap Go.IntKind.i64 ((↑(List.length a0) : Int) + (↑(List.length b1) : Int)) + (7 : Int))))
                      (ifK (decide ((↑(List.length s2) : Int) ≥ Go.IntKind.wrap Go.IntKind.i64 (Go.IntKind.wrap Go.IntKind.i64 ((↑(List.length a0) : Int) + (↑(List.length b1) : Int)) + (3 : Int))))
                        (List.length a0 + List.length b1 ≤ (9223372036854775807 : Nat) ∧ ∃ b5, Good PG nG G0 f_strings_HasSuffix [AV.str s2, AV.str (a0 ++ b1)] [] (AV.bool b5) [] ∧ R (AV.bool b5) []) (R (AV.bool false) []))
                      (R (AV.bool false) []))))
                (ifK (n3 != (0 : Int)) (R (AV.bool true) [])
                  (ifK (decide ((↑(List.length s2) : Int) ≤ Go.IntKind.wrap Go.IntKind.i64 (Go.IntKind.wrap Go.IntKind.i64 ((↑(List.length a0) : Int) + (↑(List.length b1) : Int)) + (7 : Int))))
                    (ifK (decide ((↑(List.length s2) : Int) ≥ Go.IntKind.wrap Go.IntKind.i64 (Go.IntKind.wrap Go.IntKind.i64 ((↑(List.length a0) : Int) + (↑(List.length b1) : Int)) + (3 : Int))))
                      (List.length a0 + List.length b1 ≤ (9223372036854775807 : Nat) ∧ ∃ b6, Good PG nG G0 f_strings_HasSuffix [AV.str s2, AV.str (a0 ++ b1)] [] (AV.bool b6) [] ∧ R (AV.bool b6) []) (R (AV.bool false) []))
                    (R (AV.bool false) []))))) :
  Hold (runF PG ty nG G0 an_greatseallaw_SealLong f_greatseallaw_SealLong [AV.str a0, AV.str b1] [] R) := kshow h (by kernel_rfl)

theorem greatseallaw_TreeHalves_run (nll0 : Bool) (l0 : List (List AV)) (G0 : Nat → Option Go.Obj) (R : AV → List (Option Blk) → Prop) (h :
∃ s0 n1,
  Good PG nG G0 f_tree_Root [AV.sl (1 : Nat) nll0 none l0] [] (AV.tup [AV.str s0, AV.int Go.IntKind.i64 n1]) [] ∧
    ∃ b2,
      Good PG nG G0 f_greatseallaw_planted [] [] (AV.bool b2) [] ∧
        ifK (!b2) (∃ b3, Good PG nG G0 f_greatseallaw_planted [] [] (AV.bool b3) [] ∧ R (AV.bool b3) [])
          (ifK (n1 != (0 : Int)) (∃ b4, Good PG nG G0 f_greatseallaw_planted [] [] (AV.bool b4) [] ∧ R (AV.bool b4) [])
            (ifK (decide ((↑(List.length l0) : Int) < (2 : Int))) (∃ b5, Good PG nG G0 f_greatseallaw_planted [] [] (AV.bool b5) [] ∧ R (AV.bool b5) [])
              (∃ n6 n7,
                Good PG nG G0 f_tree_Half [AV.int Go.IntKind.i64 (↑(List.length l0) : Int)] [] (AV.tup [AV.int Go.IntKind.i64 n6, AV.int Go.IntKind.i64 n7]) [] ∧
                  ifK (n7 != (0 : Int)) (R (AV.bool false) [])
                    (ifK (decide (n6 < (1 : Int))) (R (AV.bool false) [])
                      (ifK (decide (n6 ≥ (↑(List.length l0) : Int))) (R (AV.bool false) [])
                        (ifK (decide (n6 < Go.IntKind.wrap Go.IntKind.i64 ((↑(List.length l0) : Int) - n6))) (R (AV.bool false) [])
                          (ifK (Go.IntKind.wrap Go.IntKind.i64 (↑(BitVec.toNat (BitVec.ofInt (64 : Nat) n6 &&& BitVec.ofInt (64 : Nat) (Go.IntKind.wrap Go.IntKind.i64 (n6 - (1 : Int))))) : Int) != (0 : Int)) (R (AV.bool false) [])
                            ((0 : Int) ≤ (0 : Int) ∧
                              (0 : Int) ≤ n6 ∧
                                n6 ≤ (↑(List.length l0) : Int) ∧
                                  ∃ s8 n9,
                                    Good PG nG G0 f_tree_Root [AV.sl (1 : Nat) nll0 none (List.drop (0 : Nat) (List.take (Int.toNat n6) l0))] [] (AV.tup [AV.str s8, AV.int Go.IntKind.i64 n9]) [] ∧
                                      (0 : Int) ≤ n6 ∧
                                        n6 ≤ (↑(List.length l0) : Int) ∧
                                          (↑(List.length l0) : Int) ≤ (↑(List.length l0) : Int) ∧
                                            ∃ s10 n11,
                                              Good PG nG G0 f_tree_Root [AV.sl (1 : Nat) nll0 none (List.drop (Int.toNat n6) (List.take (Int.toNat (↑(List.length l0) : Int)) l0))] [] (AV.tup [AV.str s10, AV.int Go.IntKind.i64 n11])
                                                  [] ∧
                                                ∃ s12 s13 n14,
                                                  Good PG nG G0 f_seal_Split [AV.str s0] [] (AV.tup [AV.str s12, AV.str s13, AV.int Go.IntKind.i64 n14]) [] ∧
                                                    ifK (n9 == (0 : Int)) (ifK (n11 == (0 : Int)) (ifK (n14 == (0 : Int)) (ifK (s12 == s8) (R (AV.bool (s13 == s10)) []) (R (AV.bool false) [])) (R (AV.bool false) [])) (R (AV.bool false) []))
                                                      (R (AV.bool false) [])))))))))) :
  Hold (runF PG ty nG G0 an_greatseallaw_TreeHalves f_greatseallaw_TreeHalves [AV.sl (1 : Nat) nll0 none l0] [] R) := kshow h (by kernel_rfl)

theorem greatseallaw_NoteSays_run (h0_0 : Int) (h0_1 : List UInt8) (h0_2 : List UInt8) (s1 : List UInt8) (G0 : Nat → Option Go.Obj) (R : AV → List (Option Blk) → Prop) (h :
∃ s0 n1,
  Good PG nG G0 f_note_Print [AV.agg [AV.int Go.IntKind.i64 h0_0, AV.str h0_1, AV.str h0_2]] [] (AV.tup [AV.str s0, AV.int Go.IntKind.i64 n1]) [] ∧
    ∃ n2 s3 s4 n5,
      Good PG nG G0 f_note_Parse [AV.str s1] [] (AV.tup [AV.agg [AV.int Go.IntKind.i64 n2, AV.str s3, AV.str s4], AV.int Go.IntKind.i64 n5]) [] ∧
        ∃ s6 n7,
          Good PG nG G0 f_greatsealref_HeadText [AV.agg [AV.int Go.IntKind.i64 h0_0, AV.str h0_1, AV.str h0_2]] [] (AV.tup [AV.str s6, AV.int Go.IntKind.i64 n7]) [] ∧
            ∃ n8 s9 s10 n11,
              Good PG nG G0 f_greatsealref_HeadRead [AV.str s1] [] (AV.tup [AV.agg [AV.int Go.IntKind.i64 n8, AV.str s9, AV.str s10], AV.int Go.IntKind.i64 n11]) [] ∧
                ∃ b12,
                  Good PG nG G0 f_greatseallaw_noted [] [] (AV.bool b12) [] ∧
                    ifK b12
                      (∃ n13,
                        Good PG nG G0 f_note_Check [AV.agg [AV.int Go.IntKind.i64 h0_0, AV.str h0_1, AV.str h0_2]] [] (AV.int Go.IntKind.i64 n13) [] ∧
                          ∃ n14,
                            Good PG nG G0 f_greatsealref_CheckHead [AV.agg [AV.int Go.IntKind.i64 h0_0, AV.str h0_1, AV.str h0_2]] [] (AV.int Go.IntKind.i64 n14) [] ∧
                              ifK (n13 == n14)
                                (ifK (n1 == n7)
                                  (ifK (s0 == s6) (ifK (n5 == n11) (R (AV.bool (eqAll [AV.int Go.IntKind.i64 n2, AV.str s3, AV.str s4] [AV.int Go.IntKind.i64 n8, AV.str s9, AV.str s10])) []) (R (AV.bool false) [])) (R (AV.bool false) []))
                                  (R (AV.bool false) []))
                                (R (AV.bool false) []))
                      (R (AV.bool false) [])) :
  Hold (runF PG ty nG G0 an_greatseallaw_NoteSays f_greatseallaw_NoteSays [AV.agg [AV.int Go.IntKind.i64 h0_0, AV.str h0_1, AV.str h0_2], AV.str s1] [] R) := kshow h (by kernel_rfl)

theorem greatseallaw_NoteBack_run (h0_0 : Int) (h0_1 : List UInt8) (h0_2 : List UInt8) (g1_0 : Int) (g1_1 : List UInt8) (g1_2 : List UInt8) (s2 : List UInt8) (G0 : Nat → Option Go.Obj) (R : AV → List (Option Blk) → Prop) (h :
∃ s0 n1,
  Good PG nG G0 f_note_Print [AV.agg [AV.int Go.IntKind.i64 h0_0, AV.str h0_1, AV.str h0_2]] [] (AV.tup [AV.str s0, AV.int Go.IntKind.i64 n1]) [] ∧
    ∃ s2_1 n3,
      Good PG nG G0 f_note_Print [AV.agg [AV.int Go.IntKind.i64 g1_0, AV.str g1_1, AV.str g1_2]] [] (AV.tup [AV.str s2_1, AV.int Go.IntKind.i64 n3]) [] ∧
        ∃ b4,
          Good PG nG G0 f_greatseallaw_noted [] [] (AV.bool b4) [] ∧
            ifK (!b4) (R (AV.bool false) [])
              (ifK (n1 == (0 : Int))
                (ifK (n3 == (0 : Int))
                  (ifK (!(s0 == s2_1) == eqAll [AV.int Go.IntKind.i64 h0_0, AV.str h0_1, AV.str h0_2] [AV.int Go.IntKind.i64 g1_0, AV.str g1_1, AV.str g1_2]) (R (AV.bool false) [])
                    (ifK (n1 == (0 : Int))
                      (∃ n5 s6 s7 n8,
                        Good PG nG G0 f_note_Parse [AV.str s0] [] (AV.tup [AV.agg [AV.int Go.IntKind.i64 n5, AV.str s6, AV.str s7], AV.int Go.IntKind.i64 n8]) [] ∧
                          ifK (n8 != (0 : Int)) (R (AV.bool false) [])
                            (ifK (!eqAll [AV.int Go.IntKind.i64 n5, AV.str s6, AV.str s7] [AV.int Go.IntKind.i64 h0_0, AV.str h0_1, AV.str h0_2]) (R (AV.bool false) [])
                              (∃ n9 s10 s11 n12,
                                Good PG nG G0 f_note_Parse [AV.str s2] [] (AV.tup [AV.agg [AV.int Go.IntKind.i64 n9, AV.str s10, AV.str s11], AV.int Go.IntKind.i64 n12]) [] ∧
                                  ifK (n12 != (0 : Int)) (R (AV.bool true) [])
                                    (∃ s13 n14,
                                      Good PG nG G0 f_note_Print [AV.agg [AV.int Go.IntKind.i64 n9, AV.str s10, AV.str s11]] [] (AV.tup [AV.str s13, AV.int Go.IntKind.i64 n14]) [] ∧
                                        ifK (n14 == (0 : Int)) (R (AV.bool (s13 == s2)) []) (R (AV.bool false) [])))))
                      (∃ n15 s16 s17 n18,
                        Good PG nG G0 f_note_Parse [AV.str s2] [] (AV.tup [AV.agg [AV.int Go.IntKind.i64 n15, AV.str s16, AV.str s17], AV.int Go.IntKind.i64 n18]) [] ∧
                          ifK (n18 != (0 : Int)) (R (AV.bool true) [])
                            (∃ s19 n20,
                              Good PG nG G0 f_note_Print [AV.agg [AV.int Go.IntKind.i64 n15, AV.str s16, AV.str s17]] [] (AV.tup [AV.str s19, AV.int Go.IntKind.i64 n20]) [] ∧
                                ifK (n20 == (0 : Int)) (R (AV.bool (s19 == s2)) []) (R (AV.bool false) [])))))
                  (ifK (n1 == (0 : Int))
                    (∃ n21 s22 s23 n24,
                      Good PG nG G0 f_note_Parse [AV.str s0] [] (AV.tup [AV.agg [AV.int Go.IntKind.i64 n21, AV.str s22, AV.str s23], AV.int Go.IntKind.i64 n24]) [] ∧
                        ifK (n24 != (0 : Int)) (R (AV.bool false) [])
                          (ifK (!eqAll [AV.int Go.IntKind.i64 n21, AV.str s22, AV.str s23] [AV.int Go.IntKind.i64 h0_0, AV.str h0_1, AV.str h0_2]) (R (AV.bool false) [])
                            (∃ n25 s26 s27 n28,
                              Good PG nG G0 f_note_Parse [AV.str s2] [] (AV.tup [AV.agg [AV.int Go.IntKind.i64 n25, AV.str s26, AV.str s27], AV.int Go.IntKind.i64 n28]) [] ∧
                                ifK (n28 != (0 : Int)) (R (AV.bool true) [])
                                  (∃ s29 n30,
                                    Good PG nG G0 f_note_Print [AV.agg [AV.int Go.IntKind.i64 n25, AV.str s26, AV.str s27]] [] (AV.tup [AV.str s29, AV.int Go.IntKind.i64 n30]) [] ∧
                                      ifK (n30 == (0 : Int)) (R (AV.bool (s29 == s2)) []) (R (AV.bool false) [])))))
                    (∃ n31 s32 s33 n34,
                      Good PG nG G0 f_note_Parse [AV.str s2] [] (AV.tup [AV.agg [AV.int Go.IntKind.i64 n31, AV.str s32, AV.str s33], AV.int Go.IntKind.i64 n34]) [] ∧
                        ifK (n34 != (0 : Int)) (R (AV.bool true) [])
                          (∃ s35 n36,
                            Good PG nG G0 f_note_Print [AV.agg [AV.int Go.IntKind.i64 n31, AV.str s32, AV.str s33]] [] (AV.tup [AV.str s35, AV.int Go.IntKind.i64 n36]) [] ∧
                              ifK (n36 == (0 : Int)) (R (AV.bool (s35 == s2)) []) (R (AV.bool false) [])))))
                (ifK (n1 == (0 : Int))
                  (∃ n37 s38 s39 n40,
                    Good PG nG G0 f_note_Parse [AV.str s0] [] (AV.tup [AV.agg [AV.int Go.IntKind.i64 n37, AV.str s38, AV.str s39], AV.int Go.IntKind.i64 n40]) [] ∧
                      ifK (n40 != (0 : Int)) (R (AV.bool false) [])
                        (ifK (!eqAll [AV.int Go.IntKind.i64 n37, AV.str s38, AV.str s39] [AV.int Go.IntKind.i64 h0_0, AV.str h0_1, AV.str h0_2]) (R (AV.bool false) [])
                          (∃ n41 s42 s43 n44,
                            Good PG nG G0 f_note_Parse [AV.str s2] [] (AV.tup [AV.agg [AV.int Go.IntKind.i64 n41, AV.str s42, AV.str s43], AV.int Go.IntKind.i64 n44]) [] ∧
                              ifK (n44 != (0 : Int)) (R (AV.bool true) [])
                                (∃ s45 n46,
                                  Good PG nG G0 f_note_Print [AV.agg [AV.int Go.IntKind.i64 n41, AV.str s42, AV.str s43]] [] (AV.tup [AV.str s45, AV.int Go.IntKind.i64 n46]) [] ∧
                                    ifK (n46 == (0 : Int)) (R (AV.bool (s45 == s2)) []) (R (AV.bool false) [])))))
                  (∃ n47 s48 s49 n50,
                    Good PG nG G0 f_note_Parse [AV.str s2] [] (AV.tup [AV.agg [AV.int Go.IntKind.i64 n47, AV.str s48, AV.str s49], AV.int Go.IntKind.i64 n50]) [] ∧
                      ifK (n50 != (0 : Int)) (R (AV.bool true) [])
                        (∃ s51 n52,
                          Good PG nG G0 f_note_Print [AV.agg [AV.int Go.IntKind.i64 n47, AV.str s48, AV.str s49]] [] (AV.tup [AV.str s51, AV.int Go.IntKind.i64 n52]) [] ∧
                            ifK (n52 == (0 : Int)) (R (AV.bool (s51 == s2)) []) (R (AV.bool false) [])))))) :
  Hold (runF PG ty nG G0 an_greatseallaw_NoteBack f_greatseallaw_NoteBack [AV.agg [AV.int Go.IntKind.i64 h0_0, AV.str h0_1, AV.str h0_2], AV.agg [AV.int Go.IntKind.i64 g1_0, AV.str g1_1, AV.str g1_2], AV.str s2] [] R) := kshow h (by kernel_rfl)

end Go.Ab

namespace Go.Ab
open Go.Proofs Go.Gs
variable {G0 : Nat → Option Obj}

theorem cons_ne {a b : UInt8} (h : a ≠ b) (r s : By) : ((a :: r : By) == (b :: s)) = false := beq_eq_false_iff_ne.2 fun e => by
  injection e with e _
  exact h e

theorem cons_beq (a : UInt8) (r s : By) : ((a :: r : By) == (a :: s)) = (r == s) := by
  by_cases h : r = s
  · rw [h]; simp
  · rw [beq_eq_false_iff_ne.2 h, beq_eq_false_iff_ne.2 fun e => h (by injection e)]

theorem good_SealSays (hG : GlobOk G0) (hE : GlobE G0) (a b : By) (ha : a.length ≤ 140737488351232) (hb : b.length ≤ 140737488351232) : Good PG nG G0 f_greatseallaw_SealSays [.str a, .str b] [] (.bool true) [] := by
  suffices main : ∀ R : AV → List (Option Blk) → Prop, R (.bool true) [] → Hold (runF PG ty nG G0 an_greatseallaw_SealSays f_greatseallaw_SealSays [.str a, .str b] [] R) from
    good_of_run prOk (by kernel_rfl) (main _ ⟨rfl, rfl⟩)
  intro R hR
  refine greatseallaw_SealSays_run a b G0 R ⟨_, _, good_Leaf a, _, _, good_Node hG a b, _, _, good_Open a, _, _, _, good_Split hG hE a ha, _, _, good_LeafOf a, _, _, good_NodeOf hG a b (by omega) (by omega), _, _, _, good_SplitOf hG hE a ha, _, good_sealed hG hE, ?_⟩
  simp only [beq_self_eq_true, Bool.not_true, ifF, bne_self_eq_false]
  cases a with
  | nil =>
    simp only [List.length_nil, Int.natCast_zero, beq_self_eq_true, ifT]
    exact hR
  | cons c r =>
    have hne : (((c :: r : By).length : Int) == 0) = false := by rw [beq_eq_false_iff_ne]; simp only [List.length_cons]; omega
    rw [hne, ifF]
    refine ⟨by decide, c, rfl, ?_⟩
    unfold openS
    simp only [List.head?_cons, Option.some.injEq]
    by_cases hc : c = 76
    · subst hc
      rw [show (((UInt8.toNat 76 : Nat) : Int) != 76) = false from rfl, ifF, if_pos rfl]
      simp only [beq_self_eq_true, ifT]
      refine ⟨by decide, by simp only [List.length_cons]; omega, Int.le_refl _, ?_⟩
      rw [Int.toNat_natCast, List.take_length, beq_self_eq_true]
      exact hR
    · have h76 : (((UInt8.toNat c : Nat) : Int) != 76) = true := by
        rw [bne_iff_ne]
        intro e
        apply hc
        apply UInt8.toNat_inj.1
        show c.toNat = 76
        omega
      rw [h76, ifT, if_neg hc]
      simp only [beq_self_eq_true, ifT]
      exact hR

theorem tLeaf_ok {a : By} (h : (tLeaf a).2 = 0) : (tLeaf a).1 = 76 :: a := by
  unfold tLeaf at h ⊢
  split at h
  · cases h
  · rename_i h1; rw [if_neg h1]

theorem tNode_small {a b : By} (h : (tNode a b).2 = 0) : a.length + b.length ≤ 20000 := by
  unfold tNode at h
  split at h
  · cases h
  · omega

theorem itoa_len5 {n : Nat} (h : n < 100000) : (Lib.itoa (n : Int)).length ≤ 5 ∧ 1 ≤ (Lib.itoa (n : Int)).length := by
  rw [itoa_nat]
  have h1 := decDigits_len4 h
  have h2 := decDigits_ne n
  refine ⟨h1, ?_⟩
  cases hd : Lib.decDigits n with
  | nil => exact absurd hd h2
  | cons => simp

theorem good_HasSuffix (s p : By) (hs : s.length ≤ 140737488455328) : Good PG nG G0 f_strings_HasSuffix [.str s, .str p] [] (.bool (hasSuf s p)) [] := by
  have h1 : Good PG nG G0 f_internal_stringslite_HasSuffix [.str s, .str p] [] (.bool (hasSuf s p)) [] := by
    refine good_of_run prOk (by kernel_rfl) (internal_stringslite_HasSuffix_run s p G0 _ ?_)
    unfold hasSuf
    refine ifK_dec' (fun h => ?_) fun h => ?_
    · have hp : p.length ≤ s.length := by omega
      rw [wrap64 (show -9223372036854775808 ≤ (s.length : Int) - (p.length : Int) by omega) (by omega), Int.toNat_natCast, List.take_length, show ((s.length : Int) - (p.length : Int)).toNat = s.length - p.length by omega]
      refine ⟨by omega, by omega, Int.le_refl _, ?_, rfl⟩
      rw [decide_eq_true hp, Bool.true_and]
    · rw [decide_eq_false (show ¬ p.length ≤ s.length by omega), Bool.false_and]
      exact ⟨rfl, rfl⟩
  exact good_of_run prOk (by kernel_rfl) (strings_HasSuffix_run s p G0 _ ⟨_, h1, rfl, rfl⟩)

theorem good_SealLong (hG : GlobOk G0) (hE : GlobE G0) (a b : By) (ha : a.length ≤ 140737488351232) (hb : b.length ≤ 140737488351232) : Good PG nG G0 f_greatseallaw_SealLong [.str a, .str b] [] (.bool true) [] := by
  suffices main : ∀ R : AV → List (Option Blk) → Prop, R (.bool true) [] → Hold (runF PG ty nG G0 an_greatseallaw_SealLong f_greatseallaw_SealLong [.str a, .str b] [] R) from
    good_of_run prOk (by kernel_rfl) (main _ ⟨rfl, rfl⟩)
  intro R hR
  refine greatseallaw_SealLong_run a b G0 R ⟨_, _, good_Leaf a, _, _, good_Node hG a b, _, good_sealed hG hE, ?_⟩
  rw [Bool.not_true, ifF]
  have last : ifK ((tNode a b).2 != (0 : Int)) (R (.bool true) [])
      (ifK (decide (((tNode a b).1.length : Int) ≤ IntKind.i64.wrap (IntKind.i64.wrap ((a.length : Int) + (b.length : Int)) + 7)))
        (ifK (decide (((tNode a b).1.length : Int) ≥ IntKind.i64.wrap (IntKind.i64.wrap ((a.length : Int) + (b.length : Int)) + 3)))
          (a.length + b.length ≤ 9223372036854775807 ∧ ∃ b5, Good PG nG G0 f_strings_HasSuffix [.str (tNode a b).1, .str (a ++ b)] [] (.bool b5) [] ∧ R (.bool b5) []) (R (.bool false) [])) (R (.bool false) [])) := by
    refine ifK_ne0 (fun _ => hR) fun h => ?_
    have hsm := tNode_small h
    have hi := itoa_len5 (n := a.length) (by omega)
    have hn : (tNode a b).1.length = (Lib.itoa (a.length : Int)).length + 2 + a.length + b.length := by
      rw [tNode_ok h]; simp only [List.length_cons, List.length_append]; omega
    rw [wrap64 (show -9223372036854775808 ≤ (a.length : Int) + (b.length : Int) by omega) (by omega), wrap64 (show -9223372036854775808 ≤ (a.length : Int) + (b.length : Int) + 7 by omega) (by omega), wrap64 (show -9223372036854775808 ≤ (a.length : Int) + (b.length : Int) + 3 by omega) (by omega), decide_eq_true (by omega), ifT, decide_eq_true (by omega), ifT]
    have hsf : hasSuf (tNode a b).1 (a ++ b) = true := by
      unfold hasSuf
      rw [hn, List.length_append, decide_eq_true (by omega), Bool.true_and, tNode_ok h]
      have : (78 :: (Lib.itoa (a.length : Int) ++ 58 :: (a ++ b)) : By) = (78 :: (Lib.itoa (a.length : Int) ++ [58])) ++ (a ++ b) := by simp
      rw [this, List.drop_left' (by simp only [List.length_cons, List.length_append, List.length_nil]; omega), beq_self_eq_true]
    have gs := good_HasSuffix (G0 := G0) (tNode a b).1 (a ++ b) (by omega)
    rw [hsf] at gs
    exact ⟨by omega, _, gs, hR⟩
  refine ifK_bool' (fun h => ?_) fun _ => last
  have h : (tLeaf a).2 = 0 := by simpa using h
  rw [tLeaf_ok h, List.length_cons, wrap64 (show -9223372036854775808 ≤ (a.length : Int) + 1 by omega) (by omega)]
  rw [show ((((a.length + 1 : Nat) : Int) != (a.length : Int) + 1)) = false by simp, ifF]
  exact last

theorem good_TreeHalves (hG : GlobOk G0) (hE : GlobE G0) (l : List By) (nl : Bool) : Good PG nG G0 f_greatseallaw_TreeHalves [.sl 1 nl none (l.map S1)] [] (.bool true) [] := by
  suffices main : ∀ R : AV → List (Option Blk) → Prop, R (.bool true) [] → Hold (runF PG ty nG G0 an_greatseallaw_TreeHalves f_greatseallaw_TreeHalves [.sl 1 nl none (l.map S1)] [] R) from
    good_of_run prOk (by kernel_rfl) (main _ ⟨rfl, rfl⟩)
  intro R hR
  have pl := good_planted (G0 := G0) hG
  have hl : (l.map S1).length = l.length := List.length_map ..
  refine greatseallaw_TreeHalves_run nl _ G0 R ⟨_, _, good_Root' hG l nl, _, pl, ?_⟩
  rw [Bool.not_true, ifF, hl]
  refine ifK_ne0 (fun _ => ⟨_, pl, hR⟩) fun h => ifK_dec' (fun _ => ⟨_, pl, hR⟩) fun h2 => ?_
  obtain ⟨h24, hrt⟩ := rootOf_ok h
  have h2 : 2 ≤ l.length := by omega
  have hk1 := halfN_pos l.length
  have hk2 := halfN_lt h2
  have hsp := halfN_spec l.length
  refine ⟨_, _, good_Half' l.length h2 h24, ?_⟩
  rw [bne_self_eq_false, ifF, decide_eq_false (by omega), ifF, decide_eq_false (by omega), ifF, wrap64 (show -9223372036854775808 ≤ (l.length : Int) - (halfN l.length : Int) by omega) (by omega), decide_eq_false (by omega), ifF]
  have hbit : (IntKind.i64.wrap ((BitVec.toNat (BitVec.ofInt 64 (halfN l.length : Int) &&& BitVec.ofInt 64 (IntKind.i64.wrap ((halfN l.length : Int) - 1))) : Nat) : Int) != 0) = false := by
    rcases hsp with ⟨e, _⟩ | ⟨e, _⟩ | ⟨e, _⟩ | ⟨e, _⟩ | ⟨e, _⟩ <;> rw [e] <;> decide
  rw [hbit, ifF]
  have et : (tRoot l).2 = 0 := by rw [← hrt]; exact h
  have e2 := tRoot_two h2
  rw [e2] at et
  by_cases ha : (tRoot (l.take (halfN l.length))).2 = 0
  case neg => rw [if_pos ha] at et; exact absurd et ha
  by_cases hb : (tRoot (l.drop (halfN l.length))).2 = 0
  case neg => rw [if_neg (by simpa using ha), if_pos hb] at et; exact absurd et hb
  rw [if_neg (by simpa using ha), if_neg (by simpa using hb)] at et e2
  have hsm := tNode_small et
  have ra : rootOf (l.take (halfN l.length)) = tRoot (l.take (halfN l.length)) := by unfold rootOf; rw [if_neg (by simp only [List.length_take]; omega)]
  have rb : rootOf (l.drop (halfN l.length)) = tRoot (l.drop (halfN l.length)) := by unfold rootOf; rw [if_neg (by simp only [List.length_drop]; omega)]
  have g1 := good_Root' (G0 := G0) hG (l.take (halfN l.length)) nl
  have g2 := good_Root' (G0 := G0) hG (l.drop (halfN l.length)) nl
  rw [ra, ha] at g1
  rw [rb, hb] at g2
  have i5 := itoa_len5 (n := (tRoot (l.take (halfN l.length))).1.length) (by omega)
  have gs := good_Split (G0 := G0) hG hE (rootOf l).1 (by rw [hrt, e2, tNode_ok et]; simp only [List.length_cons, List.length_append]; omega)
  have hsplit : splitR (rootOf l).1 = (((tRoot (l.take (halfN l.length))).1, (tRoot (l.drop (halfN l.length))).1), 0) := by
    rw [hrt, e2, tNode_ok et]
    exact splitR_node (by omega)
  rw [hsplit] at gs
  rw [Int.toNat_natCast, Int.toNat_natCast, List.take_of_length_le (show (l.map S1).length ≤ l.length by rw [hl]; exact Nat.le_refl _), List.drop_zero, ← List.map_take, ← List.map_drop]
  refine ⟨by decide, by omega, by omega, _, _, g1, by omega, by omega, Int.le_refl _, _, _, g2, _, _, _, gs, ?_⟩
  simp only [beq_self_eq_true, ifT]
  exact hR

theorem good_NoteSays (hG : GlobOk G0) (hE : GlobE G0) (h : Hd) (s : By) (hs : s.length ≤ 140737488351232) : Good PG nG G0 f_greatseallaw_NoteSays [.agg [.int .i64 h.n, .str h.log, .str h.mp], .str s] [] (.bool true) [] := by
  refine good_of_run prOk (by kernel_rfl) (greatseallaw_NoteSays_run _ _ _ s G0 _ ⟨_, _, good_Print hG h, _, _, _, _, good_Parse hG hE s hs, _, _, good_HeadText hG h, _, _, _, _, good_HeadRead hG hE s hs, _, good_noted hG hE, ?_⟩)
  rw [ifT]
  refine ⟨_, good_noteCheck h, _, good_CheckHead h, ?_⟩
  simp only [beq_self_eq_true, ifT]
  rw [eqAll_hd, decide_eq_true rfl]
  exact ⟨rfl, by trivial⟩

theorem printR_two (h : Hd) : (printR h).2 = checkH h := by
  unfold printR
  split
  · rfl
  · rename_i h1; simpa using (by simpa using h1 : checkH h = 0).symm

theorem printR_len {h : Hd} (hc : checkH h = 0) : (printR h).1.length ≤ 40100 := by
  have hk := checkH_ok' hc
  have l1 := itoa_len20 (n := h.n) (by omega) (by omega)
  have l2 := itoa_len20 (n := (h.log.length : Int)) (by omega) (by omega)
  have l3 := itoa_len20 (n := (h.mp.length : Int)) (by omega) (by omega)
  rw [printR_eq hc]
  simp only [List.length_append, List.length_cons, List.length_nil]; omega

theorem good_NoteBack (hG : GlobOk G0) (hE : GlobE G0) (h g : Hd) (s : By) (hs : s.length ≤ 140737488351232) : Good PG nG G0 f_greatseallaw_NoteBack [.agg [.int .i64 h.n, .str h.log, .str h.mp], .agg [.int .i64 g.n, .str g.log, .str g.mp], .str s] [] (.bool true) [] := by
  suffices main : ∀ R : AV → List (Option Blk) → Prop, R (.bool true) [] → Hold (runF PG ty nG G0 an_greatseallaw_NoteBack f_greatseallaw_NoteBack [.agg [.int .i64 h.n, .str h.log, .str h.mp], .agg [.int .i64 g.n, .str g.log, .str g.mp], .str s] [] R) from
    good_of_run prOk (by kernel_rfl) (main _ ⟨rfl, rfl⟩)
  intro R hR
  have q : ∃ n9 s10 s11 n12, Good PG nG G0 f_note_Parse [.str s] [] (.tup [.agg [.int .i64 n9, .str s10, .str s11], .int .i64 n12]) [] ∧ ifK (n12 != (0 : Int)) (R (.bool true) [])
      (∃ s13 n14, Good PG nG G0 f_note_Print [.agg [.int .i64 n9, .str s10, .str s11]] [] (.tup [.str s13, .int .i64 n14]) [] ∧ ifK (n14 == (0 : Int)) (R (.bool (s13 == s)) []) (R (.bool false) [])) := by
    refine ⟨_, _, _, _, good_Parse hG hE s hs, ifK_ne0 (fun _ => hR) fun h0 => ?_⟩
    have gp := good_Print (G0 := G0) hG (parseR s).1
    rw [(print_parse h0).2] at gp
    refine ⟨_, _, gp, ?_⟩
    simp only [beq_self_eq_true, ifT]
    exact hR
  have p : ifK ((printR h).2 == (0 : Int)) (∃ n5 s6 s7 n8, Good PG nG G0 f_note_Parse [.str (printR h).1] [] (.tup [.agg [.int .i64 n5, .str s6, .str s7], .int .i64 n8]) [] ∧ ifK (n8 != (0 : Int)) (R (.bool false) [])
      (ifK (!eqAll [.int .i64 n5, .str s6, .str s7] [.int .i64 h.n, .str h.log, .str h.mp]) (R (.bool false) []) (∃ n9 s10 s11 n12, Good PG nG G0 f_note_Parse [.str s] [] (.tup [.agg [.int .i64 n9, .str s10, .str s11], .int .i64 n12]) [] ∧ ifK (n12 != (0 : Int)) (R (.bool true) [])
      (∃ s13 n14, Good PG nG G0 f_note_Print [.agg [.int .i64 n9, .str s10, .str s11]] [] (.tup [.str s13, .int .i64 n14]) [] ∧ ifK (n14 == (0 : Int)) (R (.bool (s13 == s)) []) (R (.bool false) [])))))
      (∃ n9 s10 s11 n12, Good PG nG G0 f_note_Parse [.str s] [] (.tup [.agg [.int .i64 n9, .str s10, .str s11], .int .i64 n12]) [] ∧ ifK (n12 != (0 : Int)) (R (.bool true) [])
      (∃ s13 n14, Good PG nG G0 f_note_Print [.agg [.int .i64 n9, .str s10, .str s11]] [] (.tup [.str s13, .int .i64 n14]) [] ∧ ifK (n14 == (0 : Int)) (R (.bool (s13 == s)) []) (R (.bool false) []))) := by
    refine ifK_bool' (fun h0 => ?_) fun _ => q
    have hc : checkH h = 0 := by rw [← printR_two]; simpa using h0
    have gp := good_Parse (G0 := G0) hG hE (printR h).1 (by have := printR_len hc; omega)
    rw [parse_print hc] at gp
    refine ⟨_, _, _, _, gp, ?_⟩
    rw [bne_self_eq_false, ifF, eqAll_hd, decide_eq_true rfl, Bool.not_true, ifF]
    exact q
  refine greatseallaw_NoteBack_run _ _ _ _ _ _ s G0 R ⟨_, _, good_Print hG h, _, _, good_Print hG g, _, good_noted hG hE, ?_⟩
  rw [Bool.not_true, ifF]
  refine ifK_bool' (fun h0 => ifK_bool' (fun g0 => ?_) fun _ => p) fun _ => p
  have hc : checkH h = 0 := by rw [← printR_two]; simpa using h0
  have gc : checkH g = 0 := by rw [← printR_two]; simpa using g0
  have e : ((printR h).1 == (printR g).1) = eqAll [.int .i64 h.n, .str h.log, .str h.mp] [.int .i64 g.n, .str g.log, .str g.mp] := by
    rw [eqAll_hd]
    by_cases hg : h = g
    · rw [decide_eq_true hg, hg]; simp
    · rw [decide_eq_false hg, beq_eq_false_iff_ne]
      exact fun e => hg ((printR_inj hc gc).1 e)
  rw [e, beq_self_eq_true, Bool.not_true, ifF]
  exact p

theorem good_SealOne (hG : GlobOk G0) (hE : GlobE G0) (a b c d : By) (hc : c.length ≤ 140737488351232) : Good PG nG G0 f_greatseallaw_SealOne [.str a, .str b, .str c, .str d] [] (.bool true) [] := by
  suffices main : ∀ R : AV → List (Option Blk) → Prop, R (.bool true) [] → Hold (runF PG ty nG G0 an_greatseallaw_SealOne f_greatseallaw_SealOne [.str a, .str b, .str c, .str d] [] R) from
    good_of_run prOk (by kernel_rfl) (main _ ⟨rfl, rfl⟩)
  intro R hR
  have p3 : ∃ s15 s16 n17, Good PG nG G0 f_seal_Split [.str c] [] (.tup [.str s15, .str s16, .int .i64 n17]) [] ∧ ifK (n17 != (0 : Int)) (R (.bool true) [])
      (∃ s18 n19, Good PG nG G0 f_seal_Node [.str s15, .str s16] [] (.tup [.str s18, .int .i64 n19]) [] ∧ ifK (n19 != (0 : Int)) (R (.bool true) []) (R (.bool (s18 == c)) [])) := by
    refine ⟨_, _, _, good_Split hG hE c hc, ifK_ne0 (fun _ => hR) fun h => ⟨_, _, good_Node hG _ _, ifK_ne0 (fun _ => hR) fun h2 => ?_⟩⟩
    rw [tNode_ok h2, ← splitR_zero h, beq_self_eq_true]
    exact hR
  have p2 : ∃ s8 n9, Good PG nG G0 f_seal_Leaf [.str a] [] (.tup [.str s8, .int .i64 n9]) [] ∧ ifK (n9 == (0 : Int))
      (∃ s10 n11, Good PG nG G0 f_seal_Leaf [.str c] [] (.tup [.str s10, .int .i64 n11]) [] ∧ ∃ s12 n13, Good PG nG G0 f_seal_Open [.str s8] [] (.tup [.str s12, .int .i64 n13]) [] ∧ ifK (n13 != (0 : Int)) (R (.bool false) [])
        (ifK (!s12 == a) (R (.bool false) []) (ifK (n11 == (0 : Int))
          (ifK (!(s8 == s10) == (a == c)) (R (.bool false) []) (ifK ((tNode a b).2 == (0 : Int))
            (ifK (s8 == (tNode a b).1) (R (.bool false) []) (∃ s14, Good PG nG G0 f_seal_None [] [] (.str s14) [] ∧ ifK (s8 == s14) (R (.bool false) [])
              (∃ s15 s16 n17, Good PG nG G0 f_seal_Split [.str c] [] (.tup [.str s15, .str s16, .int .i64 n17]) [] ∧ ifK (n17 != (0 : Int)) (R (.bool true) [])
                (∃ s18 n19, Good PG nG G0 f_seal_Node [.str s15, .str s16] [] (.tup [.str s18, .int .i64 n19]) [] ∧ ifK (n19 != (0 : Int)) (R (.bool true) []) (R (.bool (s18 == c)) [])))))
            (∃ s14, Good PG nG G0 f_seal_None [] [] (.str s14) [] ∧ ifK (s8 == s14) (R (.bool false) [])
              (∃ s15 s16 n17, Good PG nG G0 f_seal_Split [.str c] [] (.tup [.str s15, .str s16, .int .i64 n17]) [] ∧ ifK (n17 != (0 : Int)) (R (.bool true) [])
                (∃ s18 n19, Good PG nG G0 f_seal_Node [.str s15, .str s16] [] (.tup [.str s18, .int .i64 n19]) [] ∧ ifK (n19 != (0 : Int)) (R (.bool true) []) (R (.bool (s18 == c)) []))))))
          (ifK ((tNode a b).2 == (0 : Int))
            (ifK (s8 == (tNode a b).1) (R (.bool false) []) (∃ s14, Good PG nG G0 f_seal_None [] [] (.str s14) [] ∧ ifK (s8 == s14) (R (.bool false) [])
              (∃ s15 s16 n17, Good PG nG G0 f_seal_Split [.str c] [] (.tup [.str s15, .str s16, .int .i64 n17]) [] ∧ ifK (n17 != (0 : Int)) (R (.bool true) [])
                (∃ s18 n19, Good PG nG G0 f_seal_Node [.str s15, .str s16] [] (.tup [.str s18, .int .i64 n19]) [] ∧ ifK (n19 != (0 : Int)) (R (.bool true) []) (R (.bool (s18 == c)) [])))))
            (∃ s14, Good PG nG G0 f_seal_None [] [] (.str s14) [] ∧ ifK (s8 == s14) (R (.bool false) [])
              (∃ s15 s16 n17, Good PG nG G0 f_seal_Split [.str c] [] (.tup [.str s15, .str s16, .int .i64 n17]) [] ∧ ifK (n17 != (0 : Int)) (R (.bool true) [])
                (∃ s18 n19, Good PG nG G0 f_seal_Node [.str s15, .str s16] [] (.tup [.str s18, .int .i64 n19]) [] ∧ ifK (n19 != (0 : Int)) (R (.bool true) []) (R (.bool (s18 == c)) []))))))))
      (∃ s15 s16 n17, Good PG nG G0 f_seal_Split [.str c] [] (.tup [.str s15, .str s16, .int .i64 n17]) [] ∧ ifK (n17 != (0 : Int)) (R (.bool true) [])
        (∃ s18 n19, Good PG nG G0 f_seal_Node [.str s15, .str s16] [] (.tup [.str s18, .int .i64 n19]) [] ∧ ifK (n19 != (0 : Int)) (R (.bool true) []) (R (.bool (s18 == c)) []))) := by
    refine ⟨_, _, good_Leaf a, ifK_bool' (fun h => ?_) fun _ => p3⟩
    have h : (tLeaf a).2 = 0 := by simpa using h
    rw [tLeaf_ok h]
    have go := good_Open (G0 := G0) (76 :: a)
    rw [show openS (76 :: a) = (a, 0) from rfl] at go
    refine ⟨_, _, good_Leaf c, _, _, go, ?_⟩
    rw [bne_self_eq_false, ifF, beq_self_eq_true, Bool.not_true, ifF]
    have e69 : ((76 :: a : By) == [69]) = false := cons_ne (by decide) _ _
    have n1 : ∃ s14, Good PG nG G0 f_seal_None [] [] (.str s14) [] ∧ ifK ((76 :: a : By) == s14) (R (.bool false) [])
              (∃ s15 s16 n17, Good PG nG G0 f_seal_Split [.str c] [] (.tup [.str s15, .str s16, .int .i64 n17]) [] ∧ ifK (n17 != (0 : Int)) (R (.bool true) [])
                (∃ s18 n19, Good PG nG G0 f_seal_Node [.str s15, .str s16] [] (.tup [.str s18, .int .i64 n19]) [] ∧ ifK (n19 != (0 : Int)) (R (.bool true) []) (R (.bool (s18 == c)) []))) :=
      ⟨_, good_None, by rw [e69, ifF]; exact p3⟩
    have n2 : ifK ((tNode a b).2 == (0 : Int))
            (ifK ((76 :: a : By) == (tNode a b).1) (R (.bool false) []) (∃ s14, Good PG nG G0 f_seal_None [] [] (.str s14) [] ∧ ifK ((76 :: a : By) == s14) (R (.bool false) [])
              (∃ s15 s16 n17, Good PG nG G0 f_seal_Split [.str c] [] (.tup [.str s15, .str s16, .int .i64 n17]) [] ∧ ifK (n17 != (0 : Int)) (R (.bool true) [])
                (∃ s18 n19, Good PG nG G0 f_seal_Node [.str s15, .str s16] [] (.tup [.str s18, .int .i64 n19]) [] ∧ ifK (n19 != (0 : Int)) (R (.bool true) []) (R (.bool (s18 == c)) [])))))
            (∃ s14, Good PG nG G0 f_seal_None [] [] (.str s14) [] ∧ ifK ((76 :: a : By) == s14) (R (.bool false) [])
              (∃ s15 s16 n17, Good PG nG G0 f_seal_Split [.str c] [] (.tup [.str s15, .str s16, .int .i64 n17]) [] ∧ ifK (n17 != (0 : Int)) (R (.bool true) [])
                (∃ s18 n19, Good PG nG G0 f_seal_Node [.str s15, .str s16] [] (.tup [.str s18, .int .i64 n19]) [] ∧ ifK (n19 != (0 : Int)) (R (.bool true) []) (R (.bool (s18 == c)) [])))) := by
      refine ifK_bool' (fun h1 => ?_) fun _ => n1
      rw [tNode_ok (by simpa using h1), cons_ne (by decide), ifF]
      exact n1
    refine ifK_bool' (fun h1 => ?_) fun _ => n2
    rw [tLeaf_ok (by simpa using h1), cons_beq, beq_self_eq_true, Bool.not_true, ifF]
    exact n2
  have p1 : ∀ {Y : Prop}, Y → ifK ((tNode a b).2 == (0 : Int)) (∃ s5 s6 n7, Good PG nG G0 f_seal_Split [.str (tNode a b).1] [] (.tup [.str s5, .str s6, .int .i64 n7]) [] ∧ ifK (n7 != (0 : Int)) (R (.bool false) [])
      (ifK (!s5 == a) (R (.bool false) []) (ifK (!s6 == b) (R (.bool false) []) Y))) Y := by
    intro Y hY
    refine ifK_bool' (fun h1 => ?_) fun _ => hY
    have h1 : (tNode a b).2 = 0 := by simpa using h1
    have hsm := tNode_small h1
    have i5 := itoa_len5 (n := a.length) (by omega)
    have gs := good_Split (G0 := G0) hG hE (tNode a b).1 (by rw [tNode_ok h1]; simp only [List.length_cons, List.length_append]; omega)
    have hsp : splitR (tNode a b).1 = ((a, b), 0) := by rw [tNode_ok h1]; exact splitR_node (by omega)
    rw [hsp] at gs
    refine ⟨_, _, _, gs, ?_⟩
    rw [bne_self_eq_false, ifF, beq_self_eq_true, Bool.not_true, ifF, beq_self_eq_true, Bool.not_true, ifF]
    exact hY
  refine greatseallaw_SealOne_run a b c d G0 R ⟨_, _, good_Node hG a b, _, _, good_Node hG c d, _, good_sealed hG hE, ?_⟩
  rw [Bool.not_true, ifF]
  refine ifK_bool' (fun h1 => ifK_bool' (fun h2 => ifK_bool' (fun h3 => ?_) fun h3 => ?_) fun _ => p1 p2) fun _ => p1 p2
  · have e1 := tNode_ok (a := a) (b := b) (by simpa using h1)
    have e2 := tNode_ok (a := c) (b := d) (by simpa using h2)
    have hac : a = c := by simpa using h3
    have e : (((tNode a b).1 == (tNode c d).1) == (b == d)) = true := by
      rw [e1, e2, ← hac, cons_beq]
      by_cases hbd : b = d
      · rw [hbd]; simp
      · have : (Lib.itoa (a.length : Int) ++ 58 :: (a ++ b) == Lib.itoa (a.length : Int) ++ 58 :: (a ++ d)) = false := by
          rw [beq_eq_false_iff_ne]
          intro e
          have := List.append_cancel_left e
          injection this with _ this
          exact hbd (List.append_cancel_left this)
        rw [this, beq_eq_false_iff_ne.2 hbd]; rfl
    rw [e, Bool.not_true, ifF]
    exact p1 p2
  · have hac : a ≠ c := by simpa using h3
    have e : ((tNode a b).1 == (tNode c d).1) = false := by
      rw [beq_eq_false_iff_ne]
      intro e
      have k1 : tNode a b = ((tNode a b).1, 0) := Prod.ext rfl (by simpa using h1)
      have k2 : tNode c d = ((tNode a b).1, 0) := Prod.ext e.symm (by simpa using h2)
      exact hac (tNode_inj k1 k2).1
    rw [e, beq_self_eq_true, Bool.not_true, ifF]
    exact p1 p2
end Go.Ab

namespace Go.Proofs.YtlfhhbcihaginaaDoor
open Go.Ab Go.Gs Go.ChangeShapes Go.WideShapes Go.ChangeAt Go.RowKit

theorem own : ownKnob Tryd.prog.godebug = none := by kernel_rfl
theorem laidOutP : laidOutB Tryd.prog = true := by kernel_rfl

/-- The three tables, as the rows list them. -/
def tabs : List (String × DataW Unit) := Rows.pathOnlyRow.laid

theorem var_heap {W : World} {name : String} {cs : Array Value} {g : Nat} (hg : Tryd.prog.globalNamed name = some g) (h : W.var? Tryd.prog name = some cs) : g < W.heap.size := by
  simp only [World.var?, hg, Option.bind_some] at h
  split at h
  · rename_i hh; exact (Array.getElem?_eq_some_iff.1 hh).1
  · cases h

theorem var_same {W w : World} {name : String} {g : Nat} (hg : Tryd.prog.globalNamed name = some g) (h : w.heap[g]? = W.heap[g]?) : w.var? Tryd.prog name = W.var? Tryd.prog name := by
  simp only [World.var?, hg, Option.bind_some, h]

theorem glob_ofM {W : World} {rest : List (String × DataW Unit)} (h : laidMet Tryd.prog (Rows.pathOnlyRow.laid ++ rest) W) : GlobOk (fun b => W.heap[b]?) ∧ nG ≤ W.heap.size := by
  obtain ⟨ps, ⟨g0, t0, cs0, f0, p0, q0, hg0, ht0, hv0, hd0, ⟨g1, t1, cs1, f1, p1, q1, hg1, ht1, hv1, hd1, ⟨g2, t2, cs2, f2, p2, q2, hg2, ht2, hv2, hd2, _, _⟩, _⟩, _⟩, _⟩ := h
  have hn0 : Tryd.prog.globalNamed "math/bits.deBruijn32tab" = some 6 := by kernel_rfl
  have hn1 : Tryd.prog.globalNamed "math/bits.deBruijn64tab" = some 7 := by kernel_rfl
  have hn2 : Tryd.prog.globalNamed "internal/strconv.uint64pow10" = some 3 := by kernel_rfl
  have l1 := var_heap hn1 hv1
  have hng : nG = 8 := rfl
  refine ⟨fun w hw => ?_, by omega⟩
  have hty : (Tryd.prog.globals[3]?).map (·.type) = some 115 := by kernel_rfl
  obtain rfl := Option.some.inj (hn2.symm.trans hg2)
  obtain rfl := Option.some.inj (hty.symm.trans ht2)
  unfold Lib.TabIs
  rw [var_same hn2 (hw 3 (by decide)), hv2]
  have := Lib.cells_of_tab (k := .u64) (zs := Lib.pow10Tab) (n := 20) Tryd.underlying115 Tryd.underlying95 (by kernel_rfl) (by kernel_rfl) (show DataW.trod (fun _ => ()) Tryd.prog W 0 (fun _ => true) false f2 115 cs2.toList = some (Lib.tabData .u64 Lib.pow10Tab, p2) from hd2)
  rw [← this]

theorem glob_of {W : World} (h : laidMetH Tryd.prog Rows.pathOnlyRow.laid W) : GlobOk (fun b => W.heap[b]?) ∧ nG ≤ W.heap.size := glob_ofM (rest := []) (show laidMet Tryd.prog Rows.pathOnlyRow.laid W from h)

theorem star : "*" ++ "errors.errorString" = "*errors.errorString" := by decide
theorem row_err (u : TypeId) (h : Tryd.prog.typeName? 3 u = some "*errors.errorString") : u = 123 :=
  typeName_ptr_named (nm := "errors.errorString") (by rw [star]; kernel_rfl) (by kernel_rfl) (by decide) u (by rw [star]; exact h)

/-- What the two variables of errors hold. -/
theorem err_of {W : World} {t1 t2 : List UInt8} {r : List (String × DataW Unit)}
    (h : laidMet Tryd.prog (("strconv.ErrRange", .iface "*errors.errorString" (.ptr (.agg [.lit (.string t1)]))) :: ("strconv.ErrSyntax", .iface "*errors.errorString" (.ptr (.agg [.lit (.string t2)]))) :: r) W) : GlobE (fun b => W.heap[b]?) := by
  have gR : Tryd.prog.globalNamed "strconv.ErrRange" = some 2 := by kernel_rfl
  have gS : Tryd.prog.globalNamed "strconv.ErrSyntax" = some 1 := by kernel_rfl
  have tR : (Tryd.prog.globals[2]?).map (·.type) = some 68 := by kernel_rfl
  have tS : (Tryd.prog.globals[1]?).map (·.type) = some 68 := by kernel_rfl
  obtain ⟨a0, s0, hR, _⟩ := laid_sentinel h gR tR Tryd.underlying68 row_err Tryd.underlying123 Tryd.underlying125 rfl rfl Tryd.underlying9 (by kernel_rfl) (by kernel_rfl)
  obtain ⟨a1, s1, hS, _⟩ := laid_sentinel h.tail gS tS Tryd.underlying68 row_err Tryd.underlying123 Tryd.underlying125 rfl rfl Tryd.underlying9 (by kernel_rfl) (by kernel_rfl)
  exact fun w hw => ⟨⟨_, _, (var_same gS (hw 1 (by decide))).trans hS⟩, _, _, (var_same gR (hw 2 (by decide))).trans hR⟩

/-- A world for the witness. -/
noncomputable def wit0 (os : Os) : World := World.doorLaid Tryd.prog 1000 os

end Go.Proofs.YtlfhhbcihaginaaDoor

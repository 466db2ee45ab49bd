/- What a proof of PathTrue leans on (6): Contracts: paths, the document's own answers, whole; the closed fact; What the runs come to; Contracts: the laws of paths; no condition. -/
import Derived.Test.YtfobijiffcfnkaaDoorZPathTrueE
namespace Go.Ab
open Go.Proofs Go.Gs
variable {G0 : Nat → Option Obj}

theorem isEmpty_map {α β : Type} (f : α → β) (l : List α) : (l.map f).isEmpty = l.isEmpty := by cases l <;> rfl
theorem isEmpty_rev {α : Type} (l : List α) : l.reverse.isEmpty = l.isEmpty := by simp

theorem good_PathOf (hG : GlobOk G0) (l : List By) (nl : Bool) (i : Int) :
    Good PG nG G0 f_greatsealref_PathOf [.sl 1 nl none (l.map S1), .int .i64 i] [] (.tup [.sl 2 (pathR l i).1.isEmpty none ((pathR l i).1.map S2), .int .i64 (pathR l i).2]) [] := by
  refine good_of_run prOk (by kernel_rfl) (greatsealref_PathOf_run nl _ i G0 _ ⟨_, _, good_RootOf hG l nl, ?_⟩)
  simp only [ifK_iff, decide_eq_true_eq, decide_eq_false_iff_not, List.length_map, bne_iff_ne, ne_eq, bne_eq_false_iff_eq]
  refine ⟨fun h => ?_, fun h => ⟨fun h2 => ?_, fun h2 => ⟨fun h3 => ?_, fun h3 => ?_⟩⟩⟩
  · rw [pathR, if_pos h]; exact ⟨rfl, trivial⟩
  · rw [pathR, if_neg (by simpa using h), if_pos (.inl h2)]; exact ⟨rfl, trivial⟩
  · rw [pathR, if_neg (by simpa using h), if_pos (.inr h3)]; exact ⟨rfl, trivial⟩
  · obtain ⟨k, rfl⟩ := Int.eq_ofNat_of_zero_le (show 0 ≤ i by omega)
    have hpr : pathR l k = (pathOf l k, 0) := by rw [pathR, if_neg (by simpa using h), if_neg (by omega), Int.toNat_natCast]
    rw [hpr]
    obtain ⟨a, b⟩ := rootOf_ok' h
    have hsp := spans_path l l.length 0 l.length k (by omega) (Nat.zero_le _) (Nat.le_refl _)
    rw [sub_all, Nat.sub_zero] at hsp
    have hlen := spansF_len l.length 0 l.length k (by omega)
    have hin := spansF_in l.length 0 l.length k (by omega)
    have main := pathO_loop (G0 := G0) hG l nl k a (spansF 0 l.length k).reverse (spansF 0 l.length k).isEmpty (by rw [List.length_reverse]; omega) (fun p hp => ⟨(hin p (by simpa using hp)).2.1, (hin p (by simpa using hp)).2.2⟩) (by omega)
      (R := fun r' H'' => r' = .tup [.sl 2 (pathOf l k).isEmpty none ((pathOf l k).map S2), .int .i64 0] ∧ H'' = []) ⟨by rw [hsp, ← isEmpty_map (stepOf l k) (spansF 0 l.length k).reverse, hsp], rfl⟩ (spansF 0 l.length k).reverse.length 0 (by omega) (Nat.zero_le _)
    rcases Nat.lt_or_ge l.length 2 with h4 | h4
    · refine ⟨true, [], fun _ => ⟨good_spans_nil _ _ (by omega), good_Reverse_nil, ?_⟩, fun h => by cases h⟩
      rw [spansF_one (by omega)] at main
      exact main
    · have he : (spansF 0 l.length k).isEmpty = false := by rw [spansF_two (by omega)]; rfl
      refine ⟨false, (spansF 0 l.length k).map P2, fun h => (by cases h), fun _ => ⟨good_spans_arr _ _ (by omega) h4, _, good_Reverse _ (by omega), ?_⟩⟩
      have e : List.take (((spansF 0 l.length k).map P2).length) (List.drop 0 ((spansF 0 l.length k).reverse.map P2)) = (spansF 0 l.length k).reverse.map P2 := by
        rw [List.drop_zero, List.take_of_length_le (by simp)]
      rw [e, List.length_map]
      rw [he] at main
      exact main

theorem pathQ_loop (hG : GlobOk G0) (root : By) (i : Nat) (rs : List (Nat × Nat)) (nr : Bool) (hrs : ∀ p ∈ rs, p.2 ≤ 24 ∧ 2 ≤ p.2 - p.1) (st : List (Bool × By)) (ns : Bool) (hl : rs.length = st.length) (hb : st.length ≤ 1000)
    (hst : ∀ s ∈ st, s.2.length ≤ 4611686018427387903) {R : AV → List (Option Blk) → Prop} :
    ∀ (d k : Nat) (now : By), st.length - k ≤ d → k ≤ st.length → now.length ≤ 4611686018427387903 → R (.int .i64 (fin7 root (climb now ((rs.map (sideOf i)).drop k) (st.drop k)))) [] →
      Does PG nG G0 (fnOf PG f_greatsealref_PathShows) 0 (lp PG f_greatsealref_PathShows 0)
        (mkT 94 [(0, .str root), (2, .int .i64 i), (4, .sl 2 ns none (st.map S2)), (12, .str now), (44, .sl 2 nr none (rs.map P2)), (45, .int .i64 rs.length), (46, .int .i64 k)]) [] R := by
  intro d
  have last : ∀ (k : Nat) (now : By), k = st.length → R (.int .i64 (fin7 root (climb now ((rs.map (sideOf i)).drop k) (st.drop k)))) [] →
      Does PG nG G0 (fnOf PG f_greatsealref_PathShows) 0 (lp PG f_greatsealref_PathShows 0)
        (mkT 94 [(0, .str root), (2, .int .i64 i), (4, .sl 2 ns none (st.map S2)), (12, .str now), (44, .sl 2 nr none (rs.map P2)), (45, .int .i64 rs.length), (46, .int .i64 k)]) [] R := by
    intro k now hk hR
    refine does_of_run prOk (greatsealref_PathShows_l0_run G0 _ _ _ _ _ _ _ _ _ R ?_)
    simp only [ifK_iff, decide_eq_true_eq, decide_eq_false_iff_not, beq_iff_eq, beq_eq_false_iff_ne]
    have hcl : climb now ((rs.map (sideOf i)).drop k) (st.drop k) = (now, 0) := by
      rw [List.drop_eq_nil_of_le (show (rs.map (sideOf i)).length ≤ k by simp; omega)]; rfl
    rw [hcl, fin7_end] at hR
    refine ⟨fun h => absurd h (by omega), fun _ => ⟨fun h => ?_, fun h => ?_⟩⟩
    · simpa [h] using hR
    · simpa [h] using hR
  induction d with
  | zero => intro k now h1 h2 _ hR; exact last k now (by omega) hR
  | succ d ih =>
    intro k now h1 h2 hnow hR
    by_cases hk : k = st.length
    · exact last k now hk hR
    · have hks : k < st.length := by omega
      have hkr : k < rs.length := by omega
      obtain ⟨b1, b2⟩ := hrs rs[k] (List.getElem_mem hkr)
      have hk1 := halfN_pos (rs[k].2 - rs[k].1)
      have hk2 := halfN_lt b2
      have gh := good_HalfOf (G0 := G0) ((rs[k].2 - rs[k].1 : Nat) : Int) (by omega)
      rw [Int.toNat_natCast] at gh
      have w1 : IntKind.i64.wrap ((rs[k].2 : Int) - (rs[k].1 : Int)) = ((rs[k].2 - rs[k].1 : Nat) : Int) := by rw [wrap64 (by omega) (by omega)]; omega
      have w2 : IntKind.i64.wrap ((rs[k].1 : Int) + (halfN (rs[k].2 - rs[k].1) : Nat)) = ((midOf rs[k] : Nat) : Int) := by rw [wrap64 (by omega) (by omega)]; unfold midOf; omega
      have hsb : decide ((i : Int) ≥ ((midOf rs[k] : Nat) : Int)) = sideOf i rs[k] := by unfold sideOf; simp
      have hsl := hst st[k] (List.getElem_mem hks)
      have hbs : (rs.map (sideOf i)).drop k = sideOf i rs[k] :: (rs.map (sideOf i)).drop (k + 1) := by
        rw [List.drop_eq_getElem_cons (by simpa using hkr), List.getElem_map]
      refine does_of_run prOk (greatsealref_PathShows_l0_run G0 _ _ _ _ _ _ _ _ _ R ?_)
      rw [Int.toNat_natCast]
      simp only [ifK_iff, decide_eq_true_eq, decide_eq_false_iff_not, bne_iff_ne, ne_eq, bne_eq_false_iff_eq]
      rw [wrapI (by omega) (by omega)]
      rw [hbs, List.drop_eq_getElem_cons hks, climb] at hR
      have ih := fun now h => ih (k + 1) now (by omega) (by omega) h
      refine ⟨fun _ => ⟨by omega, _, _, getX hkr, by omega, _, _, getX hks, by omega, by omega, by omega, by omega, by omega, by omega, _, by rw [w1]; exact gh, ?_⟩, fun h => absurd (show (k : Int) < rs.length by omega) h⟩
      rw [w2]
      have hsb : decide ((i : Int) ≥ ((midOf rs[k] : Nat) : Int)) = sideOf i rs[k] := hsb
      rw [hsb]
      refine ⟨fun h => ?_, fun h => ⟨by omega, _, _, getX hks, by omega, _, _, getX hks, fun hb => ⟨_, _, good_NodeOf hG _ _ hsl hnow, fun h3 => ?_, fun h3 => ih _ (by have := tNode_len st[k].2 now; omega) ?_⟩, fun hb => ⟨_, _, good_NodeOf hG _ _ hnow hsl, fun h3 => ?_, fun h3 => ih _ (by have := tNode_len now st[k].2; omega) ?_⟩⟩⟩
      · have h : st[k].1 ≠ sideOf i rs[k] := by simpa using h
        rw [if_pos h, fin7_err (by decide)] at hR
        exact hR
      · have h : st[k].1 = sideOf i rs[k] := by simpa using h
        rw [if_neg (show ¬ st[k].1 ≠ sideOf i rs[k] by simpa using h)] at hR
        simp only [up1, hb, if_true] at hR
        rw [if_pos h3, fin7_err h3] at hR
        exact hR
      · have h : st[k].1 = sideOf i rs[k] := by simpa using h
        rw [if_neg (show ¬ st[k].1 ≠ sideOf i rs[k] by simpa using h)] at hR
        simp only [up1, hb, if_true] at hR
        rw [if_neg (show ¬ (tNode st[k].2 now).2 ≠ 0 by simpa using h3)] at hR
        exact hR
      · have h : st[k].1 = sideOf i rs[k] := by simpa using h
        rw [if_neg (show ¬ st[k].1 ≠ sideOf i rs[k] by simpa using h)] at hR
        simp only [up1, hb, Bool.false_eq_true, if_false] at hR
        rw [if_pos h3, fin7_err h3] at hR
        exact hR
      · have h : st[k].1 = sideOf i rs[k] := by simpa using h
        rw [if_neg (show ¬ st[k].1 ≠ sideOf i rs[k] by simpa using h)] at hR
        simp only [up1, hb, Bool.false_eq_true, if_false] at hR
        rw [if_neg (show ¬ (tNode now st[k].2).2 ≠ 0 by simpa using h3)] at hR
        exact hR

theorem good_PathShows (hG : GlobOk G0) (root : By) (n i : Int) (hn : -9223372036854775808 ≤ n ∧ n ≤ 9223372036854775807) (text : By) (ns : Bool) (st : List (Bool × By)) (hst : ∀ s ∈ st, s.2.length ≤ 4611686018427387903) :
    Good PG nG G0 f_greatsealref_PathShows [.str root, .int .i64 n, .int .i64 i, .str text, .sl 2 ns none (st.map S2)] [] (.int .i64 (pathShows root n i text st)) [] := by
  refine good_of_run prOk (by kernel_rfl) (greatsealref_PathShows_run root n i text ns _ G0 _ ⟨_, good_in n 1 24, ?_⟩)
  simp only [ifK_iff, decide_eq_true_eq, decide_eq_false_iff_not, List.length_map, bne_iff_ne, ne_eq, bne_eq_false_iff_eq, Bool.not_eq_true', Bool.not_eq_false']
  refine ⟨fun h => ?_, fun h1 => ⟨_, good_in i 0 _, ?_⟩⟩
  · rw [pathShows, if_pos (by omega)]; exact ⟨rfl, trivial⟩
  · rw [wrap64 (by omega) (by omega)]
    simp only [decide_eq_true_eq, decide_eq_false_iff_not]
    refine ⟨fun h => ?_, fun h2 => ?_⟩
    · rw [pathShows, if_neg (by omega), if_pos (by omega)]; exact ⟨rfl, trivial⟩
    · obtain ⟨a, rfl⟩ := Int.eq_ofNat_of_zero_le (show 0 ≤ n by omega)
      obtain ⟨b, rfl⟩ := Int.eq_ofNat_of_zero_le (show 0 ≤ i by omega)
      have hps : pathShows root a b text st = if (turnsN a b).length ≠ st.length then 7 else if (tLeaf text).2 ≠ 0 then (tLeaf text).2 else fin7 root (climb (tLeaf text).1 (turnsN a b) st) := by
        rw [pathShows, if_neg (by omega), if_neg (by omega), Int.toNat_natCast, Int.toNat_natCast]; rfl
      rw [hps]
      have htn := spans_turns a 0 a b (by omega) (Nat.zero_le _)
      simp only [Nat.sub_zero] at htn
      have hlen := spansF_len a 0 a b (by omega)
      have hin := spansF_in a 0 a b (by omega)
      have htl : (turnsN a b).length = (spansF 0 a b).length := by rw [← htn]; simp
      have main := fun (now : By) hl hb h => pathQ_loop (G0 := G0) hG root b (spansF 0 a b).reverse (spansF 0 a b).isEmpty (fun p hp => by have := hin p (by simpa using hp); omega) st ns hl hb hst
        (R := fun r' H'' => r' = .int .i64 (fin7 root (climb (tLeaf text).1 (turnsN a b) st)) ∧ H'' = []) st.length 0 now (by omega) (by omega) h
      simp only [List.drop_zero, htn, List.length_reverse] at main
      have hll := tLeaf_len text
      rcases Nat.lt_or_ge a 2 with h4 | h4
      · have h0 : (turnsN a b).length = 0 := by rw [turnsN_one (by omega)]; rfl
        rw [spansF_one (by omega)] at main
        refine ⟨true, [], fun _ => ⟨good_spans_nil _ _ (by omega), good_Reverse_nil, fun h => ?_, fun h5 => ⟨_, _, good_LeafOf text, fun h => ?_, fun h6 => ?_⟩⟩, fun h => by cases h⟩
        · rw [if_pos (by omega)]; exact ⟨rfl, trivial⟩
        · rw [if_neg (by omega), if_pos h]; exact ⟨rfl, trivial⟩
        · rw [if_neg (show ¬ (turnsN a b).length ≠ st.length by omega), if_neg (show ¬ (tLeaf text).2 ≠ 0 by simpa using h6)]
          exact main _ (by simp; omega) (by omega) (by omega) ⟨rfl, trivial⟩
      · have he : (spansF 0 a b).isEmpty = false := by rw [spansF_two (by omega)]; rfl
        rw [he] at main
        have e : List.take (((spansF 0 a b).map P2).length) (List.drop 0 ((spansF 0 a b).reverse.map P2)) = (spansF 0 a b).reverse.map P2 := by
          rw [List.drop_zero, List.take_of_length_le (by simp)]
        refine ⟨false, (spansF 0 a b).map P2, fun h => (by cases h), fun _ => ⟨good_spans_arr _ _ (by omega) h4, _, good_Reverse _ (by omega), ?_⟩⟩
        rw [e]
        simp only [List.length_map, List.length_reverse]
        refine ⟨fun h => ?_, fun h5 => ⟨_, _, good_LeafOf text, fun h => ?_, fun h6 => ?_⟩⟩
        · rw [if_pos (by omega)]; exact ⟨rfl, trivial⟩
        · rw [if_neg (by omega), if_pos h]; exact ⟨rfl, trivial⟩
        · rw [if_neg (show ¬ (turnsN a b).length ≠ st.length by omega), if_neg (show ¬ (tLeaf text).2 ≠ 0 by simpa using h6)]
          exact main _ (by omega) (by omega) (by omega) ⟨rfl, trivial⟩

theorem good_pathed (hG : GlobOk G0) : Good PG nG G0 f_greatseallaw_pathed [] [] (.bool true) [] := by
  refine good_of_run prOk (by kernel_rfl) (greatseallaw_pathed_run G0 _ ?_)
  have g1 := good_pathOf hG [[97], [98], [99]] false 1
  have g2 := good_Root' hG [[97], [98], [99]] false
  have g3 := good_pathOf hG [[97], [98], [99]] false 3
  have e1 : pathR [[97], [98], [99]] 1 = ([(true, [76, 97]), (false, [76, 99])], 0) := by decide +kernel
  have e2 : (rootOf [[97], [98], [99]]).2 = 0 := by decide +kernel
  have e3 : (pathR [[97], [98], [99]] 3).2 = 5 := by decide +kernel
  rw [e1] at g1
  rw [e2] at g2
  rw [e3] at g3
  have g4 := good_pathShows hG (rootOf [[97], [98], [99]]).1 3 1 [98] false [(true, [76, 97]), (false, [76, 99])]
  have g5 := good_pathShows hG (rootOf [[97], [98], [99]]).1 3 1 [100] false [(true, [76, 97]), (false, [76, 99])]
  have e4 : pathShows (rootOf [[97], [98], [99]]).1 3 1 [98] [(true, [76, 97]), (false, [76, 99])] = 0 := by decide +kernel
  have e5 : pathShows (rootOf [[97], [98], [99]]).1 3 1 [100] [(true, [76, 97]), (false, [76, 99])] = 7 := by decide +kernel
  rw [e4] at g4
  rw [e5] at g5
  have g6 := good_EqualStep (G0 := G0) [(true, [76, 97]), (false, [76, 99])] [(true, [76, 97]), (false, [76, 99])] false false (by decide)
  refine ⟨_, _, _, g1, _, _, g2, _, _, _, g3, ?_⟩
  refine ⟨_, g6, ?_⟩
  refine ⟨_, g4, _, g5, rfl, rfl⟩
end Go.Ab

namespace Go.Ab
open Go.Proofs
set_option maxRecDepth 100000

def an_greatseallaw_PathSays : FAnn := ⟨[], [], none, []⟩
def an_greatseallaw_PathTrue : FAnn := ⟨[], [], none, []⟩
def an_greatseallaw_PathOther : FAnn := ⟨[], [], none, []⟩

theorem greatseallaw_PathSays_run (nll0 : Bool) (l0 : List (List AV)) (i1 : Int) (root2 : List UInt8) (n3 : Int) (text4 : List UInt8) (nlsteps5 : Bool) (steps5 : List (List AV)) (G0 : Nat → Option Go.Obj) (R : AV → List (Option Blk) → Prop) (h :
  ∃ b0 xs1 n2,
  Good PG nG G0 f_path_Of [AV.sl (1 : Nat) nll0 none l0, AV.int Go.IntKind.i64 i1] [] (AV.tup [AV.sl (2 : Nat) b0 none xs1, AV.int Go.IntKind.i64 n2]) [] ∧
    ∃ b3 xs4 n5,
      Good PG nG G0 f_greatsealref_PathOf [AV.sl (1 : Nat) nll0 none l0, AV.int Go.IntKind.i64 i1] [] (AV.tup [AV.sl (2 : Nat) b3 none xs4, AV.int Go.IntKind.i64 n5]) [] ∧
        ∃ b6,
          Good PG nG G0 f_greatseallaw_pathed [] [] (AV.bool b6) [] ∧
            ifK b6
              (ifK (n2 == n5)
                (∃ b7,
                  Good PG nG G0 f_slices_Equal_Step [AV.sl (2 : Nat) b0 none xs1, AV.sl (2 : Nat) b3 none xs4] [] (AV.bool b7) [] ∧
                    ifK b7
                      (∃ n8,
                        Good PG nG G0 f_path_Shows [AV.str root2, AV.int Go.IntKind.i64 n3, AV.int Go.IntKind.i64 i1, AV.str text4, AV.sl (2 : Nat) nlsteps5 none steps5] [] (AV.int Go.IntKind.i64 n8) [] ∧
                          ∃ n9,
                            Good PG nG G0 f_greatsealref_PathShows [AV.str root2, AV.int Go.IntKind.i64 n3, AV.int Go.IntKind.i64 i1, AV.str text4, AV.sl (2 : Nat) nlsteps5 none steps5] [] (AV.int Go.IntKind.i64 n9) [] ∧ R (AV.bool (n8 == n9)) [])
                      (R (AV.bool false) []))
                (R (AV.bool false) []))
              (R (AV.bool false) [])) :
  Hold (runF PG ty nG G0 an_greatseallaw_PathSays f_greatseallaw_PathSays [AV.sl (1 : Nat) nll0 none l0, AV.int Go.IntKind.i64 i1, AV.str root2, AV.int Go.IntKind.i64 n3, AV.str text4, AV.sl (2 : Nat) nlsteps5 none steps5] [] R) := kshow h (by kernel_rfl)

theorem greatseallaw_PathTrue_run (nll0 : Bool) (l0 : List (List AV)) (i1 : Int) (text2 : List UInt8) (nlsteps3 : Bool) (steps3 : List (List AV)) (G0 : Nat → Option Go.Obj) (R : AV → List (Option Blk) → Prop) (h :
  ∃ s0 n1,
  Good PG nG G0 f_tree_Root [AV.sl (1 : Nat) nll0 none l0] [] (AV.tup [AV.str s0, AV.int Go.IntKind.i64 n1]) [] ∧
    ∃ b2,
      Good PG nG G0 f_greatseallaw_pathed [] [] (AV.bool b2) [] ∧
        ifK (!b2) (∃ b3, Good PG nG G0 f_greatseallaw_pathed [] [] (AV.bool b3) [] ∧ R (AV.bool b3) [])
          (ifK (n1 != (0 : Int)) (∃ b4, Good PG nG G0 f_greatseallaw_pathed [] [] (AV.bool b4) [] ∧ R (AV.bool b4) [])
            (ifK ((↑(List.length l0) : Int) == (0 : Int)) (∃ b5, Good PG nG G0 f_greatseallaw_pathed [] [] (AV.bool b5) [] ∧ R (AV.bool b5) [])
              (∃ n6,
                Good PG nG G0 f_greatseallaw_at [AV.int Go.IntKind.i64 i1, AV.int Go.IntKind.i64 (↑(List.length l0) : Int)] [] (AV.int Go.IntKind.i64 n6) [] ∧
                  ∃ n7,
                    Good PG nG G0 f_path_Shows [AV.str s0, AV.int Go.IntKind.i64 (↑(List.length l0) : Int), AV.int Go.IntKind.i64 n6, AV.str text2, AV.sl (2 : Nat) nlsteps3 none steps3] [] (AV.int Go.IntKind.i64 n7) [] ∧
                      ifK (n7 == (0 : Int))
                        ((0 : Int) ≤ n6 ∧
                          ∃ s8,
                            l0[Int.toNat n6]? = some [AV.str s8] ∧
                              ifK (!text2 == s8) (R (AV.bool false) [])
                                (∃ b9 xs10 n11,
                                  Good PG nG G0 f_path_Of [AV.sl (1 : Nat) nll0 none l0, AV.int Go.IntKind.i64 n6] [] (AV.tup [AV.sl (2 : Nat) b9 none xs10, AV.int Go.IntKind.i64 n11]) [] ∧
                                    ifK (n11 != (0 : Int)) (R (AV.bool false) [])
                                      ((0 : Int) ≤ n6 ∧
                                        ∃ s12,
                                          l0[Int.toNat n6]? = some [AV.str s12] ∧
                                            ∃ n13,
                                              Good PG nG G0 f_path_Shows [AV.str s0, AV.int Go.IntKind.i64 (↑(List.length l0) : Int), AV.int Go.IntKind.i64 n6, AV.str s12, AV.sl (2 : Nat) b9 none xs10] [] (AV.int Go.IntKind.i64 n13)
                                                  [] ∧
                                                ifK (n13 != (0 : Int)) (R (AV.bool false) [])
                                                  (∃ n14,
                                                    Good PG nG G0 f_path_Shows [AV.str s0, AV.int Go.IntKind.i64 (↑(List.length l0) : Int), AV.int Go.IntKind.i64 n6, AV.str text2, AV.sl (2 : Nat) b9 none xs10] []
                                                        (AV.int Go.IntKind.i64 n14) [] ∧
                                                      (0 : Int) ≤ n6 ∧ ∃ s15, l0[Int.toNat n6]? = some [AV.str s15] ∧ R (AV.bool ((n14 == (0 : Int)) == (text2 == s15))) []))))
                        (∃ b16 xs17 n18,
                          Good PG nG G0 f_path_Of [AV.sl (1 : Nat) nll0 none l0, AV.int Go.IntKind.i64 n6] [] (AV.tup [AV.sl (2 : Nat) b16 none xs17, AV.int Go.IntKind.i64 n18]) [] ∧
                            ifK (n18 != (0 : Int)) (R (AV.bool false) [])
                              ((0 : Int) ≤ n6 ∧
                                ∃ s19,
                                  l0[Int.toNat n6]? = some [AV.str s19] ∧
                                    ∃ n20,
                                      Good PG nG G0 f_path_Shows [AV.str s0, AV.int Go.IntKind.i64 (↑(List.length l0) : Int), AV.int Go.IntKind.i64 n6, AV.str s19, AV.sl (2 : Nat) b16 none xs17] [] (AV.int Go.IntKind.i64 n20) [] ∧
                                        ifK (n20 != (0 : Int)) (R (AV.bool false) [])
                                          (∃ n21,
                                            Good PG nG G0 f_path_Shows [AV.str s0, AV.int Go.IntKind.i64 (↑(List.length l0) : Int), AV.int Go.IntKind.i64 n6, AV.str text2, AV.sl (2 : Nat) b16 none xs17] [] (AV.int Go.IntKind.i64 n21)
                                                [] ∧
                                              (0 : Int) ≤ n6 ∧ ∃ s22, l0[Int.toNat n6]? = some [AV.str s22] ∧ R (AV.bool ((n21 == (0 : Int)) == (text2 == s22))) []))))))) :
  Hold (runF PG ty nG G0 an_greatseallaw_PathTrue f_greatseallaw_PathTrue [AV.sl (1 : Nat) nll0 none l0, AV.int Go.IntKind.i64 i1, AV.str text2, AV.sl (2 : Nat) nlsteps3 none steps3] [] R) := kshow h (by kernel_rfl)

theorem greatseallaw_PathOther_run (nll0 : Bool) (l0 : List (List AV)) (i1 : Int) (j2 : Int) (G0 : Nat → Option Go.Obj) (R : AV → List (Option Blk) → Prop) (h :
  ∃ s0 n1,
  Good PG nG G0 f_tree_Root [AV.sl (1 : Nat) nll0 none l0] [] (AV.tup [AV.str s0, AV.int Go.IntKind.i64 n1]) [] ∧
    ∃ b2,
      Good PG nG G0 f_greatseallaw_pathed [] [] (AV.bool b2) [] ∧
        ifK (!b2) (∃ b3, Good PG nG G0 f_greatseallaw_pathed [] [] (AV.bool b3) [] ∧ R (AV.bool b3) [])
          (ifK (n1 != (0 : Int)) (∃ b4, Good PG nG G0 f_greatseallaw_pathed [] [] (AV.bool b4) [] ∧ R (AV.bool b4) [])
            (ifK ((↑(List.length l0) : Int) == (0 : Int)) (∃ b5, Good PG nG G0 f_greatseallaw_pathed [] [] (AV.bool b5) [] ∧ R (AV.bool b5) [])
              (∃ n6,
                Good PG nG G0 f_greatseallaw_at [AV.int Go.IntKind.i64 i1, AV.int Go.IntKind.i64 (↑(List.length l0) : Int)] [] (AV.int Go.IntKind.i64 n6) [] ∧
                  ∃ n7,
                    Good PG nG G0 f_greatseallaw_at [AV.int Go.IntKind.i64 j2, AV.int Go.IntKind.i64 (↑(List.length l0) : Int)] [] (AV.int Go.IntKind.i64 n7) [] ∧
                      ∃ b8 xs9 n10,
                        Good PG nG G0 f_path_Of [AV.sl (1 : Nat) nll0 none l0, AV.int Go.IntKind.i64 n6] [] (AV.tup [AV.sl (2 : Nat) b8 none xs9, AV.int Go.IntKind.i64 n10]) [] ∧
                          ∃ b11 xs12 n13,
                            Good PG nG G0 f_path_Of [AV.sl (1 : Nat) nll0 none l0, AV.int Go.IntKind.i64 n7] [] (AV.tup [AV.sl (2 : Nat) b11 none xs12, AV.int Go.IntKind.i64 n13]) [] ∧
                              ifK (n10 != (0 : Int)) (R (AV.bool false) [])
                                (ifK (n13 != (0 : Int)) (R (AV.bool false) [])
                                  ((0 : Int) ≤ n7 ∧
                                    ∃ s14,
                                      l0[Int.toNat n7]? = some [AV.str s14] ∧
                                        ∃ n15,
                                          Good PG nG G0 f_path_Shows [AV.str s0, AV.int Go.IntKind.i64 (↑(List.length l0) : Int), AV.int Go.IntKind.i64 n7, AV.str s14, AV.sl (2 : Nat) b8 none xs9] [] (AV.int Go.IntKind.i64 n15) [] ∧
                                            ∃ b16, Good PG nG G0 f_slices_Equal_Step [AV.sl (2 : Nat) b8 none xs9, AV.sl (2 : Nat) b11 none xs12] [] (AV.bool b16) [] ∧ R (AV.bool ((n15 == (0 : Int)) == b16)) [])))))) :
  Hold (runF PG ty nG G0 an_greatseallaw_PathOther f_greatseallaw_PathOther [AV.sl (1 : Nat) nll0 none l0, AV.int Go.IntKind.i64 i1, AV.int Go.IntKind.i64 j2] [] R) := kshow h (by kernel_rfl)

end Go.Ab

namespace Go.Ab
open Go.Proofs Go.Gs
variable {G0 : Nat → Option Obj}

theorem good_atN (k : Int) (n : Nat) (hn : 0 < n) (h1 : (n : Int) ≤ 1000000000) (h2 : -9223372036854775808 ≤ k ∧ k ≤ 9223372036854775807) : Good PG nG G0 f_greatseallaw_at [.int .i64 k, .int .i64 n] [] (.int .i64 (atN k n)) [] := by
  have := good_at (G0 := G0) k n hn h1 h2
  rwa [← atN_cast k hn] at this

theorem pathR_ok {l : List By} {i : Nat} (h : (rootOf l).2 = 0) (hi : i < l.length) : pathR l i = (pathOf l i, 0) := by rw [pathR, if_neg (by simpa using h), if_neg (by omega), Int.toNat_natCast]

theorem pathR_len (l : List By) (i : Int) : (pathR l i).1.length ≤ 24 := by
  unfold pathR
  split
  · simp
  · rename_i h
    have h : (rootOf l).2 = 0 := by simpa using h
    split
    · simp
    · have := pathOf_len l i.toNat
      have := (rootOf_ok' h).1
      simp only; omega

theorem good_PathSays (hG : GlobOk G0) (l : List By) (nl : Bool) (i : Int) (root : By) (n : Int) (hn : -9223372036854775808 ≤ n ∧ n ≤ 9223372036854775807) (text : By) (ns : Bool) (st : List (Bool × By)) (hst : ∀ s ∈ st, s.2.length ≤ 4611686018427387903) :
    Good PG nG G0 f_greatseallaw_PathSays [.sl 1 nl none (l.map S1), .int .i64 i, .str root, .int .i64 n, .str text, .sl 2 ns none (st.map S2)] [] (.bool true) [] := by
  refine good_of_run prOk (by kernel_rfl) (greatseallaw_PathSays_run nl _ i root n text ns _ G0 _ ⟨_, _, _, good_pathOf hG l nl i, _, _, _, good_PathOf hG l nl i, _, good_pathed hG, ?_⟩)
  simp only [ifT, beq_self_eq_true]
  have g := good_EqualStep (G0 := G0) (pathR l i).1 (pathR l i).1 (pathR l i).1.isEmpty (pathR l i).1.isEmpty (by have := pathR_len l i; omega)
  rw [decide_eq_true rfl] at g
  exact ⟨_, g, _, good_pathShows hG root n i text ns st, _, good_PathShows hG root n i hn text ns st hst, by simp, trivial⟩

theorem good_PathTrue (hG : GlobOk G0) (l : List By) (nl : Bool) (i : Int) (hi : -9223372036854775808 ≤ i ∧ i ≤ 9223372036854775807) (text : By) (ns : Bool) (st : List (Bool × By)) :
    Good PG nG G0 f_greatseallaw_PathTrue [.sl 1 nl none (l.map S1), .int .i64 i, .str text, .sl 2 ns none (st.map S2)] [] (.bool true) [] := by
  suffices main : ∀ R : AV → List (Option Blk) → Prop, R (.bool true) [] → Hold (runF PG ty nG G0 an_greatseallaw_PathTrue f_greatseallaw_PathTrue [.sl 1 nl none (l.map S1), .int .i64 i, .str text, .sl 2 ns none (st.map S2)] [] R) from
    good_of_run prOk (by kernel_rfl) (main _ ⟨rfl, rfl⟩)
  intro R hR
  refine greatseallaw_PathTrue_run nl _ i text ns _ G0 R ⟨_, _, good_Root' hG l nl, _, good_pathed hG, ?_⟩
  simp only [Bool.not_true, ifF, List.length_map]
  rw [ifK_iff]
  refine ⟨fun _ => ⟨_, good_pathed hG, hR⟩, fun h0 => ?_⟩
  have h0 : (rootOf l).2 = 0 := by simpa using h0
  rw [ifK_iff]
  refine ⟨fun _ => ⟨_, good_pathed hG, hR⟩, fun h1 => ?_⟩
  have h1 : l.length ≠ 0 := by
    intro e
    rw [e] at h1
    simp at h1
  obtain ⟨a, b⟩ := rootOf_ok' h0
  have hr : (tRoot l).2 = 0 := by rw [← b]; exact h0
  have hat := atN_lt i (n := l.length) (by omega)
  refine ⟨_, good_atN i l.length (by omega) (by omega) hi, ?_⟩
  generalize atN i l.length = k at hat
  have gp := good_pathOf (G0 := G0) hG l nl k
  rw [pathR_ok h0 hat] at gp
  rw [b]
  have iff := pathShows_iff a hr hat
  have ge : (l.map S1)[Int.toNat (k : Int)]? = some [.str l[k]] := by rw [Int.toNat_natCast]; exact getX hat
  refine ⟨_, good_pathShows hG _ _ _ text ns st, ?_⟩
  have g2 := good_pathShows (G0 := G0) hG (tRoot l).1 l.length k l[k] (pathOf l k).isEmpty (pathOf l k)
  rw [(iff l[k] (pathOf l k)).2 ⟨rfl, rfl⟩] at g2
  have g3 := good_pathShows (G0 := G0) hG (tRoot l).1 l.length k text (pathOf l k).isEmpty (pathOf l k)
  have e0 : ((0 : Int) != 0) = false := rfl
  have fin : R (.bool ((pathShows (tRoot l).1 l.length k text (pathOf l k) == 0) == (text == l[k]))) [] := by
    have : (pathShows (tRoot l).1 l.length k text (pathOf l k) == 0) = (text == l[k]) := by
      by_cases h : text = l[k]
      · have := (iff text (pathOf l k)).2 ⟨h, rfl⟩
        rw [this, h]; simp
      · have : pathShows (tRoot l).1 l.length k text (pathOf l k) ≠ 0 := fun e => h ((iff text (pathOf l k)).1 e).1
        have x : (text == l[k]) = false := by simpa using h
        have y : (pathShows (tRoot l).1 l.length k text (pathOf l k) == 0) = false := by simpa using this
        rw [x, y]
    rw [this, beq_self_eq_true]; exact hR
  rw [ifK_iff]
  refine ⟨fun h2 => ⟨by omega, _, ge, ?_⟩, fun h2 => ?_⟩
  · have h2 : pathShows (tRoot l).1 l.length k text st = 0 := by simpa using h2
    have h3 := ((iff text st).1 h2).1
    have e3 : (!text == l[k]) = false := by rw [h3]; simp
    rw [e3, ifF]
    refine ⟨_, _, _, gp, ?_⟩
    rw [e0, ifF]
    refine ⟨by omega, _, ge, _, g2, ?_⟩
    rw [e0, ifF]
    exact ⟨_, g3, by omega, _, ge, fin⟩
  · refine ⟨_, _, _, gp, ?_⟩
    rw [e0, ifF]
    refine ⟨by omega, _, ge, _, g2, ?_⟩
    rw [e0, ifF]
    exact ⟨_, g3, by omega, _, ge, fin⟩

theorem good_PathOther (hG : GlobOk G0) (l : List By) (nl : Bool) (i j : Int) (hi : -9223372036854775808 ≤ i ∧ i ≤ 9223372036854775807) (hj : -9223372036854775808 ≤ j ∧ j ≤ 9223372036854775807) :
    Good PG nG G0 f_greatseallaw_PathOther [.sl 1 nl none (l.map S1), .int .i64 i, .int .i64 j] [] (.bool true) [] := by
  suffices main : ∀ R : AV → List (Option Blk) → Prop, R (.bool true) [] → Hold (runF PG ty nG G0 an_greatseallaw_PathOther f_greatseallaw_PathOther [.sl 1 nl none (l.map S1), .int .i64 i, .int .i64 j] [] R) from
    good_of_run prOk (by kernel_rfl) (main _ ⟨rfl, rfl⟩)
  intro R hR
  refine greatseallaw_PathOther_run nl _ i j G0 R ⟨_, _, good_Root' hG l nl, _, good_pathed hG, ?_⟩
  simp only [Bool.not_true, ifF, List.length_map]
  rw [ifK_iff]
  refine ⟨fun _ => ⟨_, good_pathed hG, hR⟩, fun h0 => ?_⟩
  have h0 : (rootOf l).2 = 0 := by simpa using h0
  rw [ifK_iff]
  refine ⟨fun _ => ⟨_, good_pathed hG, hR⟩, fun h1 => ?_⟩
  have h1 : l.length ≠ 0 := by
    intro e
    rw [e] at h1
    simp at h1
  obtain ⟨a, b⟩ := rootOf_ok' h0
  have hr : (tRoot l).2 = 0 := by rw [← b]; exact h0
  have hat := atN_lt i (n := l.length) (by omega)
  have hbt := atN_lt j (n := l.length) (by omega)
  refine ⟨_, good_atN i l.length (by omega) (by omega) hi, _, good_atN j l.length (by omega) (by omega) hj, ?_⟩
  generalize atN i l.length = k at hat
  generalize atN j l.length = m at hbt
  have gp := good_pathOf (G0 := G0) hG l nl k
  rw [pathR_ok h0 hat] at gp
  have gq := good_pathOf (G0 := G0) hG l nl m
  rw [pathR_ok h0 hbt] at gq
  rw [b]
  have iff := pathShows_iff a hr hbt
  have ge : (l.map S1)[Int.toNat (m : Int)]? = some [.str l[m]] := by rw [Int.toNat_natCast]; exact getX hbt
  have e0 : ((0 : Int) != 0) = false := rfl
  refine ⟨_, _, _, gp, _, _, _, gq, ?_⟩
  rw [e0, ifF, ifF]
  refine ⟨by omega, _, ge, _, good_pathShows hG _ _ _ _ _ (pathOf l k), _, good_EqualStep _ _ _ _ (by have := pathOf_len l k; show (((pathOf l k).length : Nat) : Int) ≤ 9223372036854775806; omega), ?_⟩
  have : (pathShows (tRoot l).1 l.length m l[m] (pathOf l k) == 0) = decide (pathOf l k = pathOf l m) := by
    by_cases h : pathOf l k = pathOf l m
    · have := (iff l[m] (pathOf l k)).2 ⟨rfl, h⟩
      rw [this, decide_eq_true h]; rfl
    · have : pathShows (tRoot l).1 l.length m l[m] (pathOf l k) ≠ 0 := fun e => h ((iff l[m] (pathOf l k)).1 e).2
      have y : (pathShows (tRoot l).1 l.length m l[m] (pathOf l k) == 0) = false := by simpa using this
      rw [y, decide_eq_false h]
  rw [this, beq_self_eq_true]
  exact hR
end Go.Ab

/- What a proof of GrowTrue leans on (6): Contracts: paths, the document's own answers, whole; the closed fact; What the runs come to; How a list goes on, by spans, in plain words; Contracts: how a list goes on; Contracts: how a list goes on, the document's own answers; the closed fact; Contracts: whether seals show growth, the document's own answer; the closed fact; What the runs come to; Contracts: the laws of growth; no condition. -/
import Derived.Test.YtfobijiffcfnkaaDoorZGrowTrueE
namespace Go.Ab
open Go.Proofs Go.Gs
variable {G0 : Nat → Option Obj}

theorem isEmpty_map {α β : Type} (f : α → β) (l : List α) : (l.map f).isEmpty = l.isEmpty := by cases l <;> rfl
theorem isEmpty_rev {α : Type} (l : List α) : l.reverse.isEmpty = l.isEmpty := by simp

theorem good_PathOf (hG : GlobOk G0) (l : List By) (nl : Bool) (i : Int) :
    Good PG nG G0 f_greatsealref_PathOf [.sl 1 nl none (l.map S1), .int .i64 i] [] (.tup [.sl 2 (pathR l i).1.isEmpty none ((pathR l i).1.map S2), .int .i64 (pathR l i).2]) [] := by
  refine good_of_run prOk (by kernel_rfl) (greatsealref_PathOf_run nl _ i G0 _ ⟨_, _, good_RootOf hG l nl, ?_⟩)
  simp only [ifK_iff, decide_eq_true_eq, decide_eq_false_iff_not, List.length_map, bne_iff_ne, ne_eq, bne_eq_false_iff_eq]
  refine ⟨fun h => ?_, fun h => ⟨fun h2 => ?_, fun h2 => ⟨fun h3 => ?_, fun h3 => ?_⟩⟩⟩
  · rw [pathR, if_pos h]; exact ⟨rfl, trivial⟩
  · rw [pathR, if_neg (by simpa using h), if_pos (.inl h2)]; exact ⟨rfl, trivial⟩
  · rw [pathR, if_neg (by simpa using h), if_pos (.inr h3)]; exact ⟨rfl, trivial⟩
  · obtain ⟨k, rfl⟩ := Int.eq_ofNat_of_zero_le (show 0 ≤ i by omega)
    have hpr : pathR l k = (pathOf l k, 0) := by rw [pathR, if_neg (by simpa using h), if_neg (by omega), Int.toNat_natCast]
    rw [hpr]
    obtain ⟨a, b⟩ := rootOf_ok' h
    have hsp := spans_path l l.length 0 l.length k (by omega) (Nat.zero_le _) (Nat.le_refl _)
    rw [sub_all, Nat.sub_zero] at hsp
    have hlen := spansF_len l.length 0 l.length k (by omega)
    have hin := spansF_in l.length 0 l.length k (by omega)
    have main := pathO_loop (G0 := G0) hG l nl k a (spansF 0 l.length k).reverse (spansF 0 l.length k).isEmpty (by rw [List.length_reverse]; omega) (fun p hp => ⟨(hin p (by simpa using hp)).2.1, (hin p (by simpa using hp)).2.2⟩) (by omega)
      (R := fun r' H'' => r' = .tup [.sl 2 (pathOf l k).isEmpty none ((pathOf l k).map S2), .int .i64 0] ∧ H'' = []) ⟨by rw [hsp, ← isEmpty_map (stepOf l k) (spansF 0 l.length k).reverse, hsp], rfl⟩ (spansF 0 l.length k).reverse.length 0 (by omega) (Nat.zero_le _)
    rcases Nat.lt_or_ge l.length 2 with h4 | h4
    · refine ⟨true, [], fun _ => ⟨good_spans_nil _ _ (by omega), good_Reverse_nil, ?_⟩, fun h => by cases h⟩
      rw [spansF_one (by omega)] at main
      exact main
    · have he : (spansF 0 l.length k).isEmpty = false := by rw [spansF_two (by omega)]; rfl
      refine ⟨false, (spansF 0 l.length k).map P2, fun h => (by cases h), fun _ => ⟨good_spans_arr _ _ (by omega) h4, _, good_Reverse _ (by omega), ?_⟩⟩
      have e : List.take (((spansF 0 l.length k).map P2).length) (List.drop 0 ((spansF 0 l.length k).reverse.map P2)) = (spansF 0 l.length k).reverse.map P2 := by
        rw [List.drop_zero, List.take_of_length_le (by simp)]
      rw [e, List.length_map]
      rw [he] at main
      exact main

theorem pathQ_loop (hG : GlobOk G0) (root : By) (i : Nat) (rs : List (Nat × Nat)) (nr : Bool) (hrs : ∀ p ∈ rs, p.2 ≤ 24 ∧ 2 ≤ p.2 - p.1) (st : List (Bool × By)) (ns : Bool) (hl : rs.length = st.length) (hb : st.length ≤ 1000)
    (hst : ∀ s ∈ st, s.2.length ≤ 4611686018427387903) {R : AV → List (Option Blk) → Prop} :
    ∀ (d k : Nat) (now : By), st.length - k ≤ d → k ≤ st.length → now.length ≤ 4611686018427387903 → R (.int .i64 (fin7 root (climb now ((rs.map (sideOf i)).drop k) (st.drop k)))) [] →
      Does PG nG G0 (fnOf PG f_greatsealref_PathShows) 0 (lp PG f_greatsealref_PathShows 0)
        (mkT 94 [(0, .str root), (2, .int .i64 i), (4, .sl 2 ns none (st.map S2)), (12, .str now), (44, .sl 2 nr none (rs.map P2)), (45, .int .i64 rs.length), (46, .int .i64 k)]) [] R := by
  intro d
  have last : ∀ (k : Nat) (now : By), k = st.length → R (.int .i64 (fin7 root (climb now ((rs.map (sideOf i)).drop k) (st.drop k)))) [] →
      Does PG nG G0 (fnOf PG f_greatsealref_PathShows) 0 (lp PG f_greatsealref_PathShows 0)
        (mkT 94 [(0, .str root), (2, .int .i64 i), (4, .sl 2 ns none (st.map S2)), (12, .str now), (44, .sl 2 nr none (rs.map P2)), (45, .int .i64 rs.length), (46, .int .i64 k)]) [] R := by
    intro k now hk hR
    refine does_of_run prOk (greatsealref_PathShows_l0_run G0 _ _ _ _ _ _ _ _ _ R ?_)
    simp only [ifK_iff, decide_eq_true_eq, decide_eq_false_iff_not, beq_iff_eq, beq_eq_false_iff_ne]
    have hcl : climb now ((rs.map (sideOf i)).drop k) (st.drop k) = (now, 0) := by
      rw [List.drop_eq_nil_of_le (show (rs.map (sideOf i)).length ≤ k by simp; omega)]; rfl
    rw [hcl, fin7_end] at hR
    refine ⟨fun h => absurd h (by omega), fun _ => ⟨fun h => ?_, fun h => ?_⟩⟩
    · simpa [h] using hR
    · simpa [h] using hR
  induction d with
  | zero => intro k now h1 h2 _ hR; exact last k now (by omega) hR
  | succ d ih =>
    intro k now h1 h2 hnow hR
    by_cases hk : k = st.length
    · exact last k now hk hR
    · have hks : k < st.length := by omega
      have hkr : k < rs.length := by omega
      obtain ⟨b1, b2⟩ := hrs rs[k] (List.getElem_mem hkr)
      have hk1 := halfN_pos (rs[k].2 - rs[k].1)
      have hk2 := halfN_lt b2
      have gh := good_HalfOf (G0 := G0) ((rs[k].2 - rs[k].1 : Nat) : Int) (by omega)
      rw [Int.toNat_natCast] at gh
      have w1 : IntKind.i64.wrap ((rs[k].2 : Int) - (rs[k].1 : Int)) = ((rs[k].2 - rs[k].1 : Nat) : Int) := by rw [wrap64 (by omega) (by omega)]; omega
      have w2 : IntKind.i64.wrap ((rs[k].1 : Int) + (halfN (rs[k].2 - rs[k].1) : Nat)) = ((midOf rs[k] : Nat) : Int) := by rw [wrap64 (by omega) (by omega)]; unfold midOf; omega
      have hsb : decide ((i : Int) ≥ ((midOf rs[k] : Nat) : Int)) = sideOf i rs[k] := by unfold sideOf; simp
      have hsl := hst st[k] (List.getElem_mem hks)
      have hbs : (rs.map (sideOf i)).drop k = sideOf i rs[k] :: (rs.map (sideOf i)).drop (k + 1) := by
        rw [List.drop_eq_getElem_cons (by simpa using hkr), List.getElem_map]
      refine does_of_run prOk (greatsealref_PathShows_l0_run G0 _ _ _ _ _ _ _ _ _ R ?_)
      rw [Int.toNat_natCast]
      simp only [ifK_iff, decide_eq_true_eq, decide_eq_false_iff_not, bne_iff_ne, ne_eq, bne_eq_false_iff_eq]
      rw [wrapI (by omega) (by omega)]
      rw [hbs, List.drop_eq_getElem_cons hks, climb] at hR
      have ih := fun now h => ih (k + 1) now (by omega) (by omega) h
      refine ⟨fun _ => ⟨by omega, _, _, getX hkr, by omega, _, _, getX hks, by omega, by omega, by omega, by omega, by omega, by omega, _, by rw [w1]; exact gh, ?_⟩, fun h => absurd (show (k : Int) < rs.length by omega) h⟩
      rw [w2]
      have hsb : decide ((i : Int) ≥ ((midOf rs[k] : Nat) : Int)) = sideOf i rs[k] := hsb
      rw [hsb]
      refine ⟨fun h => ?_, fun h => ⟨by omega, _, _, getX hks, by omega, _, _, getX hks, fun hb => ⟨_, _, good_NodeOf hG _ _ hsl hnow, fun h3 => ?_, fun h3 => ih _ (by have := tNode_len st[k].2 now; omega) ?_⟩, fun hb => ⟨_, _, good_NodeOf hG _ _ hnow hsl, fun h3 => ?_, fun h3 => ih _ (by have := tNode_len now st[k].2; omega) ?_⟩⟩⟩
      · have h : st[k].1 ≠ sideOf i rs[k] := by simpa using h
        rw [if_pos h, fin7_err (by decide)] at hR
        exact hR
      · have h : st[k].1 = sideOf i rs[k] := by simpa using h
        rw [if_neg (show ¬ st[k].1 ≠ sideOf i rs[k] by simpa using h)] at hR
        simp only [up1, hb, if_true] at hR
        rw [if_pos h3, fin7_err h3] at hR
        exact hR
      · have h : st[k].1 = sideOf i rs[k] := by simpa using h
        rw [if_neg (show ¬ st[k].1 ≠ sideOf i rs[k] by simpa using h)] at hR
        simp only [up1, hb, if_true] at hR
        rw [if_neg (show ¬ (tNode st[k].2 now).2 ≠ 0 by simpa using h3)] at hR
        exact hR
      · have h : st[k].1 = sideOf i rs[k] := by simpa using h
        rw [if_neg (show ¬ st[k].1 ≠ sideOf i rs[k] by simpa using h)] at hR
        simp only [up1, hb, Bool.false_eq_true, if_false] at hR
        rw [if_pos h3, fin7_err h3] at hR
        exact hR
      · have h : st[k].1 = sideOf i rs[k] := by simpa using h
        rw [if_neg (show ¬ st[k].1 ≠ sideOf i rs[k] by simpa using h)] at hR
        simp only [up1, hb, Bool.false_eq_true, if_false] at hR
        rw [if_neg (show ¬ (tNode now st[k].2).2 ≠ 0 by simpa using h3)] at hR
        exact hR

theorem good_PathShows (hG : GlobOk G0) (root : By) (n i : Int) (hn : -9223372036854775808 ≤ n ∧ n ≤ 9223372036854775807) (text : By) (ns : Bool) (st : List (Bool × By)) (hst : ∀ s ∈ st, s.2.length ≤ 4611686018427387903) :
    Good PG nG G0 f_greatsealref_PathShows [.str root, .int .i64 n, .int .i64 i, .str text, .sl 2 ns none (st.map S2)] [] (.int .i64 (pathShows root n i text st)) [] := by
  refine good_of_run prOk (by kernel_rfl) (greatsealref_PathShows_run root n i text ns _ G0 _ ⟨_, good_in n 1 24, ?_⟩)
  simp only [ifK_iff, decide_eq_true_eq, decide_eq_false_iff_not, List.length_map, bne_iff_ne, ne_eq, bne_eq_false_iff_eq, Bool.not_eq_true', Bool.not_eq_false']
  refine ⟨fun h => ?_, fun h1 => ⟨_, good_in i 0 _, ?_⟩⟩
  · rw [pathShows, if_pos (by omega)]; exact ⟨rfl, trivial⟩
  · rw [wrap64 (by omega) (by omega)]
    simp only [decide_eq_true_eq, decide_eq_false_iff_not]
    refine ⟨fun h => ?_, fun h2 => ?_⟩
    · rw [pathShows, if_neg (by omega), if_pos (by omega)]; exact ⟨rfl, trivial⟩
    · obtain ⟨a, rfl⟩ := Int.eq_ofNat_of_zero_le (show 0 ≤ n by omega)
      obtain ⟨b, rfl⟩ := Int.eq_ofNat_of_zero_le (show 0 ≤ i by omega)
      have hps : pathShows root a b text st = if (turnsN a b).length ≠ st.length then 7 else if (tLeaf text).2 ≠ 0 then (tLeaf text).2 else fin7 root (climb (tLeaf text).1 (turnsN a b) st) := by
        rw [pathShows, if_neg (by omega), if_neg (by omega), Int.toNat_natCast, Int.toNat_natCast]; rfl
      rw [hps]
      have htn := spans_turns a 0 a b (by omega) (Nat.zero_le _)
      simp only [Nat.sub_zero] at htn
      have hlen := spansF_len a 0 a b (by omega)
      have hin := spansF_in a 0 a b (by omega)
      have htl : (turnsN a b).length = (spansF 0 a b).length := by rw [← htn]; simp
      have main := fun (now : By) hl hb h => pathQ_loop (G0 := G0) hG root b (spansF 0 a b).reverse (spansF 0 a b).isEmpty (fun p hp => by have := hin p (by simpa using hp); omega) st ns hl hb hst
        (R := fun r' H'' => r' = .int .i64 (fin7 root (climb (tLeaf text).1 (turnsN a b) st)) ∧ H'' = []) st.length 0 now (by omega) (by omega) h
      simp only [List.drop_zero, htn, List.length_reverse] at main
      have hll := tLeaf_len text
      rcases Nat.lt_or_ge a 2 with h4 | h4
      · have h0 : (turnsN a b).length = 0 := by rw [turnsN_one (by omega)]; rfl
        rw [spansF_one (by omega)] at main
        refine ⟨true, [], fun _ => ⟨good_spans_nil _ _ (by omega), good_Reverse_nil, fun h => ?_, fun h5 => ⟨_, _, good_LeafOf text, fun h => ?_, fun h6 => ?_⟩⟩, fun h => by cases h⟩
        · rw [if_pos (by omega)]; exact ⟨rfl, trivial⟩
        · rw [if_neg (by omega), if_pos h]; exact ⟨rfl, trivial⟩
        · rw [if_neg (show ¬ (turnsN a b).length ≠ st.length by omega), if_neg (show ¬ (tLeaf text).2 ≠ 0 by simpa using h6)]
          exact main _ (by simp; omega) (by omega) (by omega) ⟨rfl, trivial⟩
      · have he : (spansF 0 a b).isEmpty = false := by rw [spansF_two (by omega)]; rfl
        rw [he] at main
        have e : List.take (((spansF 0 a b).map P2).length) (List.drop 0 ((spansF 0 a b).reverse.map P2)) = (spansF 0 a b).reverse.map P2 := by
          rw [List.drop_zero, List.take_of_length_le (by simp)]
        refine ⟨false, (spansF 0 a b).map P2, fun h => (by cases h), fun _ => ⟨good_spans_arr _ _ (by omega) h4, _, good_Reverse _ (by omega), ?_⟩⟩
        rw [e]
        simp only [List.length_map, List.length_reverse]
        refine ⟨fun h => ?_, fun h5 => ⟨_, _, good_LeafOf text, fun h => ?_, fun h6 => ?_⟩⟩
        · rw [if_pos (by omega)]; exact ⟨rfl, trivial⟩
        · rw [if_neg (by omega), if_pos h]; exact ⟨rfl, trivial⟩
        · rw [if_neg (show ¬ (turnsN a b).length ≠ st.length by omega), if_neg (show ¬ (tLeaf text).2 ≠ 0 by simpa using h6)]
          exact main _ (by omega) (by omega) (by omega) ⟨rfl, trivial⟩

theorem good_pathed (hG : GlobOk G0) : Good PG nG G0 f_greatseallaw_pathed [] [] (.bool true) [] := by
  refine good_of_run prOk (by kernel_rfl) (greatseallaw_pathed_run G0 _ ?_)
  have g1 := good_pathOf hG [[97], [98], [99]] false 1
  have g2 := good_Root' hG [[97], [98], [99]] false
  have g3 := good_pathOf hG [[97], [98], [99]] false 3
  have e1 : pathR [[97], [98], [99]] 1 = ([(true, [76, 97]), (false, [76, 99])], 0) := by decide +kernel
  have e2 : (rootOf [[97], [98], [99]]).2 = 0 := by decide +kernel
  have e3 : (pathR [[97], [98], [99]] 3).2 = 5 := by decide +kernel
  rw [e1] at g1
  rw [e2] at g2
  rw [e3] at g3
  have g4 := good_pathShows hG (rootOf [[97], [98], [99]]).1 3 1 [98] false [(true, [76, 97]), (false, [76, 99])]
  have g5 := good_pathShows hG (rootOf [[97], [98], [99]]).1 3 1 [100] false [(true, [76, 97]), (false, [76, 99])]
  have e4 : pathShows (rootOf [[97], [98], [99]]).1 3 1 [98] [(true, [76, 97]), (false, [76, 99])] = 0 := by decide +kernel
  have e5 : pathShows (rootOf [[97], [98], [99]]).1 3 1 [100] [(true, [76, 97]), (false, [76, 99])] = 7 := by decide +kernel
  rw [e4] at g4
  rw [e5] at g5
  have g6 := good_EqualStep (G0 := G0) [(true, [76, 97]), (false, [76, 99])] [(true, [76, 97]), (false, [76, 99])] false false (by decide)
  refine ⟨_, _, _, g1, _, _, g2, _, _, _, g3, ?_⟩
  refine ⟨_, g6, ?_⟩
  refine ⟨_, g4, _, g5, rfl, rfl⟩
end Go.Ab

namespace Go.Ab
open Go.Proofs
set_option maxRecDepth 100000

def an_greatseal_grow_shower_last : FAnn := ⟨[], [], none, []⟩
def an_greatseal_grow_shower_node : FAnn := ⟨[], [], none, []⟩
def an_greatseal_grow_shower_both : FAnn := ⟨[(4, 1, ⟨[0], [], []⟩), (7, 1, ⟨[0], [], []⟩), (9, 5, ⟨[0], [], []⟩), (10, 4, ⟨[0], [], []⟩), (11, 8, ⟨[0], [], []⟩), (12, 3, ⟨[0], [], []⟩), (12, 7, ⟨[0], [], []⟩)], [], none, []⟩
def an_grow_Shows : FAnn := ⟨[(4, 4, ⟨[0], [], []⟩)], [], none, []⟩
def an_grow_of : FAnn := ⟨[(10, 3, ⟨[], [0], []⟩)], [], some [6], []⟩
def an_grow_Of : FAnn := ⟨[(6, 2, ⟨[], [0], []⟩)], [], none, []⟩
def an_greatsealref_parts : FAnn := ⟨[], [(0, [0, 4, 5, 6, 7, 8], [4])], some [4], []⟩
def an_greatsealref_GrowthOf : FAnn := ⟨[(6, 3, ⟨[], [], [0]⟩), (11, 1, ⟨[0], [], []⟩)], [(0, [0, 11, 57, 58, 59], [11])], none, [(12, [0])]⟩
def an_greatsealref_GrowthShows : FAnn := ⟨[(3, 2, ⟨[], [], [0]⟩), (13, 1, ⟨[0], [], []⟩)], [(0, [0, 2, 4, 12, 15, 16, 59, 60, 61], [])], none, [(14, [0])]⟩
def an_greatseallaw_grown : FAnn := ⟨[], [], none, []⟩

theorem greatseal_grow_shower_last_run (nl : Bool) (l : List (List AV)) (bad : Bool) (G0 : Nat → Option Go.Obj) (R : AV → List (Option Blk) → Prop) (h :
  ifK ((↑(List.length l) : Int) == (0 : Int)) (R (AV.str []) [some (Blk.var [AV.sl (1 : Nat) nl none l, AV.bool true])])
  ((0 : Int) ≤ Go.IntKind.wrap Go.IntKind.i64 ((↑(List.length l) : Int) - (1 : Int)) ∧
    ∃ s0,
      l[Int.toNat (Go.IntKind.wrap Go.IntKind.i64 ((↑(List.length l) : Int) - (1 : Int)))]? = some [AV.str s0] ∧
        (0 : Int) ≤ (0 : Int) ∧
          (0 : Int) ≤ Go.IntKind.wrap Go.IntKind.i64 ((↑(List.length l) : Int) - (1 : Int)) ∧
            Go.IntKind.wrap Go.IntKind.i64 ((↑(List.length l) : Int) - (1 : Int)) ≤ (↑(List.length l) : Int) ∧
              R (AV.str s0) [some (Blk.var [AV.sl (1 : Nat) nl none (List.drop (0 : Nat) (List.take (Int.toNat (Go.IntKind.wrap Go.IntKind.i64 ((↑(List.length l) : Int) - (1 : Int)))) l)), AV.bool bad])])) :
  Hold (runF PG ty nG G0 an_greatseal_grow_shower_last f_greatseal_grow_shower_last [AV.ref (0 : Nat) (0 : Nat)] [some (Blk.var [AV.sl (1 : Nat) nl none l, AV.bool bad])] R) := kshow h (by kernel_rfl)

theorem greatseal_grow_shower_node_run (nl : Bool) (l : List (List AV)) (bad : Bool) (a : List UInt8) (b : List UInt8) (G0 : Nat → Option Go.Obj) (R : AV → List (Option Blk) → Prop) (h :
  ∃ s0 n1,
  Good PG nG G0 f_seal_Node [AV.str a, AV.str b] [] (AV.tup [AV.str s0, AV.int Go.IntKind.i64 n1]) [] ∧
    ifK bad (R (AV.str s0) [some (Blk.var [AV.sl (1 : Nat) nl none l, AV.bool true])]) (R (AV.str s0) [some (Blk.var [AV.sl (1 : Nat) nl none l, AV.bool (n1 != (0 : Int))])])) :
  Hold (runF PG ty nG G0 an_greatseal_grow_shower_node f_greatseal_grow_shower_node [AV.ref (0 : Nat) (0 : Nat), AV.str a, AV.str b] [some (Blk.var [AV.sl (1 : Nat) nl none l, AV.bool bad])] R) := kshow h (by kernel_rfl)

theorem greatseal_grow_shower_both_run (nl : Bool) (l : List (List AV)) (bad : Bool) (m : Int) (n : Int) (old : List UInt8) (known : Bool) (G0 : Nat → Option Go.Obj) (R : AV → List (Option Blk) → Prop) (h :
  ifK (m == n)
  (ifK known (R (AV.tup [AV.str old, AV.str old]) [some (Blk.var [AV.sl (1 : Nat) nl none l, AV.bool bad])])
    (∃ s0 b1 xs2 b3,
      Good PG nG G0 f_greatseal_grow_shower_last [AV.ref (0 : Nat) (0 : Nat)] [some (Blk.var [AV.sl (1 : Nat) nl none l, AV.bool bad])] (AV.str s0) [some (Blk.var [AV.sl (1 : Nat) b1 none xs2, AV.bool b3])] ∧
        R (AV.tup [AV.str s0, AV.str s0]) [some (Blk.var [AV.sl (1 : Nat) b1 none xs2, AV.bool b3])]))
  (∃ n4 n5,
    Good PG nG G0 f_tree_Half [AV.int Go.IntKind.i64 n] [] (AV.tup [AV.int Go.IntKind.i64 n4, AV.int Go.IntKind.i64 n5]) [] ∧
      ∃ s6 b7 xs8 b9,
        Good PG nG G0 f_greatseal_grow_shower_last [AV.ref (0 : Nat) (0 : Nat)] [some (Blk.var [AV.sl (1 : Nat) nl none l, AV.bool bad])] (AV.str s6) [some (Blk.var [AV.sl (1 : Nat) b7 none xs8, AV.bool b9])] ∧
          ifK (decide (m ≤ n4))
            (∃ s10 s11 b12 xs13 b14,
              Good PG nG G0 f_greatseal_grow_shower_both [AV.ref (0 : Nat) (0 : Nat), AV.int Go.IntKind.i64 m, AV.int Go.IntKind.i64 n4, AV.str old, AV.bool known] [some (Blk.var [AV.sl (1 : Nat) b7 none xs8, AV.bool b9])]
                  (AV.tup [AV.str s10, AV.str s11]) [some (Blk.var [AV.sl (1 : Nat) b12 none xs13, AV.bool b14])] ∧
                ∃ s15 b16 xs17 b18,
                  Good PG nG G0 f_greatseal_grow_shower_node [AV.ref (0 : Nat) (0 : Nat), AV.str s11, AV.str s6] [some (Blk.var [AV.sl (1 : Nat) b12 none xs13, AV.bool b14])] (AV.str s15) [some (Blk.var [AV.sl (1 : Nat) b16 none xs17, AV.bool b18])] ∧
                    R (AV.tup [AV.str s10, AV.str s15]) [some (Blk.var [AV.sl (1 : Nat) b16 none xs17, AV.bool b18])])
            (∃ s19 s20 b21 xs22 b23,
              Good PG nG G0 f_greatseal_grow_shower_both [AV.ref (0 : Nat) (0 : Nat), AV.int Go.IntKind.i64 (Go.IntKind.wrap Go.IntKind.i64 (m - n4)), AV.int Go.IntKind.i64 (Go.IntKind.wrap Go.IntKind.i64 (n - n4)), AV.str old, AV.bool false]
                  [some (Blk.var [AV.sl (1 : Nat) b7 none xs8, AV.bool b9])] (AV.tup [AV.str s19, AV.str s20]) [some (Blk.var [AV.sl (1 : Nat) b21 none xs22, AV.bool b23])] ∧
                ∃ s24 b25 xs26 b27,
                  Good PG nG G0 f_greatseal_grow_shower_node [AV.ref (0 : Nat) (0 : Nat), AV.str s6, AV.str s19] [some (Blk.var [AV.sl (1 : Nat) b21 none xs22, AV.bool b23])] (AV.str s24) [some (Blk.var [AV.sl (1 : Nat) b25 none xs26, AV.bool b27])] ∧
                    ∃ s28 b29 xs30 b31,
                      Good PG nG G0 f_greatseal_grow_shower_node [AV.ref (0 : Nat) (0 : Nat), AV.str s6, AV.str s20] [some (Blk.var [AV.sl (1 : Nat) b25 none xs26, AV.bool b27])] (AV.str s28)
                          [some (Blk.var [AV.sl (1 : Nat) b29 none xs30, AV.bool b31])] ∧
                        R (AV.tup [AV.str s24, AV.str s28]) [some (Blk.var [AV.sl (1 : Nat) b29 none xs30, AV.bool b31])]))) :
  Hold (runF PG ty nG G0 an_greatseal_grow_shower_both f_greatseal_grow_shower_both [AV.ref (0 : Nat) (0 : Nat), AV.int Go.IntKind.i64 m, AV.int Go.IntKind.i64 n, AV.str old, AV.bool known] [some (Blk.var [AV.sl (1 : Nat) nl none l, AV.bool bad])] R) := kshow h (by kernel_rfl)

theorem grow_Shows_run (old0 : List UInt8) (m1 : Int) (root2 : List UInt8) (n3 : Int) (nll4 : Bool) (l4 : List (List AV)) (G0 : Nat → Option Go.Obj) (R : AV → List (Option Blk) → Prop) (h :
  ifK (decide (m1 < (1 : Int))) (R (AV.int Go.IntKind.i64 (3 : Int)) [])
  (ifK (decide (n3 < m1)) (R (AV.int Go.IntKind.i64 (3 : Int)) [])
    (ifK (decide (n3 > (24 : Int))) (R (AV.int Go.IntKind.i64 (3 : Int)) [])
      (∃ s0 s1 b2 xs3 b4,
        Good PG nG G0 f_greatseal_grow_shower_both [AV.ref (0 : Nat) (0 : Nat), AV.int Go.IntKind.i64 m1, AV.int Go.IntKind.i64 n3, AV.str old0, AV.bool true] [some (Blk.var [AV.sl (1 : Nat) nll4 none l4, AV.bool false])]
            (AV.tup [AV.str s0, AV.str s1]) [some (Blk.var [AV.sl (1 : Nat) b2 none xs3, AV.bool b4])] ∧
          ifK b4 (R (AV.int Go.IntKind.i64 (7 : Int)) [])
            (ifK (decide ((↑(List.length xs3) : Int) > (0 : Int))) (R (AV.int Go.IntKind.i64 (7 : Int)) [])
              (ifK (!s0 == old0) (R (AV.int Go.IntKind.i64 (7 : Int)) []) (ifK (!s1 == root2) (R (AV.int Go.IntKind.i64 (7 : Int)) []) (R (AV.int Go.IntKind.i64 (0 : Int)) [])))))))) :
  Hold (runF PG ty nG G0 an_grow_Shows f_grow_Shows [AV.str old0, AV.int Go.IntKind.i64 m1, AV.str root2, AV.int Go.IntKind.i64 n3, AV.sl (1 : Nat) nll4 none l4] [] R) := kshow h (by kernel_rfl)

theorem grow_of_run (nll0 : Bool) (l0 : List (List AV)) (m1 : Int) (known2 : Bool) (G0 : Nat → Option Go.Obj) (R : AV → List (Option Blk) → Prop) (h :
  ifK (m1 == (↑(List.length l0) : Int))
  (ifK known2 (R (AV.tup [AV.sl (1 : Nat) true (some (0 : Nat)) [], AV.int Go.IntKind.i64 (0 : Int)]) [some (Blk.grow (1 : Nat) (0 : Nat))])
    (∃ s0 n1,
      Good PG nG G0 f_tree_Root [AV.sl (1 : Nat) nll0 none l0] [] (AV.tup [AV.str s0, AV.int Go.IntKind.i64 n1]) [] ∧
        R (AV.tup [AV.sl (1 : Nat) false (some (0 : Nat)) [[AV.str s0]], AV.int Go.IntKind.i64 n1]) [some (Blk.grow (1 : Nat) (1 : Nat))]))
  (∃ n2 n3,
    Good PG nG G0 f_tree_Half [AV.int Go.IntKind.i64 (↑(List.length l0) : Int)] [] (AV.tup [AV.int Go.IntKind.i64 n2, AV.int Go.IntKind.i64 n3]) [] ∧
      (0 : Int) ≤ (0 : Int) ∧
        (0 : Int) ≤ n2 ∧
          n2 ≤ (↑(List.length l0) : Int) ∧
            (0 : Int) ≤ n2 ∧
              n2 ≤ (↑(List.length l0) : Int) ∧
                (↑(List.length l0) : Int) ≤ (↑(List.length l0) : Int) ∧
                  ifK (decide (m1 > n2))
                    (∃ b4 xs5 n6,
                      Good PG nG G0 f_grow_of
                          [AV.sl (1 : Nat) nll0 none (List.drop (Int.toNat n2) (List.take (Int.toNat (↑(List.length l0) : Int)) l0)), AV.int Go.IntKind.i64 (Go.IntKind.wrap Go.IntKind.i64 (m1 - n2)), AV.bool false] []
                          (AV.tup [AV.sl (1 : Nat) b4 (some (0 : Nat)) xs5, AV.int Go.IntKind.i64 n6]) [some (Blk.grow (1 : Nat) (List.length xs5))] ∧
                        ifK (n6 != (0 : Int)) (R (AV.tup [AV.sl (1 : Nat) true (some (0 : Nat)) [], AV.int Go.IntKind.i64 n6]) [some (Blk.grow (1 : Nat) (0 : Nat))])
                          (∃ s7 n8,
                            Good PG nG G0 f_tree_Root [AV.sl (1 : Nat) nll0 none (List.drop (0 : Nat) (List.take (Int.toNat n2) l0))] [] (AV.tup [AV.str s7, AV.int Go.IntKind.i64 n8]) [] ∧
                              ifK (n8 != (0 : Int)) (R (AV.tup [AV.sl (1 : Nat) true (some (0 : Nat)) [], AV.int Go.IntKind.i64 n8]) [some (Blk.grow (1 : Nat) (0 : Nat))])
                                ((List.length xs5 + List.length [[AV.str s7]]) * (16 : Nat) ≤ (140737488355328 : Nat) ∧
                                  List.length xs5 = List.length xs5 ∧
                                    R (AV.tup [AV.sl (1 : Nat) (b4 && List.isEmpty [[AV.str s7]]) (some (0 : Nat)) (xs5 ++ [[AV.str s7]]), AV.int Go.IntKind.i64 (0 : Int)])
                                      [some (Blk.grow (1 : Nat) (List.length xs5 + List.length [[AV.str s7]]))])))
                    (∃ b9 xs10 n11,
                      Good PG nG G0 f_grow_of [AV.sl (1 : Nat) nll0 none (List.drop (0 : Nat) (List.take (Int.toNat n2) l0)), AV.int Go.IntKind.i64 m1, AV.bool known2] []
                          (AV.tup [AV.sl (1 : Nat) b9 (some (0 : Nat)) xs10, AV.int Go.IntKind.i64 n11]) [some (Blk.grow (1 : Nat) (List.length xs10))] ∧
                        ifK (n11 != (0 : Int)) (R (AV.tup [AV.sl (1 : Nat) true (some (0 : Nat)) [], AV.int Go.IntKind.i64 n11]) [some (Blk.grow (1 : Nat) (0 : Nat))])
                          (∃ s12 n13,
                            Good PG nG G0 f_tree_Root [AV.sl (1 : Nat) nll0 none (List.drop (Int.toNat n2) (List.take (Int.toNat (↑(List.length l0) : Int)) l0))] [] (AV.tup [AV.str s12, AV.int Go.IntKind.i64 n13]) [] ∧
                              ifK (n13 != (0 : Int)) (R (AV.tup [AV.sl (1 : Nat) true (some (0 : Nat)) [], AV.int Go.IntKind.i64 n13]) [some (Blk.grow (1 : Nat) (0 : Nat))])
                                ((List.length xs10 + List.length [[AV.str s12]]) * (16 : Nat) ≤ (140737488355328 : Nat) ∧
                                  List.length xs10 = List.length xs10 ∧
                                    R (AV.tup [AV.sl (1 : Nat) (b9 && List.isEmpty [[AV.str s12]]) (some (0 : Nat)) (xs10 ++ [[AV.str s12]]), AV.int Go.IntKind.i64 (0 : Int)])
                                      [some (Blk.grow (1 : Nat) (List.length xs10 + List.length [[AV.str s12]]))]))))) :
  Hold (runF PG ty nG G0 an_grow_of f_grow_of [AV.sl (1 : Nat) nll0 none l0, AV.int Go.IntKind.i64 m1, AV.bool known2] [] R) := kshow h (by kernel_rfl)

theorem grow_Of_run (nll0 : Bool) (l0 : List (List AV)) (m1 : Int) (G0 : Nat → Option Go.Obj) (R : AV → List (Option Blk) → Prop) (h :
  ∃ s0 n1,
  Good PG nG G0 f_tree_Root [AV.sl (1 : Nat) nll0 none l0] [] (AV.tup [AV.str s0, AV.int Go.IntKind.i64 n1]) [] ∧
    ifK (n1 != (0 : Int)) (R (AV.tup [AV.sl (1 : Nat) true none [], AV.int Go.IntKind.i64 n1]) [])
      (ifK (decide (m1 < (1 : Int))) (R (AV.tup [AV.sl (1 : Nat) true none [], AV.int Go.IntKind.i64 (3 : Int)]) [])
        (ifK (decide (m1 > (↑(List.length l0) : Int))) (R (AV.tup [AV.sl (1 : Nat) true none [], AV.int Go.IntKind.i64 (3 : Int)]) [])
          (∃ b2 xs3 n4,
            Good PG nG G0 f_grow_of [AV.sl (1 : Nat) nll0 none l0, AV.int Go.IntKind.i64 m1, AV.bool true] [] (AV.tup [AV.sl (1 : Nat) b2 (some (0 : Nat)) xs3, AV.int Go.IntKind.i64 n4])
                [some (Blk.grow (1 : Nat) (List.length xs3))] ∧
              R (AV.tup [AV.sl (1 : Nat) b2 none xs3, AV.int Go.IntKind.i64 n4]) [])))) :
  Hold (runF PG ty nG G0 an_grow_Of f_grow_Of [AV.sl (1 : Nat) nll0 none l0, AV.int Go.IntKind.i64 m1] [] R) := kshow h (by kernel_rfl)

theorem greatsealref_parts_run (m0 : Int) (n1 : Int) (G0 : Nat → Option Go.Obj) (R : AV → List (Option Blk) → Prop) (h :
  Does PG nG G0 (fnOf PG f_greatsealref_parts) (0 : Nat) (lp PG f_greatsealref_parts (0 : Nat))
  (mkT (42 : Nat)
    [((0 : Nat), AV.int Go.IntKind.i64 m0), ((4 : Nat), AV.sl (2 : Nat) true (some (0 : Nat)) []), ((5 : Nat), AV.ref (1 : Nat) (0 : Nat)), ((6 : Nat), AV.bool true), ((7 : Nat), AV.int Go.IntKind.i64 (0 : Int)),
      ((8 : Nat), AV.int Go.IntKind.i64 n1)])
  [some (Blk.grow (2 : Nat) (0 : Nat)), some (Blk.var [AV.int Go.IntKind.i64 (0 : Int), AV.int Go.IntKind.i64 (0 : Int)])] R) :
  Hold (runF PG ty nG G0 an_greatsealref_parts f_greatsealref_parts [AV.int Go.IntKind.i64 m0, AV.int Go.IntKind.i64 n1] [] R) := kshow h (by kernel_rfl)

theorem greatsealref_parts_l0_run (G0 : Nat → Option Obj) (n0 : Int) (b1 : Bool) (xs2 : List (List AV)) (b3 : Bool) (n4 : Int) (n5 : Int) (m6 : Nat) (n7 : Int) (n8 : Int) (R : AV → List (Option Blk) → Prop) (h :
  ifK (decide (n0 < n5))
  (∃ n9,
    Good PG nG G0 f_greatsealref_HalfOf [AV.int Go.IntKind.i64 (Go.IntKind.wrap Go.IntKind.i64 (n5 - n4))] [] (AV.int Go.IntKind.i64 n9) [] ∧
      ifK (decide (n0 ≤ Go.IntKind.wrap Go.IntKind.i64 (n4 + n9)))
        ((List.length xs2 + List.length [[AV.int Go.IntKind.i64 (Go.IntKind.wrap Go.IntKind.i64 (n4 + n9)), AV.int Go.IntKind.i64 n5]]) * (16 : Nat) ≤ (140737488355328 : Nat) ∧
          List.length xs2 = m6 ∧
            Does PG nG G0 (fnOf PG f_greatsealref_parts) (0 : Nat) (lp PG f_greatsealref_parts (0 : Nat))
              (mkT (42 : Nat)
                [((0 : Nat), AV.int Go.IntKind.i64 n0),
                  ((4 : Nat),
                    AV.sl (2 : Nat) (b1 && List.isEmpty [[AV.int Go.IntKind.i64 (Go.IntKind.wrap Go.IntKind.i64 (n4 + n9)), AV.int Go.IntKind.i64 n5]]) (some (0 : Nat))
                      (xs2 ++ [[AV.int Go.IntKind.i64 (Go.IntKind.wrap Go.IntKind.i64 (n4 + n9)), AV.int Go.IntKind.i64 n5]])),
                  ((5 : Nat), AV.ref (1 : Nat) (0 : Nat)), ((6 : Nat), AV.bool b3), ((7 : Nat), AV.int Go.IntKind.i64 n4), ((8 : Nat), AV.int Go.IntKind.i64 (Go.IntKind.wrap Go.IntKind.i64 (n4 + n9)))])
              [some (Blk.grow (2 : Nat) (m6 + List.length [[AV.int Go.IntKind.i64 (Go.IntKind.wrap Go.IntKind.i64 (n4 + n9)), AV.int Go.IntKind.i64 n5]])), some (Blk.var [AV.int Go.IntKind.i64 n7, AV.int Go.IntKind.i64 n8])] R)
        ((List.length xs2 + List.length [[AV.int Go.IntKind.i64 n4, AV.int Go.IntKind.i64 (Go.IntKind.wrap Go.IntKind.i64 (n4 + n9))]]) * (16 : Nat) ≤ (140737488355328 : Nat) ∧
          List.length xs2 = m6 ∧
            Does PG nG G0 (fnOf PG f_greatsealref_parts) (0 : Nat) (lp PG f_greatsealref_parts (0 : Nat))
              (mkT (42 : Nat)
                [((0 : Nat), AV.int Go.IntKind.i64 n0),
                  ((4 : Nat),
                    AV.sl (2 : Nat) (b1 && List.isEmpty [[AV.int Go.IntKind.i64 n4, AV.int Go.IntKind.i64 (Go.IntKind.wrap Go.IntKind.i64 (n4 + n9))]]) (some (0 : Nat))
                      (xs2 ++ [[AV.int Go.IntKind.i64 n4, AV.int Go.IntKind.i64 (Go.IntKind.wrap Go.IntKind.i64 (n4 + n9))]])),
                  ((5 : Nat), AV.ref (1 : Nat) (0 : Nat)), ((6 : Nat), AV.bool false), ((7 : Nat), AV.int Go.IntKind.i64 (Go.IntKind.wrap Go.IntKind.i64 (n4 + n9))), ((8 : Nat), AV.int Go.IntKind.i64 n5)])
              [some (Blk.grow (2 : Nat) (m6 + List.length [[AV.int Go.IntKind.i64 n4, AV.int Go.IntKind.i64 (Go.IntKind.wrap Go.IntKind.i64 (n4 + n9))]])), some (Blk.var [AV.int Go.IntKind.i64 n7, AV.int Go.IntKind.i64 n8])] R))
  (R (AV.tup [AV.sl (2 : Nat) b1 (some (0 : Nat)) xs2, AV.agg [AV.int Go.IntKind.i64 n4, AV.int Go.IntKind.i64 n5], AV.bool b3]) [some (Blk.grow (2 : Nat) m6)])) :
  Hold (runL PG ty nG G0 an_greatsealref_parts f_greatsealref_parts (0 : Nat) (0 : Nat)
  (mkT (42 : Nat)
    [((0 : Nat), AV.int Go.IntKind.i64 n0), ((4 : Nat), AV.sl (2 : Nat) b1 (some (0 : Nat)) xs2), ((5 : Nat), AV.ref (1 : Nat) (0 : Nat)), ((6 : Nat), AV.bool b3), ((7 : Nat), AV.int Go.IntKind.i64 n4),
      ((8 : Nat), AV.int Go.IntKind.i64 n5)])
  [some (Blk.grow (2 : Nat) m6), some (Blk.var [AV.int Go.IntKind.i64 n7, AV.int Go.IntKind.i64 n8])] R) := kshow h (by kernel_rfl)

theorem greatsealref_GrowthOf_run (nll0 : Bool) (l0 : List (List AV)) (m1 : Int) (G0 : Nat → Option Go.Obj) (R : AV → List (Option Blk) → Prop) (h :
  ∃ s0 n1,
  Good PG nG G0 f_greatsealref_RootOf [AV.sl (1 : Nat) nll0 none l0] [] (AV.tup [AV.str s0, AV.int Go.IntKind.i64 n1]) [] ∧
    ifK (n1 != (0 : Int)) (R (AV.tup [AV.sl (1 : Nat) true none [], AV.int Go.IntKind.i64 n1]) [])
      (∃ b2,
        Good PG nG G0 f_greatsealref_in [AV.int Go.IntKind.i64 m1, AV.int Go.IntKind.i64 (1 : Int), AV.int Go.IntKind.i64 (↑(List.length l0) : Int)] [] (AV.bool b2) [] ∧
          ifK (!b2) (R (AV.tup [AV.sl (1 : Nat) true none [], AV.int Go.IntKind.i64 (3 : Int)]) [])
            (∃ b3 xs4 n5 n6 b7,
              ifK b3
                (Good PG nG G0 f_greatsealref_parts [AV.int Go.IntKind.i64 m1, AV.int Go.IntKind.i64 (↑(List.length l0) : Int)] [] (AV.tup [AV.sl (2 : Nat) true none [], AV.agg [AV.int Go.IntKind.i64 n5, AV.int Go.IntKind.i64 n6], AV.bool b7])
                    [] ∧
                  ifK (!b7)
                    ((0 : Int) ≤ (0 : Int) ∧
                      (0 : Int) < (2 : Int) ∧
                        (0 : Int) ≤ (1 : Int) ∧
                          (1 : Int) < (2 : Int) ∧
                            (0 : Int) ≤ n5 ∧
                              n5 ≤ n6 ∧
                                n6 ≤ (↑(List.length l0) : Int) ∧
                                  ∃ s8 n9,
                                    Good PG nG G0 f_greatsealref_RootOf [AV.sl (1 : Nat) nll0 none (List.drop (Int.toNat n5) (List.take (Int.toNat n6) l0))] [] (AV.tup [AV.str s8, AV.int Go.IntKind.i64 n9]) [] ∧
                                      List.length [[AV.str s8]] * (16 : Nat) ≤ (140737488355328 : Nat) ∧
                                        Good PG nG G0 f_slices_Reverse_pair [AV.sl (2 : Nat) true none []] [] (AV.tup []) [] ∧
                                          Does PG nG G0 (fnOf PG f_greatsealref_GrowthOf) (0 : Nat) (lp PG f_greatsealref_GrowthOf (0 : Nat))
                                            (mkT (79 : Nat)
                                              [((0 : Nat), AV.sl (1 : Nat) nll0 none l0), ((11 : Nat), AV.sl (1 : Nat) (List.isEmpty [[AV.str s8]]) (some (0 : Nat)) [[AV.str s8]]), ((57 : Nat), AV.sl (2 : Nat) true none []),
                                                ((58 : Nat), AV.int Go.IntKind.i64 (0 : Int)), ((59 : Nat), AV.int Go.IntKind.i64 (0 : Int))])
                                            [some (Blk.grow (1 : Nat) (List.length [[AV.str s8]]))] R)
                    (Good PG nG G0 f_slices_Reverse_pair [AV.sl (2 : Nat) true none []] [] (AV.tup []) [] ∧
                      Does PG nG G0 (fnOf PG f_greatsealref_GrowthOf) (0 : Nat) (lp PG f_greatsealref_GrowthOf (0 : Nat))
                        (mkT (79 : Nat)
                          [((0 : Nat), AV.sl (1 : Nat) nll0 none l0), ((11 : Nat), AV.sl (1 : Nat) true (some (0 : Nat)) []), ((57 : Nat), AV.sl (2 : Nat) true none []), ((58 : Nat), AV.int Go.IntKind.i64 (0 : Int)),
                            ((59 : Nat), AV.int Go.IntKind.i64 (0 : Int))])
                        [some (Blk.grow (1 : Nat) (0 : Nat))] R))
                (Good PG nG G0 f_greatsealref_parts [AV.int Go.IntKind.i64 m1, AV.int Go.IntKind.i64 (↑(List.length l0) : Int)] []
                    (AV.tup [AV.rsl (2 : Nat) (0 : Nat) (0 : Nat) (List.length xs4), AV.agg [AV.int Go.IntKind.i64 n5, AV.int Go.IntKind.i64 n6], AV.bool b7]) [some (Blk.arr (2 : Nat) xs4)] ∧
                  ifK (!b7)
                    ((0 : Int) ≤ (0 : Int) ∧
                      (0 : Int) < (2 : Int) ∧
                        (0 : Int) ≤ (1 : Int) ∧
                          (1 : Int) < (2 : Int) ∧
                            (0 : Int) ≤ n5 ∧
                              n5 ≤ n6 ∧
                                n6 ≤ (↑(List.length l0) : Int) ∧
                                  ∃ s10 n11,
                                    Good PG nG G0 f_greatsealref_RootOf [AV.sl (1 : Nat) nll0 none (List.drop (Int.toNat n5) (List.take (Int.toNat n6) l0))] [] (AV.tup [AV.str s10, AV.int Go.IntKind.i64 n11]) [] ∧
                                      List.length [[AV.str s10]] * (16 : Nat) ≤ (140737488355328 : Nat) ∧
                                        ∃ xs12,
                                          Good PG nG G0 f_slices_Reverse_pair [AV.rsl (2 : Nat) (0 : Nat) (0 : Nat) (List.length xs4)] [some (Blk.arr (2 : Nat) xs4)] (AV.tup []) [some (Blk.arr (2 : Nat) xs12)] ∧
                                            Does PG nG G0 (fnOf PG f_greatsealref_GrowthOf) (0 : Nat) (lp PG f_greatsealref_GrowthOf (0 : Nat))
                                              (mkT (79 : Nat)
                                                [((0 : Nat), AV.sl (1 : Nat) nll0 none l0), ((11 : Nat), AV.sl (1 : Nat) (List.isEmpty [[AV.str s10]]) (some (0 : Nat)) [[AV.str s10]]),
                                                  ((57 : Nat), AV.sl (2 : Nat) false none (List.take (List.length xs4) (List.drop (0 : Nat) xs12))),
                                                  ((58 : Nat), AV.int Go.IntKind.i64 (↑(List.length (List.take (List.length xs4) (List.drop (0 : Nat) xs12))) : Int)), ((59 : Nat), AV.int Go.IntKind.i64 (0 : Int))])
                                              [some (Blk.grow (1 : Nat) (List.length [[AV.str s10]]))] R)
                    (∃ xs13,
                      Good PG nG G0 f_slices_Reverse_pair [AV.rsl (2 : Nat) (0 : Nat) (0 : Nat) (List.length xs4)] [some (Blk.arr (2 : Nat) xs4)] (AV.tup []) [some (Blk.arr (2 : Nat) xs13)] ∧
                        Does PG nG G0 (fnOf PG f_greatsealref_GrowthOf) (0 : Nat) (lp PG f_greatsealref_GrowthOf (0 : Nat))
                          (mkT (79 : Nat)
                            [((0 : Nat), AV.sl (1 : Nat) nll0 none l0), ((11 : Nat), AV.sl (1 : Nat) true (some (0 : Nat)) []), ((57 : Nat), AV.sl (2 : Nat) false none (List.take (List.length xs4) (List.drop (0 : Nat) xs13))),
                              ((58 : Nat), AV.int Go.IntKind.i64 (↑(List.length (List.take (List.length xs4) (List.drop (0 : Nat) xs13))) : Int)), ((59 : Nat), AV.int Go.IntKind.i64 (0 : Int))])
                          [some (Blk.grow (1 : Nat) (0 : Nat))] R))))) :
  Hold (runF PG ty nG G0 an_greatsealref_GrowthOf f_greatsealref_GrowthOf [AV.sl (1 : Nat) nll0 none l0, AV.int Go.IntKind.i64 m1] [] R) := kshow h (by kernel_rfl)

theorem greatsealref_GrowthOf_l0_run (G0 : Nat → Option Obj) (b14 : Bool) (xs15 : List (List AV)) (b16 : Bool) (xs17 : List (List AV)) (b18 : Bool) (xs19 : List (List AV)) (n20 : Int) (n21 : Int) (m22 : Nat) (R : AV → List (Option Blk) → Prop) (h :
  ifK (decide (n21 < n20))
  ((0 : Int) ≤ n21 ∧
    ∃ n23 n24,
      xs19[Int.toNat n21]? = some [AV.int Go.IntKind.i64 n23, AV.int Go.IntKind.i64 n24] ∧
        (0 : Int) ≤ (0 : Int) ∧
          (0 : Int) < (2 : Int) ∧
            (0 : Int) ≤ (1 : Int) ∧
              (1 : Int) < (2 : Int) ∧
                (0 : Int) ≤ n23 ∧
                  n23 ≤ n24 ∧
                    n24 ≤ (↑(List.length xs15) : Int) ∧
                      ∃ s25 n26,
                        Good PG nG G0 f_greatsealref_RootOf [AV.sl (1 : Nat) b14 none (List.drop (Int.toNat n23) (List.take (Int.toNat n24) xs15))] [] (AV.tup [AV.str s25, AV.int Go.IntKind.i64 n26]) [] ∧
                          (List.length xs17 + List.length [[AV.str s25]]) * (16 : Nat) ≤ (140737488355328 : Nat) ∧
                            List.length xs17 = m22 ∧
                              Does PG nG G0 (fnOf PG f_greatsealref_GrowthOf) (0 : Nat) (lp PG f_greatsealref_GrowthOf (0 : Nat))
                                (mkT (79 : Nat)
                                  [((0 : Nat), AV.sl (1 : Nat) b14 none xs15), ((11 : Nat), AV.sl (1 : Nat) (b16 && List.isEmpty [[AV.str s25]]) (some (0 : Nat)) (xs17 ++ [[AV.str s25]])), ((57 : Nat), AV.sl (2 : Nat) b18 none xs19),
                                    ((58 : Nat), AV.int Go.IntKind.i64 n20), ((59 : Nat), AV.int Go.IntKind.i64 (Go.IntKind.wrap Go.IntKind.i64 (n21 + (1 : Int))))])
                                [some (Blk.grow (1 : Nat) (m22 + List.length [[AV.str s25]]))] R)
  (R (AV.tup [AV.sl (1 : Nat) b16 none xs17, AV.int Go.IntKind.i64 (0 : Int)]) [])) :
  Hold (runL PG ty nG G0 an_greatsealref_GrowthOf f_greatsealref_GrowthOf (0 : Nat) (0 : Nat)
  (mkT (79 : Nat)
    [((0 : Nat), AV.sl (1 : Nat) b14 none xs15), ((11 : Nat), AV.sl (1 : Nat) b16 (some (0 : Nat)) xs17), ((57 : Nat), AV.sl (2 : Nat) b18 none xs19), ((58 : Nat), AV.int Go.IntKind.i64 n20), ((59 : Nat), AV.int Go.IntKind.i64 n21)])
  [some (Blk.grow (1 : Nat) m22)] R) := kshow h (by kernel_rfl)

theorem greatsealref_GrowthShows_run (old0 : List UInt8) (m1 : Int) (root2 : List UInt8) (n3 : Int) (nll4 : Bool) (l4 : List (List AV)) (G0 : Nat → Option Go.Obj) (R : AV → List (Option Blk) → Prop) (h :
  ifK (decide (m1 < (1 : Int))) (R (AV.int Go.IntKind.i64 (3 : Int)) [])
  (ifK (decide (n3 < m1)) (R (AV.int Go.IntKind.i64 (3 : Int)) [])
    (ifK (decide (n3 > (24 : Int))) (R (AV.int Go.IntKind.i64 (3 : Int)) [])
      (∃ b0 xs1 n2 n3_1 b4,
        ifK b0
          (Good PG nG G0 f_greatsealref_parts [AV.int Go.IntKind.i64 m1, AV.int Go.IntKind.i64 n3] [] (AV.tup [AV.sl (2 : Nat) true none [], AV.agg [AV.int Go.IntKind.i64 n2, AV.int Go.IntKind.i64 n3_1], AV.bool b4]) [] ∧
            ifK (!b4)
              (ifK ((↑(List.length l4) : Int) != (1 : Int)) (R (AV.int Go.IntKind.i64 (7 : Int)) [])
                (ifK (!b4)
                  ((0 : Int) ≤ (0 : Int) ∧
                    ∃ s5,
                      l4[(0 : Nat)]? = some [AV.str s5] ∧
                        (0 : Int) ≤ (1 : Int) ∧
                          (1 : Int) ≤ (↑(List.length l4) : Int) ∧
                            (↑(List.length l4) : Int) ≤ (↑(List.length l4) : Int) ∧
                              Good PG nG G0 f_slices_Reverse_pair [AV.sl (2 : Nat) true none []] [] (AV.tup []) [] ∧
                                Does PG nG G0 (fnOf PG f_greatsealref_GrowthShows) (0 : Nat) (lp PG f_greatsealref_GrowthShows (0 : Nat))
                                  (mkT (113 : Nat)
                                    [((0 : Nat), AV.str old0), ((2 : Nat), AV.str root2), ((4 : Nat), AV.sl (1 : Nat) nll4 none (List.drop (1 : Nat) (List.take (Int.toNat (↑(List.length l4) : Int)) l4))),
                                      ((12 : Nat), AV.ref (0 : Nat) (0 : Nat)), ((15 : Nat), AV.str s5), ((16 : Nat), AV.str s5), ((59 : Nat), AV.sl (2 : Nat) true none []), ((60 : Nat), AV.int Go.IntKind.i64 (0 : Int)),
                                      ((61 : Nat), AV.int Go.IntKind.i64 (0 : Int))])
                                  [some (Blk.var [AV.int Go.IntKind.i64 n2, AV.int Go.IntKind.i64 n3_1])] R)
                  (Good PG nG G0 f_slices_Reverse_pair [AV.sl (2 : Nat) true none []] [] (AV.tup []) [] ∧
                    Does PG nG G0 (fnOf PG f_greatsealref_GrowthShows) (0 : Nat) (lp PG f_greatsealref_GrowthShows (0 : Nat))
                      (mkT (113 : Nat)
                        [((0 : Nat), AV.str old0), ((2 : Nat), AV.str root2), ((4 : Nat), AV.sl (1 : Nat) nll4 none l4), ((12 : Nat), AV.ref (0 : Nat) (0 : Nat)), ((15 : Nat), AV.str old0), ((16 : Nat), AV.str old0),
                          ((59 : Nat), AV.sl (2 : Nat) true none []), ((60 : Nat), AV.int Go.IntKind.i64 (0 : Int)), ((61 : Nat), AV.int Go.IntKind.i64 (0 : Int))])
                      [some (Blk.var [AV.int Go.IntKind.i64 n2, AV.int Go.IntKind.i64 n3_1])] R)))
              (ifK ((↑(List.length l4) : Int) != (0 : Int)) (R (AV.int Go.IntKind.i64 (7 : Int)) [])
                (ifK (!b4)
                  ((0 : Int) ≤ (0 : Int) ∧
                    ∃ s6,
                      l4[(0 : Nat)]? = some [AV.str s6] ∧
                        (0 : Int) ≤ (1 : Int) ∧
                          (1 : Int) ≤ (↑(List.length l4) : Int) ∧
                            (↑(List.length l4) : Int) ≤ (↑(List.length l4) : Int) ∧
                              Good PG nG G0 f_slices_Reverse_pair [AV.sl (2 : Nat) true none []] [] (AV.tup []) [] ∧
                                Does PG nG G0 (fnOf PG f_greatsealref_GrowthShows) (0 : Nat) (lp PG f_greatsealref_GrowthShows (0 : Nat))
                                  (mkT (113 : Nat)
                                    [((0 : Nat), AV.str old0), ((2 : Nat), AV.str root2), ((4 : Nat), AV.sl (1 : Nat) nll4 none (List.drop (1 : Nat) (List.take (Int.toNat (↑(List.length l4) : Int)) l4))),
                                      ((12 : Nat), AV.ref (0 : Nat) (0 : Nat)), ((15 : Nat), AV.str s6), ((16 : Nat), AV.str s6), ((59 : Nat), AV.sl (2 : Nat) true none []), ((60 : Nat), AV.int Go.IntKind.i64 (0 : Int)),
                                      ((61 : Nat), AV.int Go.IntKind.i64 (0 : Int))])
                                  [some (Blk.var [AV.int Go.IntKind.i64 n2, AV.int Go.IntKind.i64 n3_1])] R)
                  (Good PG nG G0 f_slices_Reverse_pair [AV.sl (2 : Nat) true none []] [] (AV.tup []) [] ∧
                    Does PG nG G0 (fnOf PG f_greatsealref_GrowthShows) (0 : Nat) (lp PG f_greatsealref_GrowthShows (0 : Nat))
                      (mkT (113 : Nat)
                        [((0 : Nat), AV.str old0), ((2 : Nat), AV.str root2), ((4 : Nat), AV.sl (1 : Nat) nll4 none l4), ((12 : Nat), AV.ref (0 : Nat) (0 : Nat)), ((15 : Nat), AV.str old0), ((16 : Nat), AV.str old0),
                          ((59 : Nat), AV.sl (2 : Nat) true none []), ((60 : Nat), AV.int Go.IntKind.i64 (0 : Int)), ((61 : Nat), AV.int Go.IntKind.i64 (0 : Int))])
                      [some (Blk.var [AV.int Go.IntKind.i64 n2, AV.int Go.IntKind.i64 n3_1])] R))))
          (Good PG nG G0 f_greatsealref_parts [AV.int Go.IntKind.i64 m1, AV.int Go.IntKind.i64 n3] [] (AV.tup [AV.rsl (2 : Nat) (0 : Nat) (0 : Nat) (List.length xs1), AV.agg [AV.int Go.IntKind.i64 n2, AV.int Go.IntKind.i64 n3_1], AV.bool b4])
              [some (Blk.arr (2 : Nat) xs1)] ∧
            ifK (!b4)
              (ifK ((↑(List.length l4) : Int) != Go.IntKind.wrap Go.IntKind.i64 ((↑(List.length xs1) : Int) + (1 : Int))) (R (AV.int Go.IntKind.i64 (7 : Int)) [])
                (ifK (!b4)
                  ((0 : Int) ≤ (0 : Int) ∧
                    ∃ s7,
                      l4[(0 : Nat)]? = some [AV.str s7] ∧
                        (0 : Int) ≤ (1 : Int) ∧
                          (1 : Int) ≤ (↑(List.length l4) : Int) ∧
                            (↑(List.length l4) : Int) ≤ (↑(List.length l4) : Int) ∧
                              ∃ xs8,
                                Good PG nG G0 f_slices_Reverse_pair [AV.rsl (2 : Nat) (0 : Nat) (0 : Nat) (List.length xs1)] [some (Blk.arr (2 : Nat) xs1)] (AV.tup []) [some (Blk.arr (2 : Nat) xs8)] ∧
                                  Does PG nG G0 (fnOf PG f_greatsealref_GrowthShows) (0 : Nat) (lp PG f_greatsealref_GrowthShows (0 : Nat))
                                    (mkT (113 : Nat)
                                      [((0 : Nat), AV.str old0), ((2 : Nat), AV.str root2), ((4 : Nat), AV.sl (1 : Nat) nll4 none (List.drop (1 : Nat) (List.take (Int.toNat (↑(List.length l4) : Int)) l4))),
                                        ((12 : Nat), AV.ref (0 : Nat) (0 : Nat)), ((15 : Nat), AV.str s7), ((16 : Nat), AV.str s7), ((59 : Nat), AV.sl (2 : Nat) false none (List.take (List.length xs1) (List.drop (0 : Nat) xs8))),
                                        ((60 : Nat), AV.int Go.IntKind.i64 (↑(List.length (List.take (List.length xs1) (List.drop (0 : Nat) xs8))) : Int)), ((61 : Nat), AV.int Go.IntKind.i64 (0 : Int))])
                                    [some (Blk.var [AV.int Go.IntKind.i64 n2, AV.int Go.IntKind.i64 n3_1])] R)
                  (∃ xs9,
                    Good PG nG G0 f_slices_Reverse_pair [AV.rsl (2 : Nat) (0 : Nat) (0 : Nat) (List.length xs1)] [some (Blk.arr (2 : Nat) xs1)] (AV.tup []) [some (Blk.arr (2 : Nat) xs9)] ∧
                      Does PG nG G0 (fnOf PG f_greatsealref_GrowthShows) (0 : Nat) (lp PG f_greatsealref_GrowthShows (0 : Nat))
                        (mkT (113 : Nat)
                          [((0 : Nat), AV.str old0), ((2 : Nat), AV.str root2), ((4 : Nat), AV.sl (1 : Nat) nll4 none l4), ((12 : Nat), AV.ref (0 : Nat) (0 : Nat)), ((15 : Nat), AV.str old0), ((16 : Nat), AV.str old0),
                            ((59 : Nat), AV.sl (2 : Nat) false none (List.take (List.length xs1) (List.drop (0 : Nat) xs9))),
                            ((60 : Nat), AV.int Go.IntKind.i64 (↑(List.length (List.take (List.length xs1) (List.drop (0 : Nat) xs9))) : Int)), ((61 : Nat), AV.int Go.IntKind.i64 (0 : Int))])
                        [some (Blk.var [AV.int Go.IntKind.i64 n2, AV.int Go.IntKind.i64 n3_1])] R)))
              (ifK ((↑(List.length l4) : Int) != (↑(List.length xs1) : Int)) (R (AV.int Go.IntKind.i64 (7 : Int)) [])
                (ifK (!b4)
                  ((0 : Int) ≤ (0 : Int) ∧
                    ∃ s10,
                      l4[(0 : Nat)]? = some [AV.str s10] ∧
                        (0 : Int) ≤ (1 : Int) ∧
                          (1 : Int) ≤ (↑(List.length l4) : Int) ∧
                            (↑(List.length l4) : Int) ≤ (↑(List.length l4) : Int) ∧
                              ∃ xs11,
                                Good PG nG G0 f_slices_Reverse_pair [AV.rsl (2 : Nat) (0 : Nat) (0 : Nat) (List.length xs1)] [some (Blk.arr (2 : Nat) xs1)] (AV.tup []) [some (Blk.arr (2 : Nat) xs11)] ∧
                                  Does PG nG G0 (fnOf PG f_greatsealref_GrowthShows) (0 : Nat) (lp PG f_greatsealref_GrowthShows (0 : Nat))
                                    (mkT (113 : Nat)
                                      [((0 : Nat), AV.str old0), ((2 : Nat), AV.str root2), ((4 : Nat), AV.sl (1 : Nat) nll4 none (List.drop (1 : Nat) (List.take (Int.toNat (↑(List.length l4) : Int)) l4))),
                                        ((12 : Nat), AV.ref (0 : Nat) (0 : Nat)), ((15 : Nat), AV.str s10), ((16 : Nat), AV.str s10), ((59 : Nat), AV.sl (2 : Nat) false none (List.take (List.length xs1) (List.drop (0 : Nat) xs11))),
                                        ((60 : Nat), AV.int Go.IntKind.i64 (↑(List.length (List.take (List.length xs1) (List.drop (0 : Nat) xs11))) : Int)), ((61 : Nat), AV.int Go.IntKind.i64 (0 : Int))])
                                    [some (Blk.var [AV.int Go.IntKind.i64 n2, AV.int Go.IntKind.i64 n3_1])] R)
                  (∃ xs12,
                    Good PG nG G0 f_slices_Reverse_pair [AV.rsl (2 : Nat) (0 : Nat) (0 : Nat) (List.length xs1)] [some (Blk.arr (2 : Nat) xs1)] (AV.tup []) [some (Blk.arr (2 : Nat) xs12)] ∧
                      Does PG nG G0 (fnOf PG f_greatsealref_GrowthShows) (0 : Nat) (lp PG f_greatsealref_GrowthShows (0 : Nat))
                        (mkT (113 : Nat)
                          [((0 : Nat), AV.str old0), ((2 : Nat), AV.str root2), ((4 : Nat), AV.sl (1 : Nat) nll4 none l4), ((12 : Nat), AV.ref (0 : Nat) (0 : Nat)), ((15 : Nat), AV.str old0), ((16 : Nat), AV.str old0),
                            ((59 : Nat), AV.sl (2 : Nat) false none (List.take (List.length xs1) (List.drop (0 : Nat) xs12))),
                            ((60 : Nat), AV.int Go.IntKind.i64 (↑(List.length (List.take (List.length xs1) (List.drop (0 : Nat) xs12))) : Int)), ((61 : Nat), AV.int Go.IntKind.i64 (0 : Int))])
                        [some (Blk.var [AV.int Go.IntKind.i64 n2, AV.int Go.IntKind.i64 n3_1])] R)))))))) :
  Hold (runF PG ty nG G0 an_greatsealref_GrowthShows f_greatsealref_GrowthShows [AV.str old0, AV.int Go.IntKind.i64 m1, AV.str root2, AV.int Go.IntKind.i64 n3, AV.sl (1 : Nat) nll4 none l4] [] R) := kshow h (by kernel_rfl)

theorem greatsealref_GrowthShows_l0_run (G0 : Nat → Option Obj) (s13 : List UInt8) (s14 : List UInt8) (b15 : Bool) (xs16 : List (List AV)) (s17 : List UInt8) (s18 : List UInt8) (b19 : Bool) (xs20 : List (List AV)) (n21 : Int) (n22 : Int) (n23 : Int) (n24 : Int) (R : AV → List (Option Blk) → Prop) (h :
  ifK (decide (n22 < n21))
  ((0 : Int) ≤ n22 ∧
    ∃ n25 n26,
      xs20[Int.toNat n22]? = some [AV.int Go.IntKind.i64 n25, AV.int Go.IntKind.i64 n26] ∧
        (0 : Int) ≤ (0 : Int) ∧
          (0 : Int) < (2 : Int) ∧
            (0 : Int) ≤ (1 : Int) ∧
              (1 : Int) < (2 : Int) ∧
                ifK (decide (n25 ≥ n24))
                  ((0 : Int) ≤ n22 ∧
                    ∃ s27,
                      xs16[Int.toNat n22]? = some [AV.str s27] ∧
                        ∃ s28 n29,
                          Good PG nG G0 f_greatsealref_NodeOf [AV.str s18, AV.str s27] [] (AV.tup [AV.str s28, AV.int Go.IntKind.i64 n29]) [] ∧
                            ifK (n29 != (0 : Int)) (R (AV.int Go.IntKind.i64 (7 : Int)) [])
                              (Does PG nG G0 (fnOf PG f_greatsealref_GrowthShows) (0 : Nat) (lp PG f_greatsealref_GrowthShows (0 : Nat))
                                (mkT (113 : Nat)
                                  [((0 : Nat), AV.str s13), ((2 : Nat), AV.str s14), ((4 : Nat), AV.sl (1 : Nat) b15 none xs16), ((12 : Nat), AV.ref (0 : Nat) (0 : Nat)), ((15 : Nat), AV.str s17), ((16 : Nat), AV.str s28),
                                    ((59 : Nat), AV.sl (2 : Nat) b19 none xs20), ((60 : Nat), AV.int Go.IntKind.i64 n21), ((61 : Nat), AV.int Go.IntKind.i64 (Go.IntKind.wrap Go.IntKind.i64 (n22 + (1 : Int))))])
                                [some (Blk.var [AV.int Go.IntKind.i64 n23, AV.int Go.IntKind.i64 n24])] R))
                  ((0 : Int) ≤ n22 ∧
                    ∃ s30,
                      xs16[Int.toNat n22]? = some [AV.str s30] ∧
                        ∃ s31 n32,
                          Good PG nG G0 f_greatsealref_NodeOf [AV.str s30, AV.str s17] [] (AV.tup [AV.str s31, AV.int Go.IntKind.i64 n32]) [] ∧
                            ifK (n32 != (0 : Int)) (R (AV.int Go.IntKind.i64 (7 : Int)) [])
                              ((0 : Int) ≤ n22 ∧
                                ∃ s33,
                                  xs16[Int.toNat n22]? = some [AV.str s33] ∧
                                    ∃ s34 n35,
                                      Good PG nG G0 f_greatsealref_NodeOf [AV.str s33, AV.str s18] [] (AV.tup [AV.str s34, AV.int Go.IntKind.i64 n35]) [] ∧
                                        ifK (n35 != (0 : Int)) (R (AV.int Go.IntKind.i64 (7 : Int)) [])
                                          (Does PG nG G0 (fnOf PG f_greatsealref_GrowthShows) (0 : Nat) (lp PG f_greatsealref_GrowthShows (0 : Nat))
                                            (mkT (113 : Nat)
                                              [((0 : Nat), AV.str s13), ((2 : Nat), AV.str s14), ((4 : Nat), AV.sl (1 : Nat) b15 none xs16), ((12 : Nat), AV.ref (0 : Nat) (0 : Nat)), ((15 : Nat), AV.str s31), ((16 : Nat), AV.str s34),
                                                ((59 : Nat), AV.sl (2 : Nat) b19 none xs20), ((60 : Nat), AV.int Go.IntKind.i64 n21), ((61 : Nat), AV.int Go.IntKind.i64 (Go.IntKind.wrap Go.IntKind.i64 (n22 + (1 : Int))))])
                                            [some (Blk.var [AV.int Go.IntKind.i64 n23, AV.int Go.IntKind.i64 n24])] R))))
  (ifK (!s17 == s13) (R (AV.int Go.IntKind.i64 (7 : Int)) []) (ifK (!s18 == s14) (R (AV.int Go.IntKind.i64 (7 : Int)) []) (R (AV.int Go.IntKind.i64 (0 : Int)) [])))) :
  Hold (runL PG ty nG G0 an_greatsealref_GrowthShows f_greatsealref_GrowthShows (0 : Nat) (0 : Nat)
  (mkT (113 : Nat)
    [((0 : Nat), AV.str s13), ((2 : Nat), AV.str s14), ((4 : Nat), AV.sl (1 : Nat) b15 none xs16), ((12 : Nat), AV.ref (0 : Nat) (0 : Nat)), ((15 : Nat), AV.str s17), ((16 : Nat), AV.str s18), ((59 : Nat), AV.sl (2 : Nat) b19 none xs20),
      ((60 : Nat), AV.int Go.IntKind.i64 n21), ((61 : Nat), AV.int Go.IntKind.i64 n22)])
  [some (Blk.var [AV.int Go.IntKind.i64 n23, AV.int Go.IntKind.i64 n24])] R) := kshow h (by kernel_rfl)

theorem greatseallaw_grown_run (G0 : Nat → Option Go.Obj) (R : AV → List (Option Blk) → Prop) (h :
  (0 : Int) ≤ (0 : Int) ∧
  (0 : Int) ≤ (3 : Int) ∧
    (3 : Int) ≤ (5 : Int) ∧
      ∃ b0 xs1 n2,
        Good PG nG G0 f_grow_Of [AV.sl (1 : Nat) false none [[AV.str [(97 : UInt8)]], [AV.str [(98 : UInt8)]], [AV.str [(99 : UInt8)]]], AV.int Go.IntKind.i64 (2 : Int)] []
            (AV.tup [AV.sl (1 : Nat) b0 none xs1, AV.int Go.IntKind.i64 n2]) [] ∧
          ∃ b3 xs4 n5,
            Good PG nG G0 f_grow_Of [AV.sl (1 : Nat) false none [[AV.str [(97 : UInt8)]], [AV.str [(98 : UInt8)]], [AV.str [(99 : UInt8)]], [AV.str [(100 : UInt8)]], [AV.str [(101 : UInt8)]]], AV.int Go.IntKind.i64 (3 : Int)] []
                (AV.tup [AV.sl (1 : Nat) b3 none xs4, AV.int Go.IntKind.i64 n5]) [] ∧
              (0 : Int) ≤ (0 : Int) ∧
                (0 : Int) ≤ (3 : Int) ∧
                  (3 : Int) ≤ (5 : Int) ∧
                    ∃ s6 n7,
                      Good PG nG G0 f_tree_Root [AV.sl (1 : Nat) false none [[AV.str [(97 : UInt8)]], [AV.str [(98 : UInt8)]], [AV.str [(99 : UInt8)]]]] [] (AV.tup [AV.str s6, AV.int Go.IntKind.i64 n7]) [] ∧
                        ∃ s8 n9,
                          Good PG nG G0 f_tree_Root [AV.sl (1 : Nat) false none [[AV.str [(97 : UInt8)]], [AV.str [(98 : UInt8)]], [AV.str [(99 : UInt8)]], [AV.str [(100 : UInt8)]], [AV.str [(101 : UInt8)]]]] []
                              (AV.tup [AV.str s8, AV.int Go.IntKind.i64 n9]) [] ∧
                            ∃ b10 xs11 n12,
                              Good PG nG G0 f_grow_Of
                                  [AV.sl (1 : Nat) false none [[AV.str [(97 : UInt8)]], [AV.str [(98 : UInt8)]], [AV.str [(99 : UInt8)]], [AV.str [(100 : UInt8)]], [AV.str [(101 : UInt8)]]], AV.int Go.IntKind.i64 (6 : Int)] []
                                  (AV.tup [AV.sl (1 : Nat) b10 none xs11, AV.int Go.IntKind.i64 n12]) [] ∧
                                ifK (n2 == (0 : Int))
                                  (ifK (n5 == (0 : Int))
                                    (ifK (n7 == (0 : Int))
                                      (ifK (n9 == (0 : Int))
                                        (ifK (n12 == (3 : Int))
                                          (∃ b13,
                                            Good PG nG G0 f_slices_Equal_string [AV.sl (1 : Nat) b0 none xs1, AV.sl (1 : Nat) false none [[AV.str [(76 : UInt8), (99 : UInt8)]]]] [] (AV.bool b13) [] ∧
                                              ifK b13
                                                (∃ b14,
                                                  Good PG nG G0 f_slices_Equal_string
                                                      [AV.sl (1 : Nat) b3 none xs4,
                                                        AV.sl (1 : Nat) false none
                                                          [[AV.str [(76 : UInt8), (99 : UInt8)]], [AV.str [(76 : UInt8), (100 : UInt8)]],
                                                            [AV.str [(78 : UInt8), (50 : UInt8), (58 : UInt8), (76 : UInt8), (97 : UInt8), (76 : UInt8), (98 : UInt8)]], [AV.str [(76 : UInt8), (101 : UInt8)]]]]
                                                      [] (AV.bool b14) [] ∧
                                                    ifK b14
                                                      (∃ n15,
                                                        Good PG nG G0 f_grow_Shows [AV.str s6, AV.int Go.IntKind.i64 (3 : Int), AV.str s8, AV.int Go.IntKind.i64 (5 : Int), AV.sl (1 : Nat) b3 none xs4] [] (AV.int Go.IntKind.i64 n15)
                                                            [] ∧
                                                          ifK (n15 == (0 : Int))
                                                            (∃ n16,
                                                              Good PG nG G0 f_grow_Shows [AV.str s6, AV.int Go.IntKind.i64 (3 : Int), AV.str s8, AV.int Go.IntKind.i64 (5 : Int), AV.sl (1 : Nat) true none []] []
                                                                  (AV.int Go.IntKind.i64 n16) [] ∧
                                                                R (AV.bool (n16 == (7 : Int))) [])
                                                            (R (AV.bool false) []))
                                                      (R (AV.bool false) []))
                                                (R (AV.bool false) []))
                                          (R (AV.bool false) []))
                                        (R (AV.bool false) []))
                                      (R (AV.bool false) []))
                                    (R (AV.bool false) []))
                                  (R (AV.bool false) [])) :
  Hold (runF PG ty nG G0 an_greatseallaw_grown f_greatseallaw_grown [] [] R) := kshow h (by kernel_rfl)

end Go.Ab

namespace Go.Gs

/-- The parts beside, from above; the last one, and whether it is known. -/
def partsF (m f t : Nat) (known : Bool) : List (Nat × Nat) × (Nat × Nat) × Bool :=
  if _h : t ≤ m ∨ t - f ≤ 1 then ([], (f, t), known)
  else if m ≤ f + halfN (t - f) then
    ((f + halfN (t - f), t) :: (partsF m f (f + halfN (t - f)) known).1, (partsF m f (f + halfN (t - f)) known).2)
  else ((f, f + halfN (t - f)) :: (partsF m (f + halfN (t - f)) t false).1, (partsF m (f + halfN (t - f)) t false).2)
  termination_by t - f
  decreasing_by
  all_goals
    have := halfN_pos (t - f)
    have := halfN_lt (n := t - f) (by omega)
    omega

theorem partsF_end {m f t : Nat} {known : Bool} (h : t ≤ m) : partsF m f t known = ([], (f, t), known) := by rw [partsF, dif_pos (.inl h)]
theorem partsF_left {m f t : Nat} {known : Bool} (h : ¬ t ≤ m) (h2 : ¬ t - f ≤ 1) (h3 : m ≤ f + halfN (t - f)) : partsF m f t known = ((f + halfN (t - f), t) :: (partsF m f (f + halfN (t - f)) known).1, (partsF m f (f + halfN (t - f)) known).2) := by
  rw [partsF, dif_neg (by omega), if_pos h3]
theorem partsF_right {m f t : Nat} {known : Bool} (h : ¬ t ≤ m) (h2 : ¬ t - f ≤ 1) (h3 : ¬ m ≤ f + halfN (t - f)) : partsF m f t known = ((f, f + halfN (t - f)) :: (partsF m (f + halfN (t - f)) t false).1, (partsF m (f + halfN (t - f)) t false).2) := by
  rw [partsF, dif_neg (by omega), if_neg h3]

/-- Parts lie within. -/
theorem partsF_in : ∀ (N m f t : Nat) (known : Bool), t - f ≤ N → f < m → m ≤ t →
    (∀ p ∈ (partsF m f t known).1, f ≤ p.1 ∧ p.1 < p.2 ∧ p.2 ≤ t) ∧ f ≤ (partsF m f t known).2.1.1 ∧ (partsF m f t known).2.1.1 < (partsF m f t known).2.1.2 ∧ (partsF m f t known).2.1.2 ≤ t ∧ (partsF m f t known).1.length ≤ t - f := by
  intro N
  induction N with
  | zero => intro m f t known h h1 h2; omega
  | succ N ih =>
    intro m f t known h h1 h2
    by_cases hc : t ≤ m
    · rw [partsF_end hc]
      refine ⟨fun p hp => absurd hp (by simp), Nat.le_refl _, ?_, Nat.le_refl _, by simp⟩
      show f < t
      omega
    · have hk1 := halfN_pos (t - f)
      have hk2 := halfN_lt (n := t - f) (by omega)
      by_cases h3 : m ≤ f + halfN (t - f)
      · rw [partsF_left hc (by omega) h3]
        obtain ⟨g1, g2, g3, g4, g5⟩ := ih m f (f + halfN (t - f)) known (by omega) h1 h3
        refine ⟨fun p hp => ?_, g2, g3, by simp only; omega, by simp only [List.length_cons]; omega⟩
        rcases List.mem_cons.1 hp with rfl | hp
        · simp only; omega
        · have := g1 p hp; omega
      · rw [partsF_right hc (by omega) h3]
        obtain ⟨g1, g2, g3, g4, g5⟩ := ih m (f + halfN (t - f)) t false (by omega) (by omega) h2
        refine ⟨fun p hp => ?_, by simp only; omega, g3, g4, by simp only [List.length_cons]; omega⟩
        rcases List.mem_cons.1 hp with rfl | hp
        · simp only; omega
        · have := g1 p hp; omega

/-- The seals that show growth, by parts. -/
theorem parts_grow (l : List By) : ∀ (N m f t : Nat) (known : Bool), t - f ≤ N → f < m → m ≤ t → t ≤ l.length →
    growOf (sub l f t) (m - f) known = (if (partsF m f t known).2.2 then [] else [(tRoot (sub l (partsF m f t known).2.1.1 (partsF m f t known).2.1.2)).1]) ++ (partsF m f t known).1.reverse.map fun p => (tRoot (sub l p.1 p.2)).1 := by
  intro N
  induction N with
  | zero => intro m f t known h h1 h2; omega
  | succ N ih =>
    intro m f t known h h1 h2 ht
    have hl := sub_len (l := l) (f := f) ht
    by_cases hc : t ≤ m
    · have : m - f = (sub l f t).length := by omega
      rw [partsF_end hc, this, growOf_all]
      simp
    · have hk1 := halfN_pos (t - f)
      have hk2 := halfN_lt (n := t - f) (by omega)
      rw [growOf_less (by omega) (by omega), hl, sub_take l (by omega), sub_drop]
      by_cases h3 : m ≤ f + halfN (t - f)
      · rw [partsF_left hc (by omega) h3, if_pos (by omega), ih m f _ known (by omega) h1 h3 (by omega)]
        simp
      · rw [partsF_right hc (by omega) h3, if_neg (by omega)]
        have e : m - f - halfN (t - f) = m - (f + halfN (t - f)) := by omega
        rw [e, ih m _ t false (by omega) (by omega) h2 ht]
        simp

/-- Both seals, from below: by seals that stand right or left. -/
def compG : List (Bool × By) → By → By → Option (By × By)
  | [], a, b => some (a, b)
  | (right, s) :: r, a, b =>
    if right then (if (tNode b s).2 ≠ 0 then none else compG r a (tNode b s).1)
    else if (tNode s a).2 ≠ 0 ∨ (tNode s b).2 ≠ 0 then none else compG r (tNode s a).1 (tNode s b).1

theorem compG_snoc : ∀ (xs : List (Bool × By)) (y : Bool × By) (a b : By), compG (xs ++ [y]) a b = (compG xs a b).bind fun p => compG [y] p.1 p.2
  | [], y, a, b => by simp [compG]
  | (true, s) :: r, y, a, b => by
    simp only [List.cons_append, compG, if_true]
    split
    · rfl
    · exact compG_snoc r y _ _
  | (false, s) :: r, y, a, b => by
    simp only [List.cons_append, compG, Bool.false_eq_true, if_false]
    split
    · rfl
    · exact compG_snoc r y _ _

def rightG (last p : Nat × Nat) : Bool := decide (last.2 ≤ p.1)

theorem bothS_stays_bad {m n : Nat} {old : By} {known : Bool} {s : Sh} (h1 : 1 ≤ m) (h2 : m ≤ n) (h : s.2 = true) : (bothS m n old known s).2.2.2 = true := by
  cases hc : (bothS m n old known s).2.2.2 with
  | true => rfl
  | false => rw [bothS_bad _ m n old known s (Nat.le_refl _) h1 h2 hc] at h; cases h

theorem lastS_none {b : Bool} : (lastS ([], b)).2.2 = true := by simp [lastS]

theorem bothS_few : ∀ (N m f t : Nat) (old : By) (known : Bool) (s : Sh), t - f ≤ N → f < m → m ≤ t → s.1.length < (partsF m f t known).1.length + (if (partsF m f t known).2.2 then 0 else 1) →
    (bothS (m - f) (t - f) old known s).2.2.2 = true := by
  intro N
  induction N with
  | zero => intro m f t old known s h h1 h2; omega
  | succ N ih =>
    intro m f t old known s h h1 h2 hlt
    by_cases hc : t ≤ m
    · have : m - f = t - f := by omega
      rw [partsF_end hc] at hlt
      rw [this, bothS_all]
      cases known with
      | true => simp at hlt
      | false =>
        have hs : s.1 = [] := List.eq_nil_of_length_eq_zero (by simpa using hlt)
        obtain ⟨s1, s2⟩ := s
        simp only at hs
        subst hs
        exact lastS_none
    · have hk1 := halfN_pos (t - f)
      have hk2 := halfN_lt (n := t - f) (by omega)
      have pop : s.1 = [] ∨ ∃ r x, s.1 = r ++ [x] := by
        rcases List.eq_nil_or_concat s.1 with h | ⟨r, x, h⟩
        · exact .inl h
        · exact .inr ⟨r, x, by simpa using h⟩
      rw [bothS_less (by omega) (by omega)]
      by_cases h3 : m ≤ f + halfN (t - f)
      · rw [partsF_left hc (by omega) h3] at hlt
        rw [if_pos (by omega)]
        have key : (bothS (m - f) (halfN (t - f)) old known (lastS s).2).2.2.2 = true := by
          rcases pop with h0 | ⟨r, x, h0⟩
          · refine bothS_stays_bad (by omega) (by omega) ?_
            obtain ⟨s1, s2⟩ := s
            simp only at h0
            subst h0
            exact lastS_none
          · obtain ⟨s1, s2⟩ := s
            simp only at h0
            subst h0
            rw [lastS_mk]
            have := ih m f (f + halfN (t - f)) old known (r, s2) (by omega) h1 h3 (by simp only [List.length_append, List.length_cons, List.length_nil] at hlt; simp only; omega)
            have e : f + halfN (t - f) - f = halfN (t - f) := by omega
            rwa [e] at this
        simp only [nodeS, key, Bool.true_or]
      · rw [partsF_right hc (by omega) h3] at hlt
        rw [if_neg (by omega)]
        have key : (bothS (m - f - halfN (t - f)) (t - f - halfN (t - f)) old false (lastS s).2).2.2.2 = true := by
          rcases pop with h0 | ⟨r, x, h0⟩
          · refine bothS_stays_bad (by omega) (by omega) ?_
            obtain ⟨s1, s2⟩ := s
            simp only at h0
            subst h0
            exact lastS_none
          · obtain ⟨s1, s2⟩ := s
            simp only at h0
            subst h0
            rw [lastS_mk]
            have := ih m (f + halfN (t - f)) t old false (r, s2) (by omega) (by omega) h2 (by simp only [List.length_append, List.length_cons, List.length_nil] at hlt; simp only; omega)
            have e : m - (f + halfN (t - f)) = m - f - halfN (t - f) := by omega
            have e2 : t - (f + halfN (t - f)) = t - f - halfN (t - f) := by omega
            rwa [e, e2] at this
        simp only [nodeS, key, Bool.true_or]

theorem bothS_comp : ∀ (N m f t : Nat) (old : By) (known : Bool) (rest ss : List By) (x : By), t - f ≤ N → f < m → m ≤ t → ss.length = (partsF m f t known).1.length →
    match compG (List.zip ((partsF m f t known).1.reverse.map (rightG (partsF m f t known).2.1)) ss) (if (partsF m f t known).2.2 then old else x) (if (partsF m f t known).2.2 then old else x) with
    | some p => bothS (m - f) (t - f) old known (rest ++ (if (partsF m f t known).2.2 then [] else [x]) ++ ss, false) = (p.1, p.2, rest, false)
    | none => (bothS (m - f) (t - f) old known (rest ++ (if (partsF m f t known).2.2 then [] else [x]) ++ ss, false)).2.2.2 = true := by
  intro N
  induction N with
  | zero => intro m f t old known rest ss x h h1 h2; omega
  | succ N ih =>
    intro m f t old known rest ss x h h1 h2 hss
    by_cases hc : t ≤ m
    · have : m - f = t - f := by omega
      rw [partsF_end hc] at hss ⊢
      have hs0 : ss = [] := List.eq_nil_of_length_eq_zero (by simpa using hss)
      subst hs0
      rw [this, bothS_all]
      cases known with
      | true => simp [compG]
      | false => simp [compG, lastS_mk]
    · have hk1 := halfN_pos (t - f)
      have hk2 := halfN_lt (n := t - f) (by omega)
      by_cases h3 : m ≤ f + halfN (t - f)
      · have hin := partsF_in _ m f (f + halfN (t - f)) known (Nat.le_refl _) h1 h3
        rw [partsF_left hc (by omega) h3] at hss ⊢
        simp only at hss ⊢
        have hne : ss ≠ [] := by rintro rfl; simp at hss
        obtain ⟨st, y, rfl⟩ : ∃ st y, ss = st ++ [y] := ⟨ss.dropLast, ss.getLast hne, (List.dropLast_concat_getLast hne).symm⟩
        have hsl : st.length = (partsF m f (f + halfN (t - f)) known).1.length := by simpa using hss
        have IH := ih m f (f + halfN (t - f)) old known rest st x (by omega) h1 h3 hsl
        have e : f + halfN (t - f) - f = halfN (t - f) := by omega
        rw [e] at IH
        have hr : rightG (partsF m f (f + halfN (t - f)) known).2.1 (f + halfN (t - f), t) = true := by unfold rightG; simp only [decide_eq_true_eq]; exact hin.2.2.2.1
        have hz : List.zip (((f + halfN (t - f), t) :: (partsF m f (f + halfN (t - f)) known).1).reverse.map (rightG (partsF m f (f + halfN (t - f)) known).2.1)) (st ++ [y]) =
            List.zip ((partsF m f (f + halfN (t - f)) known).1.reverse.map (rightG (partsF m f (f + halfN (t - f)) known).2.1)) st ++ [(true, y)] := by
          rw [List.reverse_cons, List.map_append, List.zip_append (by simp [hsl])]
          simp [hr]
        rw [hz, compG_snoc, bothS_less (by omega) (by omega), if_pos (show m - f ≤ halfN (t - f) by omega), ← List.append_assoc, lastS_mk]
        simp only
        cases hcg : compG (List.zip ((partsF m f (f + halfN (t - f)) known).1.reverse.map (rightG (partsF m f (f + halfN (t - f)) known).2.1)) st) (if (partsF m f (f + halfN (t - f)) known).2.2 then old else x) (if (partsF m f (f + halfN (t - f)) known).2.2 then old else x) with
        | none =>
          rw [hcg] at IH
          simp only [Option.bind_none]
          simp only at IH
          simp only [nodeS, IH, Bool.true_or]
        | some p =>
          rw [hcg] at IH
          simp only at IH
          rw [IH]
          simp only [Option.bind_some, compG, if_true, nodeS, Bool.false_or]
          by_cases hn : (tNode p.2 y).2 = 0
          · simp [hn]
          · simp [hn]
      · have hin := partsF_in _ m (f + halfN (t - f)) t false (Nat.le_refl _) (by omega) h2
        rw [partsF_right hc (by omega) h3] at hss ⊢
        simp only at hss ⊢
        have hne : ss ≠ [] := by rintro rfl; simp at hss
        obtain ⟨st, y, rfl⟩ : ∃ st y, ss = st ++ [y] := ⟨ss.dropLast, ss.getLast hne, (List.dropLast_concat_getLast hne).symm⟩
        have hsl : st.length = (partsF m (f + halfN (t - f)) t false).1.length := by simpa using hss
        have IH := ih m (f + halfN (t - f)) t old false rest st x (by omega) (by omega) h2 hsl
        have e : m - (f + halfN (t - f)) = m - f - halfN (t - f) := by omega
        have e2 : t - (f + halfN (t - f)) = t - f - halfN (t - f) := by omega
        rw [e, e2] at IH
        have hr : rightG (partsF m (f + halfN (t - f)) t false).2.1 (f, f + halfN (t - f)) = false := by
          unfold rightG
          simp only [decide_eq_false_iff_not]
          have := hin.2.1
          have := hin.2.2.1
          omega
        have hz : List.zip (((f, f + halfN (t - f)) :: (partsF m (f + halfN (t - f)) t false).1).reverse.map (rightG (partsF m (f + halfN (t - f)) t false).2.1)) (st ++ [y]) =
            List.zip ((partsF m (f + halfN (t - f)) t false).1.reverse.map (rightG (partsF m (f + halfN (t - f)) t false).2.1)) st ++ [(false, y)] := by
          rw [List.reverse_cons, List.map_append, List.zip_append (by simp [hsl])]
          simp [hr]
        rw [hz, compG_snoc, bothS_less (by omega) (by omega), if_neg (show ¬ m - f ≤ halfN (t - f) by omega), ← List.append_assoc, lastS_mk]
        simp only
        cases hcg : compG (List.zip ((partsF m (f + halfN (t - f)) t false).1.reverse.map (rightG (partsF m (f + halfN (t - f)) t false).2.1)) st) (if (partsF m (f + halfN (t - f)) t false).2.2 then old else x) (if (partsF m (f + halfN (t - f)) t false).2.2 then old else x) with
        | none =>
          rw [hcg] at IH
          simp only [Option.bind_none]
          simp only at IH
          simp only [nodeS, IH, Bool.true_or]
        | some p =>
          rw [hcg] at IH
          simp only at IH
          rw [IH]
          simp only [Option.bind_some, compG, Bool.false_eq_true, if_false, nodeS, Bool.false_or]
          by_cases hn : (tNode y p.1).2 = 0 <;> by_cases hn2 : (tNode y p.2).2 = 0
          · simp [hn, hn2]
          · simp [hn, hn2]
          · simp [hn, hn2]
          · simp [hn, hn2]

/-- Do seals show that a list goes on: by spans. -/
def growRef (old : By) (m : Nat) (root : By) (n : Nat) (l : List By) : Int :=
  if l.length ≠ (partsF m 0 n true).1.length + (if (partsF m 0 n true).2.2 then 0 else 1) then 7
  else match compG (List.zip ((partsF m 0 n true).1.reverse.map (rightG (partsF m 0 n true).2.1)) (if (partsF m 0 n true).2.2 then l else l.tail)) (if (partsF m 0 n true).2.2 then old else l.headD []) (if (partsF m 0 n true).2.2 then old else l.headD []) with
    | none => 7
    | some p => if p.1 ≠ old ∨ p.2 ≠ root then 7 else 0

theorem growRef_eq {old : By} {m : Nat} {root : By} {n : Nat} {l : List By} (h1 : 1 ≤ m) (h2 : m ≤ n) (h3 : n ≤ 24) : growShows old m root n l = growRef old m root n l := by
  unfold growShows
  rw [if_neg (by omega), Int.toNat_natCast, Int.toNat_natCast]
  unfold growRef
  rcases Nat.lt_trichotomy l.length ((partsF m 0 n true).1.length + (if (partsF m 0 n true).2.2 then 0 else 1)) with hlt | heq | hgt
  · have := bothS_few n m 0 n old true (l, false) (by omega) (by omega) h2 hlt
    simp only [Nat.sub_zero] at this
    rw [if_pos (.inl this), if_pos (by omega)]
  · rw [if_neg (show ¬ l.length ≠ _ by omega)]
    cases hk : (partsF m 0 n true).2.2 with
    | true =>
      rw [hk] at heq
      have hc := bothS_comp n m 0 n old true [] l [] (by omega) (by omega) h2 (by simpa using heq)
      simp only [Nat.sub_zero, hk, if_true, List.nil_append] at hc ⊢
      split at hc
      · rename_i p hp
        rw [hp]
        simp only [hc]
        simp
      · rename_i hp
        rw [hp, if_pos (.inl hc)]
    | false =>
      rw [hk] at heq
      have hne : l ≠ [] := by rintro rfl; simp at heq
      obtain ⟨x, ss, rfl⟩ := List.exists_cons_of_ne_nil hne
      have hc := bothS_comp n m 0 n old true [] ss x (by omega) (by omega) h2 (by simpa using heq)
      simp only [Nat.sub_zero, hk, Bool.false_eq_true, if_false, List.nil_append, List.cons_append] at hc ⊢
      simp only [List.tail_cons, List.headD_cons]
      split at hc
      · rename_i p hp
        rw [hp]
        simp only [hc]
        simp
      · rename_i hp
        rw [hp, if_pos (.inl hc)]
  · rw [if_pos (show l.length ≠ _ by omega), if_pos]
    generalize hcnt : (partsF m 0 n true).1.length + (if (partsF m 0 n true).2.2 then 0 else 1) = cnt at hgt
    have hsplit : l = l.take (l.length - cnt) ++ l.drop (l.length - cnt) := (List.take_append_drop _ _).symm
    have hdl : (l.drop (l.length - cnt)).length = cnt := by simp only [List.length_drop]; omega
    have htl : l.take (l.length - cnt) ≠ [] := by
      intro e
      have := congrArg List.length e
      simp only [List.length_take, List.length_nil] at this
      omega
    have main : ∀ (x : By) (ss : List By), ss.length = (partsF m 0 n true).1.length → l = l.take (l.length - cnt) ++ (if (partsF m 0 n true).2.2 then [] else [x]) ++ ss →
        (bothS m n old true (l, false)).2.2.2 = true ∨ (bothS m n old true (l, false)).2.2.1 ≠ [] := by
      intro x ss hss hl
      have hc := bothS_comp n m 0 n old true (l.take (l.length - cnt)) ss x (by omega) (by omega) h2 hss
      rw [← hl] at hc
      simp only [Nat.sub_zero] at hc
      split at hc
      · rw [hc]; exact .inr htl
      · exact .inl hc
    have : (bothS m n old true (l, false)).2.2.2 = true ∨ (bothS m n old true (l, false)).2.2.1 ≠ [] := by
      cases hk : (partsF m 0 n true).2.2 with
      | true =>
        rw [hk] at hcnt main
        simp only [if_true, Nat.add_zero] at hcnt
        exact main [] (l.drop (l.length - cnt)) (by omega) (by simp)
      | false =>
        rw [hk] at hcnt main
        simp only [Bool.false_eq_true, if_false] at hcnt
        have hne : l.drop (l.length - cnt) ≠ [] := by intro e; rw [e] at hdl; simp at hdl; omega
        obtain ⟨x, ss, hx⟩ := List.exists_cons_of_ne_nil hne
        refine main x ss (by rw [hx, List.length_cons] at hdl; omega) ?_
        simp only [Bool.false_eq_true, if_false, List.append_assoc, List.cons_append, List.nil_append]
        rw [← hx]; exact hsplit
    rcases this with h | h
    · exact .inl h
    · exact .inr (.inl h)
end Go.Gs

namespace Go.Ab
open Go.Proofs Go.Gs
variable {G0 : Nat → Option Obj}

theorem len_S1 (l : List By) : l.length = (l.map S1).length := by rw [List.length_map]

/-- One who takes seals, in memory. -/
def blkS (nl : Bool) (s : Sh) : List (Option Blk) := [some (.var [.sl 1 nl none (s.1.map S1), .bool s.2])]

theorem good_last (nl : Bool) (s : Sh) (hb : s.1.length ≤ 1000000000000000000) : Good PG nG G0 f_greatseal_grow_shower_last [.ref 0 0] (blkS nl s) (.str (lastS s).1) (blkS nl (lastS s).2) := by
  refine good_of_run prOk (by kernel_rfl) (greatseal_grow_shower_last_run nl _ _ G0 _ ?_)
  simp only [ifK_iff, List.length_map]
  refine ⟨fun h => ?_, fun h => ?_⟩
  · have h0 : s.1 = [] := List.eq_nil_of_length_eq_zero (by simpa using h)
    have : lastS s = ([], [], true) := by unfold lastS; rw [if_pos h0, h0]
    rw [this, h0]; exact ⟨rfl, rfl⟩
  · have h0 : s.1 ≠ [] := by intro e; rw [e] at h; simp at h
    have hpos : 0 < s.1.length := List.length_pos_iff.2 h0
    have hw : IntKind.i64.wrap ((s.1.length : Int) - 1) = ((s.1.length - 1 : Nat) : Int) := by rw [wrap64 (by omega) (by omega)]; omega
    have hl : lastS s = (s.1.getLastD [], s.1.dropLast, s.2) := by unfold lastS; rw [if_neg h0]
    rw [hw, Int.toNat_natCast, hl]
    have hg : (s.1.map S1)[s.1.length - 1]? = some [.str (s.1.getLastD [])] := by
      rw [List.getElem?_map, ← List.getLast?_eq_getElem?, List.getLastD_eq_getLast?, List.getLast?_eq_some_getLast h0]; rfl
    have hd : List.drop 0 (List.take (s.1.length - 1) (s.1.map S1)) = s.1.dropLast.map S1 := by
      rw [List.drop_zero, List.dropLast_eq_take, List.map_take]
    refine ⟨by omega, _, hg, by omega, by omega, by omega, rfl, ?_⟩
    rw [hd]; rfl

theorem good_node (hG : GlobOk G0) (nl : Bool) (s : Sh) (a b : By) : Good PG nG G0 f_greatseal_grow_shower_node [.ref 0 0, .str a, .str b] (blkS nl s) (.str (nodeS a b s).1) (blkS nl (nodeS a b s).2) := by
  refine good_of_run prOk (by kernel_rfl) (greatseal_grow_shower_node_run nl _ _ a b G0 _ ⟨_, _, good_Node hG a b, ?_⟩)
  simp only [ifK_iff]
  obtain ⟨s1, s2⟩ := s
  refine ⟨fun h => ⟨rfl, ?_⟩, fun h => ⟨rfl, ?_⟩⟩
  · simp only at h
    simp [nodeS, blkS, h]
  · simp only at h
    simp [nodeS, blkS, h]

theorem lastS_len (s : Sh) : (lastS s).2.1.length ≤ s.1.length := by
  unfold lastS
  split
  · exact Nat.le_refl _
  · simp

theorem bothS_len : ∀ (N m n : Nat) (old : By) (known : Bool) (s : Sh), n ≤ N → (bothS m n old known s).2.2.1.length ≤ s.1.length := by
  intro N
  induction N with
  | zero =>
    intro m n old known s h
    rw [bothS, dif_pos (by omega)]
    split
    · exact Nat.le_refl _
    · exact lastS_len s
  | succ N ih =>
    intro m n old known s h
    by_cases hc : n ≤ m ∨ n ≤ 1
    · rw [bothS, dif_pos hc]
      split
      · exact Nat.le_refl _
      · exact lastS_len s
    · have hk1 := halfN_pos n
      have hk2 := halfN_lt (n := n) (by omega)
      rw [bothS, dif_neg hc]
      split
      · exact Nat.le_trans (ih m (halfN n) old known (lastS s).2 (by omega)) (lastS_len s)
      · exact Nat.le_trans (ih (m - halfN n) (n - halfN n) old false (lastS s).2 (by omega)) (lastS_len s)

theorem good_both (hG : GlobOk G0) : ∀ (N m n : Nat) (old : By) (known : Bool) (nl : Bool) (s : Sh), n ≤ N → 1 ≤ m → m ≤ n → n ≤ 24 → s.1.length ≤ 1000000000000000000 →
    Good PG nG G0 f_greatseal_grow_shower_both [.ref 0 0, .int .i64 m, .int .i64 n, .str old, .bool known] (blkS nl s) (.tup [.str (bothS m n old known s).1, .str (bothS m n old known s).2.1]) (blkS nl (bothS m n old known s).2.2) := by
  intro N
  induction N with
  | zero => intro m n old known nl s h h1 h2; omega
  | succ N ih =>
    intro m n old known nl s hN h1 h2 h24 hb
    refine good_of_run prOk (by kernel_rfl) (greatseal_grow_shower_both_run nl _ _ m n old known G0 _ ?_)
    simp only [ifK_iff, beq_iff_eq, beq_eq_false_iff_ne, decide_eq_true_eq, decide_eq_false_iff_not]
    refine ⟨fun h => ?_, fun h => ?_⟩
    · obtain rfl : m = n := by omega
      rw [bothS_all]
      refine ⟨fun hk => ?_, fun hk => ⟨_, _, _, _, good_last nl s hb, ?_⟩⟩
      · rw [if_pos hk]; exact ⟨rfl, rfl⟩
      · rw [if_neg (by simp [hk])]; exact ⟨rfl, rfl⟩
    · have hk1 := halfN_pos n
      have hk2 := halfN_lt (n := n) (by omega)
      have hls := lastS_len s
      rw [bothS_less h1 (by omega)]
      refine ⟨_, _, good_Half' n (by omega) h24, _, _, _, _, good_last nl s hb, fun hc => ?_, fun hc => ?_⟩
      · rw [if_pos (by omega)]
        have := bothS_len n m (halfN n) old known (lastS s).2 (by omega)
        exact ⟨_, _, _, _, _, ih m (halfN n) old known nl (lastS s).2 (by omega) h1 (by omega) (by omega) (by omega), _, _, _, _, good_node hG nl _ _ _, rfl, rfl⟩
      · rw [if_neg (by omega)]
        have w1 : IntKind.i64.wrap ((m : Int) - (halfN n : Nat)) = ((m - halfN n : Nat) : Int) := by rw [wrap64 (by omega) (by omega)]; omega
        have w2 : IntKind.i64.wrap ((n : Int) - (halfN n : Nat)) = ((n - halfN n : Nat) : Int) := by rw [wrap64 (by omega) (by omega)]; omega
        rw [w1, w2]
        exact ⟨_, _, _, _, _, ih (m - halfN n) (n - halfN n) old false nl (lastS s).2 (by omega) (by omega) (by omega) (by omega) (by omega), _, _, _, _, good_node hG nl _ _ _, _, _, _, _, good_node hG nl _ _ _, rfl, rfl⟩

theorem good_growShows (hG : GlobOk G0) (old : By) (m : Int) (root : By) (n : Int) (nl : Bool) (l : List By) (hb : l.length ≤ 1000000000000000000) :
    Good PG nG G0 f_grow_Shows [.str old, .int .i64 m, .str root, .int .i64 n, .sl 1 nl none (l.map S1)] [] (.int .i64 (growShows old m root n l)) [] := by
  refine good_of_run prOk (by kernel_rfl) (grow_Shows_run old m root n nl _ G0 _ ?_)
  simp only [ifK_iff, decide_eq_true_eq, decide_eq_false_iff_not]
  refine ⟨fun h => ?_, fun h1 => ⟨fun h => ?_, fun h2 => ⟨fun h => ?_, fun h3 => ?_⟩⟩⟩
  · rw [growShows, if_pos (by omega)]; exact ⟨rfl, trivial⟩
  · rw [growShows, if_pos (by omega)]; exact ⟨rfl, trivial⟩
  · rw [growShows, if_pos (by omega)]; exact ⟨rfl, trivial⟩
  · obtain ⟨a, rfl⟩ := Int.eq_ofNat_of_zero_le (show 0 ≤ m by omega)
    obtain ⟨b, rfl⟩ := Int.eq_ofNat_of_zero_le (show 0 ≤ n by omega)
    have g := good_both (G0 := G0) hG b a b old true nl (l, false) (Nat.le_refl _) (by omega) (by omega) (by omega) hb
    refine ⟨_, _, _, _, _, g, ?_⟩
    rw [growShows, if_neg (by omega), Int.toNat_natCast, Int.toNat_natCast, List.length_map]
    refine ⟨fun h => ?_, fun h4 => ⟨fun h => ?_, fun h5 => ⟨fun h => ?_, fun h6 => ⟨fun h => ?_, fun h7 => ?_⟩⟩⟩⟩
    · rw [if_pos (.inl h)]; exact ⟨rfl, trivial⟩
    · rw [if_pos (.inr (.inl (by intro e; rw [e] at h; simp at h)))]; exact ⟨rfl, trivial⟩
    · rw [if_pos (.inr (.inr (.inl (by simpa using h))))]; exact ⟨rfl, trivial⟩
    · rw [if_pos (.inr (.inr (.inr (by simpa using h))))]; exact ⟨rfl, trivial⟩
    · rw [if_neg]
      · exact ⟨rfl, trivial⟩
      · simp only [not_or, ne_eq, Decidable.not_not]
        exact ⟨by simp [h4], List.eq_nil_of_length_eq_zero (by omega), by simpa using h6, by simpa using h7⟩

theorem growOf_len : ∀ (N : Nat) (l : List By) (m : Nat) (known : Bool), l.length ≤ N → (growOf l m known).length ≤ l.length + 1 := by
  intro N
  induction N with
  | zero =>
    intro l m known h
    rw [growOf, dif_pos (by omega)]
    split <;> simp
  | succ N ih =>
    intro l m known h
    by_cases hc : l.length ≤ m ∨ l.length ≤ 1
    · rw [growOf, dif_pos hc]
      split <;> simp
    · have hk1 := halfN_pos l.length
      have hk2 := halfN_lt (n := l.length) (by omega)
      rw [growOf, dif_neg hc]
      split
      · have := ih (l.take (halfN l.length)) m known (by simp only [List.length_take]; omega)
        simp only [List.length_append, List.length_take, List.length_cons, List.length_nil] at this ⊢; omega
      · have := ih (l.drop (halfN l.length)) (m - halfN l.length) false (by simp only [List.length_drop]; omega)
        simp only [List.length_append, List.length_drop, List.length_cons, List.length_nil] at this ⊢; omega

theorem good_growof (hG : GlobOk G0) : ∀ (N : Nat) (l : List By) (nl : Bool) (m : Nat) (known : Bool), l.length ≤ N → l.length ≤ 24 → (tRoot l).2 = 0 → 1 ≤ m → m ≤ l.length →
    Good PG nG G0 f_grow_of [.sl 1 nl none (l.map S1), .int .i64 m, .bool known] [] (.tup [.sl 1 (growOf l m known).isEmpty (some 0) ((growOf l m known).map S1), .int .i64 0]) [some (.grow 1 (growOf l m known).length)] := by
  intro N
  induction N with
  | zero => intro l nl m known h1 h2 h3 h4 h5; omega
  | succ N ih =>
    intro l nl m known hN h24 hr h1 hm
    refine good_of_run prOk (by kernel_rfl) (grow_of_run nl _ m known G0 _ ?_)
    simp only [ifK_iff, beq_iff_eq, beq_eq_false_iff_ne, decide_eq_true_eq, decide_eq_false_iff_not, List.length_map, bne_iff_ne, ne_eq, bne_eq_false_iff_eq]
    have gl := good_Root' (G0 := G0) hG l nl
    rw [show rootOf l = tRoot l by rw [rootOf, if_neg (by omega)], hr] at gl
    refine ⟨fun h => ⟨fun hk => ?_, fun hk => ⟨_, _, gl, ?_⟩⟩, fun h => ?_⟩
    · obtain rfl : m = l.length := by omega
      rw [growOf_all, if_pos hk]; exact ⟨rfl, rfl⟩
    · obtain rfl : m = l.length := by omega
      rw [growOf_all, if_neg (by simp [hk])]; exact ⟨rfl, rfl⟩
    · have h2 : 2 ≤ l.length := by omega
      have hk1 := halfN_pos l.length
      have hk2 := halfN_lt h2
      obtain ⟨r1, r2, _⟩ := tRoot_split hr h2
      have lt1 : (l.take (halfN l.length)).length = halfN l.length := by simp only [List.length_take]; omega
      have ld1 : (l.drop (halfN l.length)).length = l.length - halfN l.length := by simp only [List.length_drop]
      have e1 : List.drop 0 (List.take (Int.toNat (halfN l.length : Int)) (l.map S1)) = (l.take (halfN l.length)).map S1 := by simp
      have e2 : List.drop (Int.toNat (halfN l.length : Int)) (List.take (Int.toNat (l.length : Int)) (l.map S1)) = (l.drop (halfN l.length)).map S1 := by
        simp [List.take_of_length_le]
      have q1 : rootOf (l.take (halfN l.length)) = tRoot (l.take (halfN l.length)) := by rw [rootOf, if_neg (by omega)]
      have q2 : rootOf (l.drop (halfN l.length)) = tRoot (l.drop (halfN l.length)) := by rw [rootOf, if_neg (by omega)]
      have g1 := good_Root' (G0 := G0) hG (l.take (halfN l.length)) nl
      have g2 := good_Root' (G0 := G0) hG (l.drop (halfN l.length)) nl
      rw [q1, r1] at g1
      rw [q2, r2] at g2
      refine ⟨_, _, good_Half' l.length h2 h24, by omega, by omega, by omega, by omega, by omega, by omega, fun hc => ?_, fun hc => ?_⟩
      · have w1 : IntKind.i64.wrap ((m : Int) - (halfN l.length : Nat)) = ((m - halfN l.length : Nat) : Int) := by rw [wrap64 (by omega) (by omega)]; omega
        rw [w1, e1, e2]
        have := ih (l.drop (halfN l.length)) nl (m - halfN l.length) false (by omega) (by omega) r2 (by omega) (by omega)
        rw [len_S1 (growOf (l.drop (halfN l.length)) (m - halfN l.length) false)] at this
        refine ⟨_, _, _, this, fun h => absurd rfl h, fun _ => ⟨_, _, g1, fun h => absurd rfl h, fun _ => ⟨?_, trivial, ?_⟩⟩⟩
        · have := growOf_len _ (l.drop (halfN l.length)) (m - halfN l.length) false (Nat.le_refl _)
          simp only [List.length_map, List.length_cons, List.length_nil]; omega
        · rw [growOf_less (l := l) (m := m) h1 (by omega), if_neg (by omega)]
          simp [S1]
      · rw [e1, e2]
        have := ih (l.take (halfN l.length)) nl m known (by omega) (by omega) r1 h1 (by omega)
        rw [len_S1 (growOf (l.take (halfN l.length)) m known)] at this
        refine ⟨_, _, _, this, fun h => absurd rfl h, fun _ => ⟨_, _, g2, fun h => absurd rfl h, fun _ => ⟨?_, trivial, ?_⟩⟩⟩
        · have := growOf_len _ (l.take (halfN l.length)) m known (Nat.le_refl _)
          simp only [List.length_map, List.length_cons, List.length_nil]; omega
        · rw [growOf_less (l := l) (m := m) h1 (by omega), if_pos (by omega)]
          simp [S1]

/-- Seals that show growth, or what is wrong. -/
def growR (l : List By) (m : Int) : List By × Int := if (rootOf l).2 ≠ 0 then ([], (rootOf l).2) else if m < 1 ∨ l.length < m then ([], 3) else (growOf l m.toNat true, 0)

theorem good_growOf (hG : GlobOk G0) (l : List By) (nl : Bool) (m : Int) :
    Good PG nG G0 f_grow_Of [.sl 1 nl none (l.map S1), .int .i64 m] [] (.tup [.sl 1 (growR l m).1.isEmpty none ((growR l m).1.map S1), .int .i64 (growR l m).2]) [] := by
  refine good_of_run prOk (by kernel_rfl) (grow_Of_run nl _ m G0 _ ⟨_, _, good_Root' hG l nl, ?_⟩)
  simp only [ifK_iff, decide_eq_true_eq, decide_eq_false_iff_not, List.length_map, bne_iff_ne, ne_eq, bne_eq_false_iff_eq]
  refine ⟨fun h => ?_, fun h => ⟨fun h2 => ?_, fun h2 => ⟨fun h3 => ?_, fun h3 => ?_⟩⟩⟩
  · rw [growR, if_pos h]; exact ⟨rfl, trivial⟩
  · rw [growR, if_neg (by simpa using h), if_pos (.inl h2)]; exact ⟨rfl, trivial⟩
  · rw [growR, if_neg (by simpa using h), if_pos (.inr (by omega))]; exact ⟨rfl, trivial⟩
  · rw [growR, if_neg (by simpa using h), if_neg (by omega)]
    obtain ⟨k, rfl⟩ := Int.eq_ofNat_of_zero_le (show 0 ≤ m by omega)
    rw [Int.toNat_natCast]
    obtain ⟨a, b⟩ := rootOf_ok' h
    rw [b] at h
    have := good_growof hG _ l nl k true (Nat.le_refl _) a h (by omega) (by omega)
    rw [len_S1 (growOf l k true)] at this
    exact ⟨_, _, _, this, rfl, trivial⟩
end Go.Ab

namespace Go.Ab
open Go.Proofs Go.Gs
variable {G0 : Nat → Option Obj}

theorem good_parts0 (m n : Nat) (h1 : 1 ≤ m) (h2 : m ≤ n) (hn : n ≤ 1000) : Good PG nG G0 f_greatsealref_parts [.int .i64 m, .int .i64 n] []
    (.tup [.sl 2 (partsF m 0 n true).1.isEmpty (some 0) ((partsF m 0 n true).1.map P2), .agg [.int .i64 (partsF m 0 n true).2.1.1, .int .i64 (partsF m 0 n true).2.1.2], .bool (partsF m 0 n true).2.2]) [some (.grow 2 (partsF m 0 n true).1.length)] := by
  refine good_of_run prOk (by kernel_rfl) (greatsealref_parts_run m n G0 _ ?_)
  suffices main : ∀ R : AV → List (Option Blk) → Prop, R (.tup [.sl 2 (partsF m 0 n true).1.isEmpty (some 0) ((partsF m 0 n true).1.map P2), .agg [.int .i64 (partsF m 0 n true).2.1.1, .int .i64 (partsF m 0 n true).2.1.2], .bool (partsF m 0 n true).2.2]) [some (.grow 2 (partsF m 0 n true).1.length)] →
      ∀ (N f t : Nat) (known : Bool) (acc : List (Nat × Nat)), t - f ≤ N → f < m → m ≤ t → t ≤ n → acc ++ (partsF m f t known).1 = (partsF m 0 n true).1 → (partsF m f t known).2 = (partsF m 0 n true).2 →
      Does PG nG G0 (fnOf PG f_greatsealref_parts) 0 (lp PG f_greatsealref_parts 0) (mkT 42 [(0, .int .i64 m), (4, .sl 2 acc.isEmpty (some 0) (acc.map P2)), (5, .ref 1 0), (6, .bool known), (7, .int .i64 f), (8, .int .i64 t)])
        [some (.grow 2 acc.length), some (.var [.int .i64 0, .int .i64 0])] R from
    main _ ⟨rfl, rfl⟩ n 0 n true [] (by omega) (by omega) h2 (Nat.le_refl _) rfl rfl
  intro R hR N
  induction N with
  | zero => intro f t known acc g1 g2 g3; omega
  | succ N ih =>
    intro f t known acc g1 g2 g3 g4 g5 g6
    refine does_of_run prOk (greatsealref_parts_l0_run G0 _ _ _ _ _ _ _ _ _ R ?_)
    simp only [ifK_iff, decide_eq_true_eq, decide_eq_false_iff_not, List.length_map]
    by_cases hc : t ≤ m
    · rw [partsF_end hc] at g5 g6
      rw [← g5, ← g6, List.append_nil] at hR
      exact ⟨fun h => absurd h (by omega), fun _ => hR⟩
    · have hk1 := halfN_pos (t - f)
      have hk2 := halfN_lt (n := t - f) (by omega)
      have hfull := (partsF_in n m 0 n true (by omega) (by omega) h2).2.2.2.2
      have hlen := congrArg List.length g5
      rw [List.length_append] at hlen
      have w1 : IntKind.i64.wrap ((t : Int) - f) = ((t - f : Nat) : Int) := by rw [wrap64 (by omega) (by omega)]; omega
      have w2 : IntKind.i64.wrap ((f : Int) + (halfN (t - f) : Nat)) = ((f + halfN (t - f) : Nat) : Int) := by rw [wrap64 (by omega) (by omega)]; omega
      have gh := good_HalfOf (G0 := G0) ((t - f : Nat) : Int) (by omega)
      rw [Int.toNat_natCast] at gh
      have nxt : ∀ (p : Nat × Nat) f' t' k', t' - f' ≤ N → f' < m → m ≤ t' → t' ≤ n → (acc ++ [p]) ++ (partsF m f' t' k').1 = (partsF m 0 n true).1 → (partsF m f' t' k').2 = (partsF m 0 n true).2 →
          (acc.length + List.length [P2 p]) * 16 ≤ 140737488355328 ∧ True ∧
          Does PG nG G0 (fnOf PG f_greatsealref_parts) 0 (lp PG f_greatsealref_parts 0)
            (mkT 42 [(0, .int .i64 m), (4, .sl 2 (acc.isEmpty && List.isEmpty [P2 p]) (some 0) (acc.map P2 ++ [P2 p])), (5, .ref 1 0), (6, .bool k'), (7, .int .i64 f'), (8, .int .i64 t')])
            [some (.grow 2 (acc.length + List.length [P2 p])), some (.var [.int .i64 0, .int .i64 0])] R := by
        intro p f' t' k' q1 q2 q3 q4 q5 q6
        have := ih f' t' k' (acc ++ [p]) q1 q2 q3 q4 q5 q6
        have e2 : (acc ++ [p]).isEmpty = (acc.isEmpty && List.isEmpty [P2 p]) := by cases acc <;> rfl
        rw [List.map_append, e2, List.length_append] at this
        refine ⟨?_, trivial, this⟩
        simp only [List.length_cons, List.length_nil]; omega
      refine ⟨fun _ => ⟨_, by rw [w1]; exact gh, ?_⟩, fun h => absurd (show (m : Int) < t by omega) h⟩
      rw [w2]
      refine ⟨fun h3 => ?_, fun h3 => ?_⟩
      · rw [partsF_left hc (by omega) (by omega)] at g5 g6
        exact nxt (f + halfN (t - f), t) f (f + halfN (t - f)) known (by omega) g2 (by omega) (by omega) (by rw [← g5]; simp) g6
      · rw [partsF_right hc (by omega) (by omega)] at g5 g6
        exact nxt (f, f + halfN (t - f)) (f + halfN (t - f)) t false (by omega) (by omega) g3 g4 (by rw [← g5]; simp) g6

theorem good_parts_nil (m n : Nat) (h1 : 1 ≤ m) (h2 : m ≤ n) (hn : n ≤ 1000) (he : (partsF m 0 n true).1 = []) : Good PG nG G0 f_greatsealref_parts [.int .i64 m, .int .i64 n] []
    (.tup [.sl 2 true none [], .agg [.int .i64 (partsF m 0 n true).2.1.1, .int .i64 (partsF m 0 n true).2.1.2], .bool (partsF m 0 n true).2.2]) [] := by
  have := (good_parts0 (G0 := G0) m n h1 h2 hn).out
  rw [he] at this
  exact this

theorem good_parts_arr (m n : Nat) (h1 : 1 ≤ m) (h2 : m ≤ n) (hn : n ≤ 1000) (he : (partsF m 0 n true).1.isEmpty = false) : Good PG nG G0 f_greatsealref_parts [.int .i64 m, .int .i64 n] []
    (.tup [.rsl 2 0 0 ((partsF m 0 n true).1.map P2).length, .agg [.int .i64 (partsF m 0 n true).2.1.1, .int .i64 (partsF m 0 n true).2.1.2], .bool (partsF m 0 n true).2.2]) [some (.arr 2 ((partsF m 0 n true).1.map P2))] := by
  refine Good.thawT (plain_P2 _) (fun y hy => ?_) ?_
  · simp at hy
    rcases hy with rfl | rfl <;> rfl
  · have := good_parts0 (G0 := G0) m n h1 h2 hn
    rw [he] at this
    rw [List.length_map]
    exact this

theorem growO_loop (hG : GlobOk G0) (l : List By) (nl : Bool) (hl : l.length ≤ 24) (rs : List (Nat × Nat)) (nr : Bool) (hr : rs.length ≤ 24) (hrs : ∀ p ∈ rs, p.1 ≤ p.2 ∧ p.2 ≤ l.length) {R : AV → List (Option Blk) → Prop} (pre : List By) (hpre : pre.length ≤ 1)
    (hR : R (.tup [.sl 1 (pre ++ rs.map fun p => (tRoot (sub l p.1 p.2)).1).isEmpty none ((pre ++ rs.map fun p => (tRoot (sub l p.1 p.2)).1).map S1), .int .i64 0]) []) :
    ∀ (d k : Nat), rs.length - k ≤ d → k ≤ rs.length → Does PG nG G0 (fnOf PG f_greatsealref_GrowthOf) 0 (lp PG f_greatsealref_GrowthOf 0)
      (mkT 79 [(0, .sl 1 nl none (l.map S1)), (11, .sl 1 (pre.length + k == 0) (some 0) ((pre ++ (rs.take k).map fun p => (tRoot (sub l p.1 p.2)).1).map S1)), (57, .sl 2 nr none (rs.map P2)), (58, .int .i64 rs.length), (59, .int .i64 k)]) [some (.grow 1 (pre.length + k))] R := by
  intro d
  have last : ∀ k : Nat, k = rs.length → Does PG nG G0 (fnOf PG f_greatsealref_GrowthOf) 0 (lp PG f_greatsealref_GrowthOf 0)
      (mkT 79 [(0, .sl 1 nl none (l.map S1)), (11, .sl 1 (pre.length + k == 0) (some 0) ((pre ++ (rs.take k).map fun p => (tRoot (sub l p.1 p.2)).1).map S1)), (57, .sl 2 nr none (rs.map P2)), (58, .int .i64 rs.length), (59, .int .i64 k)]) [some (.grow 1 (pre.length + k))] R := by
    intro k hk
    subst hk
    refine does_of_run prOk (greatsealref_GrowthOf_l0_run G0 _ _ _ _ _ _ _ _ _ R ?_)
    simp only [ifK_iff, decide_eq_true_eq, decide_eq_false_iff_not]
    refine ⟨fun h => absurd h (by omega), fun _ => ?_⟩
    have e : (pre.length + rs.length == 0) = (pre ++ rs.map fun p => (tRoot (sub l p.1 p.2)).1).isEmpty := by cases pre <;> cases rs <;> rfl
    rw [List.take_length, e]; exact hR
  induction d with
  | zero => intro k h1 h2; exact last k (by omega)
  | succ d ih =>
    intro k h1 h2
    by_cases hk : k = rs.length
    · exact last k hk
    · have hkl : k < rs.length := by omega
      obtain ⟨b1, b2⟩ := hrs rs[k] (List.getElem_mem hkl)
      have g := good_RootOf (G0 := G0) hG (sub l rs[k].1 rs[k].2) nl
      have hsl := sub_len (l := l) (f := rs[k].1) (t := rs[k].2) b2
      rw [rootOf, if_neg (by omega)] at g
      have hlen : ((pre ++ (rs.take k).map fun p => (tRoot (sub l p.1 p.2)).1).map S1).length = pre.length + k := by simp; omega
      refine does_of_run prOk (greatsealref_GrowthOf_l0_run G0 _ _ _ _ _ _ _ _ _ R ?_)
      simp only [ifK_iff, decide_eq_true_eq, decide_eq_false_iff_not, Int.toNat_natCast]
      rw [wrapI (by omega) (by omega)]
      have := ih (k + 1) (by omega) (by omega)
      have e5 : (pre ++ (rs.take (k + 1)).map fun p => (tRoot (sub l p.1 p.2)).1) = (pre ++ (rs.take k).map fun p => (tRoot (sub l p.1 p.2)).1) ++ [(tRoot (sub l rs[k].1 rs[k].2)).1] := by
        rw [List.take_succ_eq_append_getElem hkl, List.map_append, List.append_assoc]; rfl
      have e0 : (pre.length + (k + 1) == 0) = false := rfl
      rw [e5, List.map_append, e0] at this
      refine ⟨fun _ => ⟨by omega, _, _, getX hkl, by omega, by omega, by omega, by omega, by omega, by omega, by simp; omega, _, _, by rw [Int.toNat_natCast, Int.toNat_natCast, sub_map]; exact g, by rw [hlen]; simp; omega, hlen, ?_⟩, fun h => absurd (show (k : Int) < rs.length by omega) h⟩
      simp only [List.isEmpty_cons, Bool.and_false]
      exact this

theorem good_GrowthOf (hG : GlobOk G0) (l : List By) (nl : Bool) (m : Int) :
    Good PG nG G0 f_greatsealref_GrowthOf [.sl 1 nl none (l.map S1), .int .i64 m] [] (.tup [.sl 1 (growR l m).1.isEmpty none ((growR l m).1.map S1), .int .i64 (growR l m).2]) [] := by
  refine good_of_run prOk (by kernel_rfl) (greatsealref_GrowthOf_run nl _ m G0 _ ⟨_, _, good_RootOf hG l nl, ?_⟩)
  simp only [ifK_iff, List.length_map, bne_iff_ne, ne_eq, bne_eq_false_iff_eq, Bool.not_eq_true', Bool.not_eq_false']
  refine ⟨fun h => ?_, fun h => ⟨_, good_in m 1 _, ?_⟩⟩
  · rw [growR, if_pos h]; exact ⟨rfl, trivial⟩
  simp only [decide_eq_true_eq, decide_eq_false_iff_not]
  refine ⟨fun h2 => ?_, fun h2 => ?_⟩
  · rw [growR, if_neg (by simpa using h), if_pos (by omega)]; exact ⟨rfl, trivial⟩
  · obtain ⟨k, rfl⟩ := Int.eq_ofNat_of_zero_le (show 0 ≤ m by omega)
    have hpr : growR l k = (growOf l k true, 0) := by rw [growR, if_neg (by simpa using h), if_neg (by omega), Int.toNat_natCast]
    rw [hpr]
    obtain ⟨a, b⟩ := rootOf_ok' h
    have hgp := parts_grow l l.length k 0 l.length true (by omega) (by omega) (by omega) (Nat.le_refl _)
    rw [sub_all, Nat.sub_zero] at hgp
    have hin := partsF_in l.length k 0 l.length true (by omega) (by omega) (by omega)
    generalize hpp : partsF k 0 l.length true = pp at hgp hin
    obtain ⟨bs, ⟨la, lb⟩, kn⟩ := pp
    simp only at hgp hin
    have g0 := fun he => good_parts_nil (G0 := G0) k l.length (by omega) (by omega) (by omega) he
    have g1 := fun he => good_parts_arr (G0 := G0) k l.length (by omega) (by omega) (by omega) he
    rw [hpp] at g0 g1
    simp only at g0 g1
    have main := fun pre hpre hR => growO_loop (G0 := G0) hG l nl a bs.reverse bs.isEmpty (by rw [List.length_reverse]; omega) (fun p hp => by have := hin.1 p (by simpa using hp); omega)
      (R := fun r' H'' => r' = .tup [.sl 1 (growOf l k true).isEmpty none ((growOf l k true).map S1), .int .i64 0] ∧ H'' = []) pre hpre hR bs.reverse.length 0 (by omega) (Nat.zero_le _)
    have gl := good_RootOf (G0 := G0) hG (sub l la lb) nl
    have hsl := sub_len (l := l) (f := la) (t := lb) hin.2.2.2.1
    rw [rootOf, if_neg (by omega)] at gl
    have mk := main [] (by simp)
    have mx := main [(tRoot (sub l la lb)).1] (by simp)
    cases kn with
    | true =>
      simp only [if_true, List.nil_append] at hgp
      have mk := mk ⟨by rw [List.nil_append, hgp], rfl⟩
      simp only [List.take_zero, List.map_nil, List.nil_append, List.length_nil, Nat.zero_add, List.length_reverse] at mk
      cases hb : bs with
      | nil =>
        subst hb
        exact ⟨true, [], _, _, _, fun _ => ⟨g0 rfl, fun h => (by cases h), fun _ => ⟨good_Reverse_nil, mk⟩⟩, fun h => (by cases h)⟩
      | cons x r =>
        have he : bs.isEmpty = false := by rw [hb]; rfl
        rw [he] at mk
        refine ⟨false, bs.map P2, _, _, _, fun h => (by cases h), fun _ => ⟨g1 he, fun h => (by cases h), fun _ => ⟨_, good_Reverse bs (by omega), ?_⟩⟩⟩
        have e : List.take ((bs.map P2).length) (List.drop 0 (bs.reverse.map P2)) = bs.reverse.map P2 := by
          rw [List.drop_zero, List.take_of_length_le (by simp)]
        rw [e, List.length_map, List.length_reverse]
        exact mk
    | false =>
      simp only [Bool.false_eq_true, if_false] at hgp
      have mx := mx ⟨by rw [hgp], rfl⟩
      simp only [List.take_zero, List.map_nil, List.append_nil, List.length_cons, List.length_nil, Nat.zero_add, Nat.add_zero, List.length_reverse] at mx
      cases hb : bs with
      | nil =>
        subst hb
        exact ⟨true, [], _, _, _, fun _ => ⟨g0 rfl, fun _ => ⟨by omega, by omega, by omega, by omega, by omega, by omega, by simp; omega, _, _, by rw [Int.toNat_natCast, Int.toNat_natCast, sub_map]; exact gl, by simp, good_Reverse_nil, mx⟩, fun h => (by cases h)⟩, fun h => (by cases h)⟩
      | cons x r =>
        have he : bs.isEmpty = false := by rw [hb]; rfl
        rw [he] at mx
        refine ⟨false, bs.map P2, _, _, _, fun h => (by cases h), fun _ => ⟨g1 he, fun _ => ⟨by omega, by omega, by omega, by omega, by omega, by omega, by simp; omega, _, _, by rw [Int.toNat_natCast, Int.toNat_natCast, sub_map]; exact gl, by simp, _, good_Reverse bs (by omega), ?_⟩, fun h => (by cases h)⟩⟩
        have e : List.take ((bs.map P2).length) (List.drop 0 (bs.reverse.map P2)) = bs.reverse.map P2 := by
          rw [List.drop_zero, List.take_of_length_le (by simp)]
        rw [e, List.length_map, List.length_reverse]
        exact mx
end Go.Ab

namespace Go.Ab
open Go.Proofs Go.Gs
variable {G0 : Nat → Option Obj}

/-- What both seals come to, held against what they should be. -/
def finG (old root : By) (r : Option (By × By)) : Int := match r with
  | none => 7
  | some p => if p.1 ≠ old ∨ p.2 ≠ root then 7 else 0

theorem growQ_loop (hG : GlobOk G0) (old root : By) (la : Nat) (lb : Nat) (ss : List By) (nl : Bool) (hss : ∀ s ∈ ss, s.length ≤ 4611686018427387903) (rs : List (Nat × Nat)) (nr : Bool) (hrs : rs.length ≤ 1000) (hl : ss.length = rs.length) {R : AV → List (Option Blk) → Prop} :
    ∀ (d k : Nat) (a b : By), rs.length - k ≤ d → k ≤ rs.length → a.length ≤ 4611686018427387903 → b.length ≤ 4611686018427387903 → R (.int .i64 (finG old root (compG (List.zip ((rs.map (rightG (la, lb))).drop k) (ss.drop k)) a b))) [] →
      Does PG nG G0 (fnOf PG f_greatsealref_GrowthShows) 0 (lp PG f_greatsealref_GrowthShows 0)
        (mkT 113 [(0, .str old), (2, .str root), (4, .sl 1 nl none (ss.map S1)), (12, .ref 0 0), (15, .str a), (16, .str b), (59, .sl 2 nr none (rs.map P2)), (60, .int .i64 rs.length), (61, .int .i64 k)]) [some (.var [.int .i64 la, .int .i64 lb])] R := by
  intro d
  have last : ∀ (k : Nat) (a b : By), k = rs.length → R (.int .i64 (finG old root (compG (List.zip ((rs.map (rightG (la, lb))).drop k) (ss.drop k)) a b))) [] →
      Does PG nG G0 (fnOf PG f_greatsealref_GrowthShows) 0 (lp PG f_greatsealref_GrowthShows 0)
        (mkT 113 [(0, .str old), (2, .str root), (4, .sl 1 nl none (ss.map S1)), (12, .ref 0 0), (15, .str a), (16, .str b), (59, .sl 2 nr none (rs.map P2)), (60, .int .i64 rs.length), (61, .int .i64 k)]) [some (.var [.int .i64 la, .int .i64 lb])] R := by
    intro k a b hk hR
    refine does_of_run prOk (greatsealref_GrowthShows_l0_run G0 _ _ _ _ _ _ _ _ _ _ _ _ R ?_)
    simp only [ifK_iff, decide_eq_true_eq, decide_eq_false_iff_not]
    have hcl : List.zip ((rs.map (rightG (la, lb))).drop k) (ss.drop k) = [] := by
      rw [List.drop_eq_nil_of_le (show (rs.map (rightG (la, lb))).length ≤ k by simp; omega)]; rfl
    rw [hcl] at hR
    have hR : R (.int .i64 (if a ≠ old ∨ b ≠ root then 7 else 0)) [] := hR
    refine ⟨fun h => absurd h (by omega), fun _ => ⟨fun h => ?_, fun h => ⟨fun h2 => ?_, fun h2 => ?_⟩⟩⟩
    · rw [if_pos (.inl (by simpa using h))] at hR; exact hR
    · rw [if_pos (.inr (by simpa using h2))] at hR; exact hR
    · rw [if_neg] at hR
      · exact hR
      · have h : a = old := by simpa using h
        have h2 : b = root := by simpa using h2
        simp [h, h2]
  induction d with
  | zero => intro k a b h1 h2 _ _ hR; exact last k a b (by omega) hR
  | succ d ih =>
    intro k a b h1 h2 ha hb hR
    by_cases hk : k = rs.length
    · exact last k a b hk hR
    · have hkr : k < rs.length := by omega
      have hks : k < ss.length := by omega
      have hsl := hss ss[k] (List.getElem_mem hks)
      refine does_of_run prOk (greatsealref_GrowthShows_l0_run G0 _ _ _ _ _ _ _ _ _ _ _ _ R ?_)
      rw [Int.toNat_natCast]
      simp only [ifK_iff, decide_eq_true_eq, decide_eq_false_iff_not, bne_iff_ne, ne_eq, bne_eq_false_iff_eq]
      rw [wrapI (by omega) (by omega)]
      have hz : List.zip ((rs.map (rightG (la, lb))).drop k) (ss.drop k) = (rightG (la, lb) rs[k], ss[k]) :: List.zip ((rs.map (rightG (la, lb))).drop (k + 1)) (ss.drop (k + 1)) := by
        rw [List.drop_eq_getElem_cons (show k < (rs.map (rightG (la, lb))).length by simpa using hkr), List.drop_eq_getElem_cons hks, List.getElem_map]; rfl
      rw [hz] at hR
      have ih := fun a b => ih (k + 1) a b (by omega) (by omega)
      refine ⟨fun _ => ⟨by omega, _, _, getX hkr, by omega, by omega, by omega, by omega, fun h => ⟨by omega, _, getX hks, _, _, good_NodeOf hG _ _ hb hsl, fun h3 => ?_, fun h3 => ih _ _ ha (by have := tNode_len b ss[k]; omega) ?_⟩,
        fun h => ⟨by omega, _, getX hks, _, _, good_NodeOf hG _ _ hsl ha, fun h3 => ?_, fun h3 => ⟨by omega, _, getX hks, _, _, good_NodeOf hG _ _ hsl hb, fun h4 => ?_, fun h4 => ih _ _ (by have := tNode_len ss[k] a; omega) (by have := tNode_len ss[k] b; omega) ?_⟩⟩⟩, fun h => absurd (show (k : Int) < rs.length by omega) h⟩
      · have hrt : rightG (la, lb) rs[k] = true := by unfold rightG; simp only [decide_eq_true_eq]; omega
        rw [hrt] at hR
        simp only [compG, if_true] at hR
        rw [if_pos h3] at hR
        exact hR
      · have hrt : rightG (la, lb) rs[k] = true := by unfold rightG; simp only [decide_eq_true_eq]; omega
        rw [hrt] at hR
        simp only [compG, if_true] at hR
        rw [if_neg (show ¬ (tNode b ss[k]).2 ≠ 0 by simpa using h3)] at hR
        exact hR
      · have hrt : rightG (la, lb) rs[k] = false := by unfold rightG; simp only [decide_eq_false_iff_not]; omega
        rw [hrt] at hR
        simp only [compG, Bool.false_eq_true, if_false] at hR
        rw [if_pos (.inl h3)] at hR
        exact hR
      · have hrt : rightG (la, lb) rs[k] = false := by unfold rightG; simp only [decide_eq_false_iff_not]; omega
        rw [hrt] at hR
        simp only [compG, Bool.false_eq_true, if_false] at hR
        rw [if_pos (.inr h4)] at hR
        exact hR
      · have hrt : rightG (la, lb) rs[k] = false := by unfold rightG; simp only [decide_eq_false_iff_not]; omega
        rw [hrt] at hR
        simp only [compG, Bool.false_eq_true, if_false] at hR
        rw [if_neg (show ¬ ((tNode ss[k] a).2 ≠ 0 ∨ (tNode ss[k] b).2 ≠ 0) by simp [h3, h4])] at hR
        exact hR

theorem good_GrowthShows (hG : GlobOk G0) (old : By) (hold : old.length ≤ 4611686018427387903) (m : Int) (root : By) (n : Int) (nl : Bool) (l : List By) (hl : ∀ s ∈ l, s.length ≤ 4611686018427387903) (hll : l.length ≤ 1000000000000000000) :
    Good PG nG G0 f_greatsealref_GrowthShows [.str old, .int .i64 m, .str root, .int .i64 n, .sl 1 nl none (l.map S1)] [] (.int .i64 (growShows old m root n l)) [] := by
  refine good_of_run prOk (by kernel_rfl) (greatsealref_GrowthShows_run old m root n nl _ G0 _ ?_)
  rw [ifK_iff]
  refine ⟨fun h => ?_, fun h1 => ?_⟩
  · have h : m < 1 := by simpa using h
    rw [growShows, if_pos (.inl h)]; exact ⟨rfl, rfl⟩
  rw [ifK_iff]
  refine ⟨fun h => ?_, fun h2 => ?_⟩
  · have h : n < m := by simpa using h
    rw [growShows, if_pos (.inr (.inl h))]; exact ⟨rfl, rfl⟩
  rw [ifK_iff]
  refine ⟨fun h => ?_, fun h3 => ?_⟩
  · have h : 24 < n := by simpa using h
    rw [growShows, if_pos (.inr (.inr h))]; exact ⟨rfl, rfl⟩
  have h1 : ¬ m < 1 := by simpa using h1
  have h2 : ¬ n < m := by simpa using h2
  have h3 : ¬ 24 < n := by simpa using h3
  obtain ⟨a, rfl⟩ := Int.eq_ofNat_of_zero_le (show 0 ≤ m by omega)
  obtain ⟨b, rfl⟩ := Int.eq_ofNat_of_zero_le (show 0 ≤ n by omega)
  rw [growRef_eq (by omega) (by omega) (by omega)]
  unfold growRef
  have hin := partsF_in b a 0 b true (by omega) (by omega) (by omega)
  have g0 := fun he => good_parts_nil (G0 := G0) a b (by omega) (by omega) (by omega) he
  have g1 := fun he => good_parts_arr (G0 := G0) a b (by omega) (by omega) (by omega) he
  generalize partsF a 0 b true = pp at hin g0 g1
  obtain ⟨bs, ⟨la, lb⟩, kn⟩ := pp
  simp only at hin g0 g1
  have loop := fun (ss : List By) hss hlen (x : By) hx => growQ_loop (G0 := G0) hG old root la lb ss nl hss bs.reverse bs.isEmpty (by rw [List.length_reverse]; omega) hlen
    (R := fun r' H'' => r' = .int .i64 (finG old root (compG (List.zip (bs.reverse.map (rightG (la, lb))) ss) x x)) ∧ H'' = []) bs.reverse.length 0 x x (by omega) (by omega) hx hx ⟨rfl, rfl⟩
  have e : List.take ((bs.map P2).length) (List.drop 0 (bs.reverse.map P2)) = bs.reverse.map P2 := by
    rw [List.drop_zero, List.take_of_length_le (by simp)]
  have hw : IntKind.i64.wrap ((bs.length : Int) + 1) = ((bs.length + 1 : Nat) : Int) := by rw [wrapI (by omega) (by omega)]; omega
  cases kn with
  | true =>
    simp only [if_true, Nat.add_zero]
    have loop := fun hlen => loop l hl hlen old hold
    simp only [List.length_reverse] at loop
    cases hbs : bs with
    | nil =>
      subst hbs
      refine ⟨true, [], (la : Int), (lb : Int), true, ?_⟩
      rw [ifT]
      refine ⟨g0 rfl, ?_⟩
      simp only [Bool.not_true, ifF, List.length_map]
      rw [ifK_iff]
      refine ⟨fun h => ?_, fun h => ⟨good_Reverse_nil, ?_⟩⟩
      · have h : l.length ≠ 0 := by intro e; rw [e] at h; simp at h
        rw [if_pos (by simpa using h)]; exact ⟨rfl, trivial⟩
      · have h : l.length = 0 := by simpa using h
        rw [if_neg (by simpa using h)]
        exact loop (by simpa using h)
    | cons x r =>
      have he : bs.isEmpty = false := by rw [hbs]; rfl
      rw [← hbs]
      rw [he] at loop
      refine ⟨false, bs.map P2, (la : Int), (lb : Int), true, ?_⟩
      rw [ifF]
      refine ⟨g1 he, ?_⟩
      simp only [Bool.not_true, ifF]
      rw [ifK_iff]
      refine ⟨fun h => ?_, fun h => ⟨_, good_Reverse bs (by omega), ?_⟩⟩
      · have h : l.length ≠ bs.length := by intro e; rw [List.length_map, List.length_map, e] at h; simp at h
        rw [if_pos h]; exact ⟨rfl, trivial⟩
      · have h : l.length = bs.length := by
          rw [List.length_map, List.length_map] at h
          have h : (l.length : Int) = (bs.length : Int) := by simpa using h
          omega
        rw [if_neg (by omega), e, List.length_map, List.length_reverse]
        exact loop h
  | false =>
    simp only [Bool.false_eq_true, if_false]
    have nil1 : l.length = bs.length + 1 → ∃ x ss, l = x :: ss := fun h => List.exists_cons_of_ne_nil (by intro e; rw [e] at h; simp at h)
    have hdr : ∀ (x : By) (ss : List By), List.drop 1 (List.take (Int.toNat (((x :: ss).map S1).length : Int)) ((x :: ss).map S1)) = ss.map S1 := by
      intro x ss
      rw [Int.toNat_natCast, List.take_of_length_le (Nat.le_refl _)]; rfl
    cases hbs : bs with
    | nil =>
      subst hbs
      refine ⟨true, [], (la : Int), (lb : Int), false, ?_⟩
      rw [ifT]
      refine ⟨g0 rfl, ?_⟩
      simp only [Bool.not_false, ifT]
      rw [ifK_iff]
      refine ⟨fun h => ?_, fun h => ?_⟩
      · have h : l.length ≠ 1 := by intro e; rw [List.length_map, e] at h; simp at h
        rw [if_pos (by simpa using h)]; exact ⟨rfl, trivial⟩
      · have h : l.length = 1 := by rw [List.length_map] at h; have h : (l.length : Int) = 1 := by simpa using h
                                    omega
        obtain ⟨x, ss, rfl⟩ := nil1 (by simpa using h)
        have lp := loop ss (fun s hs => hl s (by simp [hs])) (by simpa using h) x (hl x (by simp))
        rw [if_neg (by simpa using h), hdr]
        simp only [List.length_reverse] at lp
        exact ⟨by omega, _, rfl, by omega, by rw [List.length_map, List.length_cons]; omega, Int.le_refl _, good_Reverse_nil, lp⟩
    | cons y r =>
      have he : bs.isEmpty = false := by rw [hbs]; rfl
      rw [← hbs]
      refine ⟨false, bs.map P2, (la : Int), (lb : Int), false, ?_⟩
      rw [ifF]
      refine ⟨g1 he, ?_⟩
      simp only [Bool.not_false, ifT]
      rw [List.length_map, List.length_map, hw, ifK_iff]
      refine ⟨fun h => ?_, fun h => ?_⟩
      · have h : l.length ≠ bs.length + 1 := by intro e; rw [e] at h; simp at h
        rw [if_pos h]; exact ⟨rfl, trivial⟩
      · have h : l.length = bs.length + 1 := by
          have h : (l.length : Int) = ((bs.length + 1 : Nat) : Int) := by simpa using h
          omega
        obtain ⟨x, ss, rfl⟩ := nil1 h
        have lp := loop ss (fun s hs => hl s (by simp [hs])) (by simp at h ⊢; omega) x (hl x (by simp))
        rw [he] at lp
        have hdr := hdr x ss
        rw [List.length_map] at hdr
        rw [if_neg (by simpa using h), hdr]
        rw [List.length_map] at e
        have gR := good_Reverse (G0 := G0) bs (by omega)
        rw [List.length_map] at gR
        refine ⟨by omega, _, rfl, by omega, by rw [List.length_cons]; omega, Int.le_refl _, _, gR, ?_⟩
        rw [e, List.length_map]
        exact lp
end Go.Ab

namespace Go.Ab
open Go.Proofs
set_option maxRecDepth 100000

def an_greatseallaw_GrowTrue : FAnn := ⟨[], [], none, []⟩
def an_greatseallaw_GrowOn : FAnn := ⟨[], [], none, []⟩
def an_greatseallaw_GrowSays : FAnn := ⟨[], [], none, []⟩

theorem greatseallaw_GrowTrue_run (nll0 : Bool) (l0 : List (List AV)) (nlo1 : Bool) (o1 : List (List AV)) (nlseals2 : Bool) (seals2 : List (List AV)) (m3 : Int) (G0 : Nat → Option Go.Obj) (R : AV → List (Option Blk) → Prop) (h :
  ∃ s0 n1,
  Good PG nG G0 f_tree_Root [AV.sl (1 : Nat) nll0 none l0] [] (AV.tup [AV.str s0, AV.int Go.IntKind.i64 n1]) [] ∧
    ∃ s2 n3,
      Good PG nG G0 f_tree_Root [AV.sl (1 : Nat) nlo1 none o1] [] (AV.tup [AV.str s2, AV.int Go.IntKind.i64 n3]) [] ∧
        ∃ b4,
          Good PG nG G0 f_greatseallaw_grown [] [] (AV.bool b4) [] ∧
            ifK (!b4) (∃ b5, Good PG nG G0 f_greatseallaw_grown [] [] (AV.bool b5) [] ∧ R (AV.bool b5) [])
              (ifK (n1 != (0 : Int)) (∃ b6, Good PG nG G0 f_greatseallaw_grown [] [] (AV.bool b6) [] ∧ R (AV.bool b6) [])
                (ifK (n3 != (0 : Int)) (∃ b7, Good PG nG G0 f_greatseallaw_grown [] [] (AV.bool b7) [] ∧ R (AV.bool b7) [])
                  (ifK ((↑(List.length l0) : Int) == (0 : Int)) (∃ b8, Good PG nG G0 f_greatseallaw_grown [] [] (AV.bool b8) [] ∧ R (AV.bool b8) [])
                    (ifK (decide ((↑(List.length o1) : Int) > (0 : Int)))
                      (ifK (decide ((↑(List.length o1) : Int) ≤ (↑(List.length l0) : Int)))
                        (∃ n9,
                          Good PG nG G0 f_grow_Shows [AV.str s2, AV.int Go.IntKind.i64 (↑(List.length o1) : Int), AV.str s0, AV.int Go.IntKind.i64 (↑(List.length l0) : Int), AV.sl (1 : Nat) nlseals2 none seals2] []
                              (AV.int Go.IntKind.i64 n9) [] ∧
                            ifK (n9 == (0 : Int))
                              ((0 : Int) ≤ (0 : Int) ∧
                                (0 : Int) ≤ (↑(List.length o1) : Int) ∧
                                  (↑(List.length o1) : Int) ≤ (↑(List.length l0) : Int) ∧
                                    ∃ b10,
                                      Good PG nG G0 f_slices_Equal_string [AV.sl (1 : Nat) nlo1 none o1, AV.sl (1 : Nat) nll0 none (List.drop (0 : Nat) (List.take (Int.toNat (↑(List.length o1) : Int)) l0))] [] (AV.bool b10) [] ∧
                                        ifK (!b10) (R (AV.bool false) [])
                                          (∃ n11,
                                            Good PG nG G0 f_greatseallaw_at [AV.int Go.IntKind.i64 m3, AV.int Go.IntKind.i64 (↑(List.length l0) : Int)] [] (AV.int Go.IntKind.i64 n11) [] ∧
                                              (0 : Int) ≤ (0 : Int) ∧
                                                (0 : Int) ≤ Go.IntKind.wrap Go.IntKind.i64 ((1 : Int) + n11) ∧
                                                  Go.IntKind.wrap Go.IntKind.i64 ((1 : Int) + n11) ≤ (↑(List.length l0) : Int) ∧
                                                    ∃ s12 n13,
                                                      Good PG nG G0 f_tree_Root [AV.sl (1 : Nat) nll0 none (List.drop (0 : Nat) (List.take (Int.toNat (Go.IntKind.wrap Go.IntKind.i64 ((1 : Int) + n11))) l0))] []
                                                          (AV.tup [AV.str s12, AV.int Go.IntKind.i64 n13]) [] ∧
                                                        ∃ b14 xs15 n16,
                                                          Good PG nG G0 f_grow_Of [AV.sl (1 : Nat) nll0 none l0, AV.int Go.IntKind.i64 (Go.IntKind.wrap Go.IntKind.i64 ((1 : Int) + n11))] []
                                                              (AV.tup [AV.sl (1 : Nat) b14 none xs15, AV.int Go.IntKind.i64 n16]) [] ∧
                                                            ifK (n13 != (0 : Int)) (R (AV.bool false) [])
                                                              (ifK (n16 != (0 : Int)) (R (AV.bool false) [])
                                                                (∃ n17,
                                                                  Good PG nG G0 f_grow_Shows
                                                                      [AV.str s12, AV.int Go.IntKind.i64 (Go.IntKind.wrap Go.IntKind.i64 ((1 : Int) + n11)), AV.str s0, AV.int Go.IntKind.i64 (↑(List.length l0) : Int),
                                                                        AV.sl (1 : Nat) b14 none xs15]
                                                                      [] (AV.int Go.IntKind.i64 n17) [] ∧
                                                                    ifK (n17 != (0 : Int)) (R (AV.bool false) [])
                                                                      (ifK ((↑(List.length o1) : Int) != Go.IntKind.wrap Go.IntKind.i64 ((1 : Int) + n11)) (R (AV.bool true) [])
                                                                        (∃ n18,
                                                                          Good PG nG G0 f_grow_Shows
                                                                              [AV.str s2, AV.int Go.IntKind.i64 (Go.IntKind.wrap Go.IntKind.i64 ((1 : Int) + n11)), AV.str s0, AV.int Go.IntKind.i64 (↑(List.length l0) : Int),
                                                                                AV.sl (1 : Nat) b14 none xs15]
                                                                              [] (AV.int Go.IntKind.i64 n18) [] ∧
                                                                            (0 : Int) ≤ (0 : Int) ∧
                                                                              (0 : Int) ≤ Go.IntKind.wrap Go.IntKind.i64 ((1 : Int) + n11) ∧
                                                                                Go.IntKind.wrap Go.IntKind.i64 ((1 : Int) + n11) ≤ (↑(List.length l0) : Int) ∧
                                                                                  ∃ b19,
                                                                                    Good PG nG G0 f_slices_Equal_string
                                                                                        [AV.sl (1 : Nat) nlo1 none o1,
                                                                                          AV.sl (1 : Nat) nll0 none (List.drop (0 : Nat) (List.take (Int.toNat (Go.IntKind.wrap Go.IntKind.i64 ((1 : Int) + n11))) l0))]
                                                                                        [] (AV.bool b19) [] ∧
                                                                                      R (AV.bool ((n18 == (0 : Int)) == b19)) []))))))
                              (∃ n20,
                                Good PG nG G0 f_greatseallaw_at [AV.int Go.IntKind.i64 m3, AV.int Go.IntKind.i64 (↑(List.length l0) : Int)] [] (AV.int Go.IntKind.i64 n20) [] ∧
                                  (0 : Int) ≤ (0 : Int) ∧
                                    (0 : Int) ≤ Go.IntKind.wrap Go.IntKind.i64 ((1 : Int) + n20) ∧
                                      Go.IntKind.wrap Go.IntKind.i64 ((1 : Int) + n20) ≤ (↑(List.length l0) : Int) ∧
                                        ∃ s21 n22,
                                          Good PG nG G0 f_tree_Root [AV.sl (1 : Nat) nll0 none (List.drop (0 : Nat) (List.take (Int.toNat (Go.IntKind.wrap Go.IntKind.i64 ((1 : Int) + n20))) l0))] []
                                              (AV.tup [AV.str s21, AV.int Go.IntKind.i64 n22]) [] ∧
                                            ∃ b23 xs24 n25,
                                              Good PG nG G0 f_grow_Of [AV.sl (1 : Nat) nll0 none l0, AV.int Go.IntKind.i64 (Go.IntKind.wrap Go.IntKind.i64 ((1 : Int) + n20))] []
                                                  (AV.tup [AV.sl (1 : Nat) b23 none xs24, AV.int Go.IntKind.i64 n25]) [] ∧
                                                ifK (n22 != (0 : Int)) (R (AV.bool false) [])
                                                  (ifK (n25 != (0 : Int)) (R (AV.bool false) [])
                                                    (∃ n26,
                                                      Good PG nG G0 f_grow_Shows
                                                          [AV.str s21, AV.int Go.IntKind.i64 (Go.IntKind.wrap Go.IntKind.i64 ((1 : Int) + n20)), AV.str s0, AV.int Go.IntKind.i64 (↑(List.length l0) : Int), AV.sl (1 : Nat) b23 none xs24] []
                                                          (AV.int Go.IntKind.i64 n26) [] ∧
                                                        ifK (n26 != (0 : Int)) (R (AV.bool false) [])
                                                          (ifK ((↑(List.length o1) : Int) != Go.IntKind.wrap Go.IntKind.i64 ((1 : Int) + n20)) (R (AV.bool true) [])
                                                            (∃ n27,
                                                              Good PG nG G0 f_grow_Shows
                                                                  [AV.str s2, AV.int Go.IntKind.i64 (Go.IntKind.wrap Go.IntKind.i64 ((1 : Int) + n20)), AV.str s0, AV.int Go.IntKind.i64 (↑(List.length l0) : Int),
                                                                    AV.sl (1 : Nat) b23 none xs24]
                                                                  [] (AV.int Go.IntKind.i64 n27) [] ∧
                                                                (0 : Int) ≤ (0 : Int) ∧
                                                                  (0 : Int) ≤ Go.IntKind.wrap Go.IntKind.i64 ((1 : Int) + n20) ∧
                                                                    Go.IntKind.wrap Go.IntKind.i64 ((1 : Int) + n20) ≤ (↑(List.length l0) : Int) ∧
                                                                      ∃ b28,
                                                                        Good PG nG G0 f_slices_Equal_string
                                                                            [AV.sl (1 : Nat) nlo1 none o1, AV.sl (1 : Nat) nll0 none (List.drop (0 : Nat) (List.take (Int.toNat (Go.IntKind.wrap Go.IntKind.i64 ((1 : Int) + n20))) l0))] []
                                                                            (AV.bool b28) [] ∧
                                                                          R (AV.bool ((n27 == (0 : Int)) == b28)) []))))))
                        (∃ n29,
                          Good PG nG G0 f_greatseallaw_at [AV.int Go.IntKind.i64 m3, AV.int Go.IntKind.i64 (↑(List.length l0) : Int)] [] (AV.int Go.IntKind.i64 n29) [] ∧
                            (0 : Int) ≤ (0 : Int) ∧
                              (0 : Int) ≤ Go.IntKind.wrap Go.IntKind.i64 ((1 : Int) + n29) ∧
                                Go.IntKind.wrap Go.IntKind.i64 ((1 : Int) + n29) ≤ (↑(List.length l0) : Int) ∧
                                  ∃ s30 n31,
                                    Good PG nG G0 f_tree_Root [AV.sl (1 : Nat) nll0 none (List.drop (0 : Nat) (List.take (Int.toNat (Go.IntKind.wrap Go.IntKind.i64 ((1 : Int) + n29))) l0))] []
                                        (AV.tup [AV.str s30, AV.int Go.IntKind.i64 n31]) [] ∧
                                      ∃ b32 xs33 n34,
                                        Good PG nG G0 f_grow_Of [AV.sl (1 : Nat) nll0 none l0, AV.int Go.IntKind.i64 (Go.IntKind.wrap Go.IntKind.i64 ((1 : Int) + n29))] []
                                            (AV.tup [AV.sl (1 : Nat) b32 none xs33, AV.int Go.IntKind.i64 n34]) [] ∧
                                          ifK (n31 != (0 : Int)) (R (AV.bool false) [])
                                            (ifK (n34 != (0 : Int)) (R (AV.bool false) [])
                                              (∃ n35,
                                                Good PG nG G0 f_grow_Shows
                                                    [AV.str s30, AV.int Go.IntKind.i64 (Go.IntKind.wrap Go.IntKind.i64 ((1 : Int) + n29)), AV.str s0, AV.int Go.IntKind.i64 (↑(List.length l0) : Int), AV.sl (1 : Nat) b32 none xs33] []
                                                    (AV.int Go.IntKind.i64 n35) [] ∧
                                                  ifK (n35 != (0 : Int)) (R (AV.bool false) [])
                                                    (ifK ((↑(List.length o1) : Int) != Go.IntKind.wrap Go.IntKind.i64 ((1 : Int) + n29)) (R (AV.bool true) [])
                                                      (∃ n36,
                                                        Good PG nG G0 f_grow_Shows
                                                            [AV.str s2, AV.int Go.IntKind.i64 (Go.IntKind.wrap Go.IntKind.i64 ((1 : Int) + n29)), AV.str s0, AV.int Go.IntKind.i64 (↑(List.length l0) : Int), AV.sl (1 : Nat) b32 none xs33] []
                                                            (AV.int Go.IntKind.i64 n36) [] ∧
                                                          (0 : Int) ≤ (0 : Int) ∧
                                                            (0 : Int) ≤ Go.IntKind.wrap Go.IntKind.i64 ((1 : Int) + n29) ∧
                                                              Go.IntKind.wrap Go.IntKind.i64 ((1 : Int) + n29) ≤ (↑(List.length l0) : Int) ∧
                                                                ∃ b37,
                                                                  Good PG nG G0 f_slices_Equal_string
                                                                      [AV.sl (1 : Nat) nlo1 none o1, AV.sl (1 : Nat) nll0 none (List.drop (0 : Nat) (List.take (Int.toNat (Go.IntKind.wrap Go.IntKind.i64 ((1 : Int) + n29))) l0))] []
                                                                      (AV.bool b37) [] ∧
                                                                    R (AV.bool ((n36 == (0 : Int)) == b37)) []))))))
                      (∃ n38,
                        Good PG nG G0 f_greatseallaw_at [AV.int Go.IntKind.i64 m3, AV.int Go.IntKind.i64 (↑(List.length l0) : Int)] [] (AV.int Go.IntKind.i64 n38) [] ∧
                          (0 : Int) ≤ (0 : Int) ∧
                            (0 : Int) ≤ Go.IntKind.wrap Go.IntKind.i64 ((1 : Int) + n38) ∧
                              Go.IntKind.wrap Go.IntKind.i64 ((1 : Int) + n38) ≤ (↑(List.length l0) : Int) ∧
                                ∃ s39 n40,
                                  Good PG nG G0 f_tree_Root [AV.sl (1 : Nat) nll0 none (List.drop (0 : Nat) (List.take (Int.toNat (Go.IntKind.wrap Go.IntKind.i64 ((1 : Int) + n38))) l0))] []
                                      (AV.tup [AV.str s39, AV.int Go.IntKind.i64 n40]) [] ∧
                                    ∃ b41 xs42 n43,
                                      Good PG nG G0 f_grow_Of [AV.sl (1 : Nat) nll0 none l0, AV.int Go.IntKind.i64 (Go.IntKind.wrap Go.IntKind.i64 ((1 : Int) + n38))] []
                                          (AV.tup [AV.sl (1 : Nat) b41 none xs42, AV.int Go.IntKind.i64 n43]) [] ∧
                                        ifK (n40 != (0 : Int)) (R (AV.bool false) [])
                                          (ifK (n43 != (0 : Int)) (R (AV.bool false) [])
                                            (∃ n44,
                                              Good PG nG G0 f_grow_Shows
                                                  [AV.str s39, AV.int Go.IntKind.i64 (Go.IntKind.wrap Go.IntKind.i64 ((1 : Int) + n38)), AV.str s0, AV.int Go.IntKind.i64 (↑(List.length l0) : Int), AV.sl (1 : Nat) b41 none xs42] []
                                                  (AV.int Go.IntKind.i64 n44) [] ∧
                                                ifK (n44 != (0 : Int)) (R (AV.bool false) [])
                                                  (ifK ((↑(List.length o1) : Int) != Go.IntKind.wrap Go.IntKind.i64 ((1 : Int) + n38)) (R (AV.bool true) [])
                                                    (∃ n45,
                                                      Good PG nG G0 f_grow_Shows
                                                          [AV.str s2, AV.int Go.IntKind.i64 (Go.IntKind.wrap Go.IntKind.i64 ((1 : Int) + n38)), AV.str s0, AV.int Go.IntKind.i64 (↑(List.length l0) : Int), AV.sl (1 : Nat) b41 none xs42] []
                                                          (AV.int Go.IntKind.i64 n45) [] ∧
                                                        (0 : Int) ≤ (0 : Int) ∧
                                                          (0 : Int) ≤ Go.IntKind.wrap Go.IntKind.i64 ((1 : Int) + n38) ∧
                                                            Go.IntKind.wrap Go.IntKind.i64 ((1 : Int) + n38) ≤ (↑(List.length l0) : Int) ∧
                                                              ∃ b46,
                                                                Good PG nG G0 f_slices_Equal_string
                                                                    [AV.sl (1 : Nat) nlo1 none o1, AV.sl (1 : Nat) nll0 none (List.drop (0 : Nat) (List.take (Int.toNat (Go.IntKind.wrap Go.IntKind.i64 ((1 : Int) + n38))) l0))] []
                                                                    (AV.bool b46) [] ∧
                                                                  R (AV.bool ((n45 == (0 : Int)) == b46)) [])))))))))) :
  Hold (runF PG ty nG G0 an_greatseallaw_GrowTrue f_greatseallaw_GrowTrue [AV.sl (1 : Nat) nll0 none l0, AV.sl (1 : Nat) nlo1 none o1, AV.sl (1 : Nat) nlseals2 none seals2, AV.int Go.IntKind.i64 m3] [] R) := kshow h (by kernel_rfl)

theorem greatseallaw_GrowOn_run (nll0 : Bool) (l0 : List (List AV)) (i1 : Int) (j2 : Int) (G0 : Nat → Option Go.Obj) (R : AV → List (Option Blk) → Prop) (h :
  ∃ s0 n1,
  Good PG nG G0 f_tree_Root [AV.sl (1 : Nat) nll0 none l0] [] (AV.tup [AV.str s0, AV.int Go.IntKind.i64 n1]) [] ∧
    ∃ b2,
      Good PG nG G0 f_greatseallaw_grown [] [] (AV.bool b2) [] ∧
        ifK (!b2) (∃ b3, Good PG nG G0 f_greatseallaw_grown [] [] (AV.bool b3) [] ∧ R (AV.bool b3) [])
          (ifK (n1 != (0 : Int)) (∃ b4, Good PG nG G0 f_greatseallaw_grown [] [] (AV.bool b4) [] ∧ R (AV.bool b4) [])
            (ifK ((↑(List.length l0) : Int) == (0 : Int)) (∃ b5, Good PG nG G0 f_greatseallaw_grown [] [] (AV.bool b5) [] ∧ R (AV.bool b5) [])
              (∃ n6,
                Good PG nG G0 f_greatseallaw_at [AV.int Go.IntKind.i64 i1, AV.int Go.IntKind.i64 (↑(List.length l0) : Int)] [] (AV.int Go.IntKind.i64 n6) [] ∧
                  ∃ n7,
                    Good PG nG G0 f_greatseallaw_at [AV.int Go.IntKind.i64 j2, AV.int Go.IntKind.i64 (↑(List.length l0) : Int)] [] (AV.int Go.IntKind.i64 n7) [] ∧
                      (0 : Int) ≤ (0 : Int) ∧
                        ((0 : Int) ≤
                            if Go.IntKind.wrap Go.IntKind.i64 ((1 : Int) + n7) < Go.IntKind.wrap Go.IntKind.i64 ((1 : Int) + n6) then Go.IntKind.wrap Go.IntKind.i64 ((1 : Int) + n7) else Go.IntKind.wrap Go.IntKind.i64 ((1 : Int) + n6)) ∧
                          (if Go.IntKind.wrap Go.IntKind.i64 ((1 : Int) + n7) < Go.IntKind.wrap Go.IntKind.i64 ((1 : Int) + n6) then Go.IntKind.wrap Go.IntKind.i64 ((1 : Int) + n7) else Go.IntKind.wrap Go.IntKind.i64 ((1 : Int) + n6)) ≤
                              (↑(List.length l0) : Int) ∧
                            ∃ s8 n9,
                              Good PG nG G0 f_tree_Root
                                  [AV.sl (1 : Nat) nll0 none
                                      (List.drop (0 : Nat)
                                        (List.take
                                          (Int.toNat
                                            (if Go.IntKind.wrap Go.IntKind.i64 ((1 : Int) + n7) < Go.IntKind.wrap Go.IntKind.i64 ((1 : Int) + n6) then Go.IntKind.wrap Go.IntKind.i64 ((1 : Int) + n7)
                                            else Go.IntKind.wrap Go.IntKind.i64 ((1 : Int) + n6)))
                                          l0))]
                                  [] (AV.tup [AV.str s8, AV.int Go.IntKind.i64 n9]) [] ∧
                                (0 : Int) ≤ (0 : Int) ∧
                                  ((0 : Int) ≤
                                      if Go.IntKind.wrap Go.IntKind.i64 ((1 : Int) + n7) > Go.IntKind.wrap Go.IntKind.i64 ((1 : Int) + n6) then Go.IntKind.wrap Go.IntKind.i64 ((1 : Int) + n7)
                                      else Go.IntKind.wrap Go.IntKind.i64 ((1 : Int) + n6)) ∧
                                    (if Go.IntKind.wrap Go.IntKind.i64 ((1 : Int) + n7) > Go.IntKind.wrap Go.IntKind.i64 ((1 : Int) + n6) then Go.IntKind.wrap Go.IntKind.i64 ((1 : Int) + n7)
                                        else Go.IntKind.wrap Go.IntKind.i64 ((1 : Int) + n6)) ≤
                                        (↑(List.length l0) : Int) ∧
                                      ∃ s10 n11,
                                        Good PG nG G0 f_tree_Root
                                            [AV.sl (1 : Nat) nll0 none
                                                (List.drop (0 : Nat)
                                                  (List.take
                                                    (Int.toNat
                                                      (if Go.IntKind.wrap Go.IntKind.i64 ((1 : Int) + n7) > Go.IntKind.wrap Go.IntKind.i64 ((1 : Int) + n6) then Go.IntKind.wrap Go.IntKind.i64 ((1 : Int) + n7)
                                                      else Go.IntKind.wrap Go.IntKind.i64 ((1 : Int) + n6)))
                                                    l0))]
                                            [] (AV.tup [AV.str s10, AV.int Go.IntKind.i64 n11]) [] ∧
                                          ∃ s12 n13,
                                            Good PG nG G0 f_tree_Root [AV.sl (1 : Nat) nll0 none l0] [] (AV.tup [AV.str s12, AV.int Go.IntKind.i64 n13]) [] ∧
                                              (0 : Int) ≤ (0 : Int) ∧
                                                ((0 : Int) ≤
                                                    if Go.IntKind.wrap Go.IntKind.i64 ((1 : Int) + n7) > Go.IntKind.wrap Go.IntKind.i64 ((1 : Int) + n6) then Go.IntKind.wrap Go.IntKind.i64 ((1 : Int) + n7)
                                                    else Go.IntKind.wrap Go.IntKind.i64 ((1 : Int) + n6)) ∧
                                                  (if Go.IntKind.wrap Go.IntKind.i64 ((1 : Int) + n7) > Go.IntKind.wrap Go.IntKind.i64 ((1 : Int) + n6) then Go.IntKind.wrap Go.IntKind.i64 ((1 : Int) + n7)
                                                      else Go.IntKind.wrap Go.IntKind.i64 ((1 : Int) + n6)) ≤
                                                      (↑(List.length l0) : Int) ∧
                                                    ∃ b14 xs15 n16,
                                                      Good PG nG G0 f_grow_Of
                                                          [AV.sl (1 : Nat) nll0 none
                                                              (List.drop (0 : Nat)
                                                                (List.take
                                                                  (Int.toNat
                                                                    (if Go.IntKind.wrap Go.IntKind.i64 ((1 : Int) + n7) > Go.IntKind.wrap Go.IntKind.i64 ((1 : Int) + n6) then Go.IntKind.wrap Go.IntKind.i64 ((1 : Int) + n7)
                                                                    else Go.IntKind.wrap Go.IntKind.i64 ((1 : Int) + n6)))
                                                                  l0)),
                                                            AV.int Go.IntKind.i64
                                                              (if Go.IntKind.wrap Go.IntKind.i64 ((1 : Int) + n7) < Go.IntKind.wrap Go.IntKind.i64 ((1 : Int) + n6) then Go.IntKind.wrap Go.IntKind.i64 ((1 : Int) + n7)
                                                              else Go.IntKind.wrap Go.IntKind.i64 ((1 : Int) + n6))]
                                                          [] (AV.tup [AV.sl (1 : Nat) b14 none xs15, AV.int Go.IntKind.i64 n16]) [] ∧
                                                        ∃ b17 xs18 n19,
                                                          Good PG nG G0 f_grow_Of
                                                              [AV.sl (1 : Nat) nll0 none l0,
                                                                AV.int Go.IntKind.i64
                                                                  (if Go.IntKind.wrap Go.IntKind.i64 ((1 : Int) + n7) > Go.IntKind.wrap Go.IntKind.i64 ((1 : Int) + n6) then Go.IntKind.wrap Go.IntKind.i64 ((1 : Int) + n7)
                                                                  else Go.IntKind.wrap Go.IntKind.i64 ((1 : Int) + n6))]
                                                              [] (AV.tup [AV.sl (1 : Nat) b17 none xs18, AV.int Go.IntKind.i64 n19]) [] ∧
                                                            ∃ b20 xs21 n22,
                                                              Good PG nG G0 f_grow_Of
                                                                  [AV.sl (1 : Nat) nll0 none l0,
                                                                    AV.int Go.IntKind.i64
                                                                      (if Go.IntKind.wrap Go.IntKind.i64 ((1 : Int) + n7) < Go.IntKind.wrap Go.IntKind.i64 ((1 : Int) + n6) then Go.IntKind.wrap Go.IntKind.i64 ((1 : Int) + n7)
                                                                      else Go.IntKind.wrap Go.IntKind.i64 ((1 : Int) + n6))]
                                                                  [] (AV.tup [AV.sl (1 : Nat) b20 none xs21, AV.int Go.IntKind.i64 n22]) [] ∧
                                                                ifK (n9 != (0 : Int)) (R (AV.bool false) [])
                                                                  (ifK (n11 != (0 : Int)) (R (AV.bool false) [])
                                                                    (ifK (n13 != (0 : Int)) (R (AV.bool false) [])
                                                                      (ifK (n16 != (0 : Int)) (R (AV.bool false) [])
                                                                        (ifK (n19 != (0 : Int)) (R (AV.bool false) [])
                                                                          (ifK (n22 != (0 : Int)) (R (AV.bool false) [])
                                                                            (∃ n23,
                                                                              Good PG nG G0 f_grow_Shows
                                                                                  [AV.str s8,
                                                                                    AV.int Go.IntKind.i64
                                                                                      (if Go.IntKind.wrap Go.IntKind.i64 ((1 : Int) + n7) < Go.IntKind.wrap Go.IntKind.i64 ((1 : Int) + n6) then Go.IntKind.wrap Go.IntKind.i64 ((1 : Int) + n7)
                                                                                      else Go.IntKind.wrap Go.IntKind.i64 ((1 : Int) + n6)),
                                                                                    AV.str s10,
                                                                                    AV.int Go.IntKind.i64
                                                                                      (if Go.IntKind.wrap Go.IntKind.i64 ((1 : Int) + n7) > Go.IntKind.wrap Go.IntKind.i64 ((1 : Int) + n6) then Go.IntKind.wrap Go.IntKind.i64 ((1 : Int) + n7)
                                                                                      else Go.IntKind.wrap Go.IntKind.i64 ((1 : Int) + n6)),
                                                                                    AV.sl (1 : Nat) b14 none xs15]
                                                                                  [] (AV.int Go.IntKind.i64 n23) [] ∧
                                                                                ifK (n23 == (0 : Int))
                                                                                  (∃ n24,
                                                                                    Good PG nG G0 f_grow_Shows
                                                                                        [AV.str s10,
                                                                                          AV.int Go.IntKind.i64
                                                                                            (if Go.IntKind.wrap Go.IntKind.i64 ((1 : Int) + n7) > Go.IntKind.wrap Go.IntKind.i64 ((1 : Int) + n6) then
                                                                                              Go.IntKind.wrap Go.IntKind.i64 ((1 : Int) + n7)
                                                                                            else Go.IntKind.wrap Go.IntKind.i64 ((1 : Int) + n6)),
                                                                                          AV.str s12, AV.int Go.IntKind.i64 (↑(List.length l0) : Int), AV.sl (1 : Nat) b17 none xs18]
                                                                                        [] (AV.int Go.IntKind.i64 n24) [] ∧
                                                                                      ifK (n24 == (0 : Int))
                                                                                        (∃ n25,
                                                                                          Good PG nG G0 f_grow_Shows
                                                                                              [AV.str s8,
                                                                                                AV.int Go.IntKind.i64
                                                                                                  (if Go.IntKind.wrap Go.IntKind.i64 ((1 : Int) + n7) < Go.IntKind.wrap Go.IntKind.i64 ((1 : Int) + n6) then
                                                                                                    Go.IntKind.wrap Go.IntKind.i64 ((1 : Int) + n7)
                                                                                                  else Go.IntKind.wrap Go.IntKind.i64 ((1 : Int) + n6)),
                                                                                                AV.str s12, AV.int Go.IntKind.i64 (↑(List.length l0) : Int), AV.sl (1 : Nat) b20 none xs21]
                                                                                              [] (AV.int Go.IntKind.i64 n25) [] ∧
                                                                                            ifK (n25 == (0 : Int))
                                                                                              (∃ n26,
                                                                                                Good PG nG G0 f_grow_Shows
                                                                                                    [AV.str s10,
                                                                                                      AV.int Go.IntKind.i64
                                                                                                        (if Go.IntKind.wrap Go.IntKind.i64 ((1 : Int) + n7) > Go.IntKind.wrap Go.IntKind.i64 ((1 : Int) + n6) then
                                                                                                          Go.IntKind.wrap Go.IntKind.i64 ((1 : Int) + n7)
                                                                                                        else Go.IntKind.wrap Go.IntKind.i64 ((1 : Int) + n6)),
                                                                                                      AV.str s10,
                                                                                                      AV.int Go.IntKind.i64
                                                                                                        (if Go.IntKind.wrap Go.IntKind.i64 ((1 : Int) + n7) > Go.IntKind.wrap Go.IntKind.i64 ((1 : Int) + n6) then
                                                                                                          Go.IntKind.wrap Go.IntKind.i64 ((1 : Int) + n7)
                                                                                                        else Go.IntKind.wrap Go.IntKind.i64 ((1 : Int) + n6)),
                                                                                                      AV.sl (1 : Nat) true none []]
                                                                                                    [] (AV.int Go.IntKind.i64 n26) [] ∧
                                                                                                  ifK (n26 == (0 : Int))
                                                                                                    (ifK
                                                                                                      (decide
                                                                                                        ((if Go.IntKind.wrap Go.IntKind.i64 ((1 : Int) + n7) < Go.IntKind.wrap Go.IntKind.i64 ((1 : Int) + n6) then
                                                                                                            Go.IntKind.wrap Go.IntKind.i64 ((1 : Int) + n7)
                                                                                                          else Go.IntKind.wrap Go.IntKind.i64 ((1 : Int) + n6)) <
                                                                                                          if Go.IntKind.wrap Go.IntKind.i64 ((1 : Int) + n7) > Go.IntKind.wrap Go.IntKind.i64 ((1 : Int) + n6) then
                                                                                                            Go.IntKind.wrap Go.IntKind.i64 ((1 : Int) + n7)
                                                                                                          else Go.IntKind.wrap Go.IntKind.i64 ((1 : Int) + n6)))
                                                                                                      (R (AV.bool true) []) (R (AV.bool ((↑(List.length xs15) : Int) == (0 : Int))) []))
                                                                                                    (R (AV.bool false) []))
                                                                                              (R (AV.bool false) []))
                                                                                        (R (AV.bool false) []))
                                                                                  (R (AV.bool false) []))))))))))) :
  Hold (runF PG ty nG G0 an_greatseallaw_GrowOn f_greatseallaw_GrowOn [AV.sl (1 : Nat) nll0 none l0, AV.int Go.IntKind.i64 i1, AV.int Go.IntKind.i64 j2] [] R) := kshow h (by kernel_rfl)

theorem greatseallaw_GrowSays_run (nll0 : Bool) (l0 : List (List AV)) (m1 : Int) (old2 : List UInt8) (root3 : List UInt8) (n4 : Int) (nlseals5 : Bool) (seals5 : List (List AV)) (G0 : Nat → Option Go.Obj) (R : AV → List (Option Blk) → Prop) (h :
  ∃ b0 xs1 n2,
  Good PG nG G0 f_grow_Of [AV.sl (1 : Nat) nll0 none l0, AV.int Go.IntKind.i64 m1] [] (AV.tup [AV.sl (1 : Nat) b0 none xs1, AV.int Go.IntKind.i64 n2]) [] ∧
    ∃ b3 xs4 n5,
      Good PG nG G0 f_greatsealref_GrowthOf [AV.sl (1 : Nat) nll0 none l0, AV.int Go.IntKind.i64 m1] [] (AV.tup [AV.sl (1 : Nat) b3 none xs4, AV.int Go.IntKind.i64 n5]) [] ∧
        ∃ b6,
          Good PG nG G0 f_greatseallaw_grown [] [] (AV.bool b6) [] ∧
            ifK b6
              (ifK (n2 == n5)
                (∃ b7,
                  Good PG nG G0 f_slices_Equal_string [AV.sl (1 : Nat) b0 none xs1, AV.sl (1 : Nat) b3 none xs4] [] (AV.bool b7) [] ∧
                    ifK b7
                      (∃ n8,
                        Good PG nG G0 f_grow_Shows [AV.str old2, AV.int Go.IntKind.i64 m1, AV.str root3, AV.int Go.IntKind.i64 n4, AV.sl (1 : Nat) nlseals5 none seals5] [] (AV.int Go.IntKind.i64 n8) [] ∧
                          ∃ n9,
                            Good PG nG G0 f_greatsealref_GrowthShows [AV.str old2, AV.int Go.IntKind.i64 m1, AV.str root3, AV.int Go.IntKind.i64 n4, AV.sl (1 : Nat) nlseals5 none seals5] [] (AV.int Go.IntKind.i64 n9) [] ∧ R (AV.bool (n8 == n9)) [])
                      (R (AV.bool false) []))
                (R (AV.bool false) []))
              (R (AV.bool false) [])) :
  Hold (runF PG ty nG G0 an_greatseallaw_GrowSays f_greatseallaw_GrowSays [AV.sl (1 : Nat) nll0 none l0, AV.int Go.IntKind.i64 m1, AV.str old2, AV.str root3, AV.int Go.IntKind.i64 n4, AV.sl (1 : Nat) nlseals5 none seals5] [] R) := kshow h (by kernel_rfl)

end Go.Ab

namespace Go.Ab
open Go.Proofs Go.Gs
variable {G0 : Nat → Option Obj}

theorem good_grown (hG : GlobOk G0) : Good PG nG G0 f_greatseallaw_grown [] [] (.bool true) [] := by
  refine good_of_run prOk (by kernel_rfl) (greatseallaw_grown_run G0 _ ?_)
  have g1 := good_growOf hG [[97], [98], [99]] false 2
  have g2 := good_growOf hG [[97], [98], [99], [100], [101]] false 3
  have g3 := good_Root' hG [[97], [98], [99]] false
  have g4 := good_Root' hG [[97], [98], [99], [100], [101]] false
  have g5 := good_growOf hG [[97], [98], [99], [100], [101]] false 6
  have e1 : growR [[97], [98], [99]] 2 = ([[76, 99]], 0) := by decide +kernel
  have e2 : growR [[97], [98], [99], [100], [101]] 3 = ([[76, 99], [76, 100], [78, 50, 58, 76, 97, 76, 98], [76, 101]], 0) := by decide +kernel
  have e3 : (rootOf [[97], [98], [99]]).2 = 0 := by decide +kernel
  have e4 : (rootOf [[97], [98], [99], [100], [101]]).2 = 0 := by decide +kernel
  have e5 : (growR [[97], [98], [99], [100], [101]] 6).2 = 3 := by decide +kernel
  rw [e1] at g1
  rw [e2] at g2
  rw [e3] at g3
  rw [e4] at g4
  rw [e5] at g5
  have g6 := good_Equal (G0 := G0) [[76, 99]] [[76, 99]] false false (by decide)
  have g7 := good_Equal (G0 := G0) [[76, 99], [76, 100], [78, 50, 58, 76, 97, 76, 98], [76, 101]] [[76, 99], [76, 100], [78, 50, 58, 76, 97, 76, 98], [76, 101]] false false (by decide)
  rw [beq_self_eq_true] at g6 g7
  have g8 := good_growShows hG (rootOf [[97], [98], [99]]).1 3 (rootOf [[97], [98], [99], [100], [101]]).1 5 false [[76, 99], [76, 100], [78, 50, 58, 76, 97, 76, 98], [76, 101]] (by decide)
  have g9 := good_growShows hG (rootOf [[97], [98], [99]]).1 3 (rootOf [[97], [98], [99], [100], [101]]).1 5 true [] (by decide)
  have e8 : growShows (rootOf [[97], [98], [99]]).1 3 (rootOf [[97], [98], [99], [100], [101]]).1 5 [[76, 99], [76, 100], [78, 50, 58, 76, 97, 76, 98], [76, 101]] = 0 := by decide +kernel
  have e9 : growShows (rootOf [[97], [98], [99]]).1 3 (rootOf [[97], [98], [99], [100], [101]]).1 5 [] = 7 := by decide +kernel
  rw [e8] at g8
  rw [e9] at g9
  refine ⟨by decide, by decide, by decide, _, _, _, g1, _, _, _, g2, by decide, by decide, by decide, _, _, g3, _, _, g4, _, _, _, g5, ?_⟩
  exact ⟨_, g6, _, g7, _, g8, _, g9, rfl, rfl⟩

theorem growR_len (l : List By) (m : Int) : (growR l m).1.length ≤ 25 := by
  unfold growR
  split
  · simp
  · rename_i h
    have h : (rootOf l).2 = 0 := by simpa using h
    split
    · simp
    · have := growOf_len _ l m.toNat true (Nat.le_refl _)
      have := (rootOf_ok' h).1
      simp only; omega

theorem growR_ok {l : List By} {m : Nat} (h : (rootOf l).2 = 0) (h1 : 1 ≤ m) (hm : m ≤ l.length) : growR l m = (growOf l m true, 0) := by rw [growR, if_neg (by simpa using h), if_neg (by omega), Int.toNat_natCast]

theorem good_GrowSays (hG : GlobOk G0) (l : List By) (nl : Bool) (m : Int) (old root : By) (hold : old.length ≤ 4611686018427387903) (n : Int) (ns : Bool) (s : List By) (hs : ∀ x ∈ s, x.length ≤ 4611686018427387903) (hsl : s.length ≤ 1000000000000000000) :
    Good PG nG G0 f_greatseallaw_GrowSays [.sl 1 nl none (l.map S1), .int .i64 m, .str old, .str root, .int .i64 n, .sl 1 ns none (s.map S1)] [] (.bool true) [] := by
  refine good_of_run prOk (by kernel_rfl) (greatseallaw_GrowSays_run nl _ m old root n ns _ G0 _ ⟨_, _, _, good_growOf hG l nl m, _, _, _, good_GrowthOf hG l nl m, _, good_grown hG, ?_⟩)
  simp only [ifT, beq_self_eq_true]
  have g := good_Equal (G0 := G0) (growR l m).1 (growR l m).1 (growR l m).1.isEmpty (growR l m).1.isEmpty (by have := growR_len l m; omega)
  rw [beq_self_eq_true] at g
  exact ⟨_, g, _, good_growShows hG old m root n ns s hsl, _, good_GrowthShows hG old hold m root n ns s hs hsl, by simp, trivial⟩

theorem take_S1 (l : List By) (k : Nat) : List.drop 0 (List.take k (l.map S1)) = (l.take k).map S1 := by simp

theorem at1 (k : Int) {n : Nat} (h : 0 < n) (hn : (n : Int) ≤ 1000) : IntKind.i64.wrap (1 + ((atN k n : Nat) : Int)) = ((atN k n + 1 : Nat) : Int) := by
  have := atN_lt k h
  rw [wrap64 (by omega) (by omega)]; omega

theorem good_GrowTrue (hG : GlobOk G0) (l o : List By) (nl no : Bool) (ns : Bool) (s : List By) (hsl : s.length ≤ 1000000000000000000) (m : Int) (hm : -9223372036854775808 ≤ m ∧ m ≤ 9223372036854775807) :
    Good PG nG G0 f_greatseallaw_GrowTrue [.sl 1 nl none (l.map S1), .sl 1 no none (o.map S1), .sl 1 ns none (s.map S1), .int .i64 m] [] (.bool true) [] := by
  suffices main : ∀ R : AV → List (Option Blk) → Prop, R (.bool true) [] → Hold (runF PG ty nG G0 an_greatseallaw_GrowTrue f_greatseallaw_GrowTrue [.sl 1 nl none (l.map S1), .sl 1 no none (o.map S1), .sl 1 ns none (s.map S1), .int .i64 m] [] R) from
    good_of_run prOk (by kernel_rfl) (main _ ⟨rfl, rfl⟩)
  intro R hR
  refine greatseallaw_GrowTrue_run nl _ no _ ns _ m G0 R ⟨_, _, good_Root' hG l nl, _, _, good_Root' hG o no, _, good_grown hG, ?_⟩
  simp only [Bool.not_true, ifF, List.length_map]
  rw [ifK_iff]
  refine ⟨fun _ => ⟨_, good_grown hG, hR⟩, fun h0 => ?_⟩
  have h0 : (rootOf l).2 = 0 := by simpa using h0
  rw [ifK_iff]
  refine ⟨fun _ => ⟨_, good_grown hG, hR⟩, fun h1 => ?_⟩
  have h1 : (rootOf o).2 = 0 := by simpa using h1
  rw [ifK_iff]
  refine ⟨fun _ => ⟨_, good_grown hG, hR⟩, fun h2 => ?_⟩
  have h2 : l.length ≠ 0 := by
    intro e
    rw [e] at h2
    simp at h2
  obtain ⟨a, b⟩ := rootOf_ok' h0
  obtain ⟨a', b'⟩ := rootOf_ok' h1
  have hr : (tRoot l).2 = 0 := by rw [← b]; exact h0
  have hro : (tRoot o).2 = 0 := by rw [← b']; exact h1
  have hat := atN_lt m (n := l.length) (by omega)
  have gat := good_atN (G0 := G0) m l.length (by omega) (by omega) hm
  have hw := at1 m (n := l.length) (by omega) (by omega)
  generalize atN m l.length = k at hat gat hw
  have hbg := tRoot_begin _ l (k + 1) (Nat.le_refl _) a hr (by omega) (by omega)
  have htk : (l.take (k + 1)).length = k + 1 := by simp only [List.length_take]; omega
  have g1 := good_Root' (G0 := G0) hG (l.take (k + 1)) nl
  rw [show rootOf (l.take (k + 1)) = tRoot (l.take (k + 1)) by rw [rootOf, if_neg (by omega)], hbg.1] at g1
  have g2 := good_growOf (G0 := G0) hG l nl ((k + 1 : Nat) : Int)
  rw [growR_ok h0 (by omega) (by omega)] at g2
  have iff := fun old seals => growShows_iff (l := l) (m := k + 1) a hr (by omega) (by omega) old seals
  have g3 := good_growShows (G0 := G0) hG (tRoot (l.take (k + 1))).1 ((k + 1 : Nat) : Int) (tRoot l).1 l.length (growOf l (k + 1) true).isEmpty (growOf l (k + 1) true) (by have := growOf_len _ l (k + 1) true (Nat.le_refl _); omega)
  rw [(iff _ _).2 ⟨rfl, rfl⟩] at g3
  have g4 := good_growShows (G0 := G0) hG (tRoot o).1 ((k + 1 : Nat) : Int) (tRoot l).1 l.length (growOf l (k + 1) true).isEmpty (growOf l (k + 1) true) (by have := growOf_len _ l (k + 1) true (Nat.le_refl _); omega)
  have g5 := good_Equal (G0 := G0) o (l.take (k + 1)) no nl (by omega)
  have e0 : ((0 : Int) != 0) = false := rfl
  have fin : o.length = k + 1 → (growShows (tRoot o).1 ((k + 1 : Nat) : Int) (tRoot l).1 l.length (growOf l (k + 1) true) == 0) = (o == l.take (k + 1)) := by
    intro hlen
    by_cases h : o = l.take (k + 1)
    · have := (iff (tRoot o).1 (growOf l (k + 1) true)).2 ⟨by rw [h], rfl⟩
      rw [this, h]; simp
    · have : growShows (tRoot o).1 ((k + 1 : Nat) : Int) (tRoot l).1 l.length (growOf l (k + 1) true) ≠ 0 := fun e => h (tRoot_inj _ _ _ (Nat.le_refl _) hro hbg.1 ((iff (tRoot o).1 (growOf l (k + 1) true)).1 e).1)
      have x : (o == l.take (k + 1)) = false := by simpa using h
      have y : (growShows (tRoot o).1 ((k + 1 : Nat) : Int) (tRoot l).1 l.length (growOf l (k + 1) true) == 0) = false := by simpa using this
      rw [x, y]
  rw [b, b']
  have mid : ∀ z : Bool, z = (o == l.take o.length) → 0 < o.length → o.length ≤ l.length → growShows (tRoot o).1 o.length (tRoot l).1 l.length s = 0 → z = true := by
    intro z hz p1 p2 p3
    have := (growShows_iff (l := l) (m := o.length) a hr p1 p2 _ _).1 p3
    have ht := tRoot_begin _ l o.length (Nat.le_refl _) a hr p1 p2
    have : o = l.take o.length := tRoot_inj _ _ _ (Nat.le_refl _) hro ht.1 this.1
    rw [hz]; simpa using this
  rw [ifK_iff]
  refine ⟨fun p1 => ?_, fun p1 => ?_⟩
  · have p1 : 0 < o.length := by
      have : (o.length : Int) > 0 := by simpa using p1
      omega
    rw [ifK_iff]
    refine ⟨fun p2 => ⟨_, good_growShows hG _ _ _ _ ns s hsl, ?_⟩, fun p2 => ?_⟩
    · have p2 : o.length ≤ l.length := by
        have : (o.length : Int) ≤ l.length := by simpa using p2
        omega
      rw [ifK_iff]
      refine ⟨fun p3 => ⟨Int.le_refl _, by omega, by omega, _, by rw [Int.toNat_natCast, take_S1]; exact good_Equal _ _ _ _ (by omega), ?_⟩, fun p3 => ?_⟩
      · rw [mid _ rfl p1 p2 (by simpa using p3), Bool.not_true, ifF]
        refine ⟨_, gat, Int.le_refl _, ?_⟩
        rw [hw, Int.toNat_natCast, take_S1]
        refine ⟨by omega, by omega, _, _, g1, _, _, _, g2, ?_⟩
        rw [e0, ifF, ifF]
        refine ⟨_, g3, ?_⟩
        rw [e0, ifF, ifK_iff]
        refine ⟨fun _ => hR, fun p4 => ⟨_, g4, Int.le_refl _, by omega, by omega, _, g5, ?_⟩⟩
        rw [fin (by have : (o.length : Int) = ((k + 1 : Nat) : Int) := by simpa using p4
                    omega), beq_self_eq_true]
        exact hR
      · refine ⟨_, gat, Int.le_refl _, ?_⟩
        rw [hw, Int.toNat_natCast, take_S1]
        refine ⟨by omega, by omega, _, _, g1, _, _, _, g2, ?_⟩
        rw [e0, ifF, ifF]
        refine ⟨_, g3, ?_⟩
        rw [e0, ifF, ifK_iff]
        refine ⟨fun _ => hR, fun p4 => ⟨_, g4, Int.le_refl _, by omega, by omega, _, g5, ?_⟩⟩
        rw [fin (by have : (o.length : Int) = ((k + 1 : Nat) : Int) := by simpa using p4
                    omega), beq_self_eq_true]
        exact hR
    · refine ⟨_, gat, Int.le_refl _, ?_⟩
      rw [hw, Int.toNat_natCast, take_S1]
      refine ⟨by omega, by omega, _, _, g1, _, _, _, g2, ?_⟩
      rw [e0, ifF, ifF]
      refine ⟨_, g3, ?_⟩
      rw [e0, ifF, ifK_iff]
      refine ⟨fun _ => hR, fun p4 => ⟨_, g4, Int.le_refl _, by omega, by omega, _, g5, ?_⟩⟩
      rw [fin (by have : (o.length : Int) = ((k + 1 : Nat) : Int) := by simpa using p4
                  omega), beq_self_eq_true]
      exact hR
  · refine ⟨_, gat, Int.le_refl _, ?_⟩
    rw [hw, Int.toNat_natCast, take_S1]
    refine ⟨by omega, by omega, _, _, g1, _, _, _, g2, ?_⟩
    rw [e0, ifF, ifF]
    refine ⟨_, g3, ?_⟩
    rw [e0, ifF, ifK_iff]
    refine ⟨fun _ => hR, fun p4 => ⟨_, g4, Int.le_refl _, by omega, by omega, _, g5, ?_⟩⟩
    rw [fin (by have : (o.length : Int) = ((k + 1 : Nat) : Int) := by simpa using p4
                omega), beq_self_eq_true]
    exact hR

theorem good_GrowOn (hG : GlobOk G0) (l : List By) (nl : Bool) (i j : Int) (hi : -9223372036854775808 ≤ i ∧ i ≤ 9223372036854775807) (hj : -9223372036854775808 ≤ j ∧ j ≤ 9223372036854775807) :
    Good PG nG G0 f_greatseallaw_GrowOn [.sl 1 nl none (l.map S1), .int .i64 i, .int .i64 j] [] (.bool true) [] := by
  suffices main : ∀ R : AV → List (Option Blk) → Prop, R (.bool true) [] → Hold (runF PG ty nG G0 an_greatseallaw_GrowOn f_greatseallaw_GrowOn [.sl 1 nl none (l.map S1), .int .i64 i, .int .i64 j] [] R) from
    good_of_run prOk (by kernel_rfl) (main _ ⟨rfl, rfl⟩)
  intro R hR
  refine greatseallaw_GrowOn_run nl _ i j G0 R ⟨_, _, good_Root' hG l nl, _, good_grown hG, ?_⟩
  simp only [Bool.not_true, ifF, List.length_map]
  rw [ifK_iff]
  refine ⟨fun _ => ⟨_, good_grown hG, hR⟩, fun h0 => ?_⟩
  have h0 : (rootOf l).2 = 0 := by simpa using h0
  rw [ifK_iff]
  refine ⟨fun _ => ⟨_, good_grown hG, hR⟩, fun h2 => ?_⟩
  have h2 : l.length ≠ 0 := by
    intro e
    rw [e] at h2
    simp at h2
  obtain ⟨a, b⟩ := rootOf_ok' h0
  have hr : (tRoot l).2 = 0 := by rw [← b]; exact h0
  have hx := atN_lt i (n := l.length) (by omega)
  have hy := atN_lt j (n := l.length) (by omega)
  have gx := good_atN (G0 := G0) i l.length (by omega) (by omega) hi
  have gy := good_atN (G0 := G0) j l.length (by omega) (by omega) hj
  have wx := at1 i (n := l.length) (by omega) (by omega)
  have wy := at1 j (n := l.length) (by omega) (by omega)
  generalize atN i l.length = x at hx gx wx
  generalize atN j l.length = y at hy gy wy
  refine ⟨_, gx, _, gy, ?_⟩
  rw [wx, wy]
  have emin : (if ((y + 1 : Nat) : Int) < ((x + 1 : Nat) : Int) then ((y + 1 : Nat) : Int) else ((x + 1 : Nat) : Int)) = ((min (x + 1) (y + 1) : Nat) : Int) := by
    split <;> omega
  have emax : (if ((y + 1 : Nat) : Int) > ((x + 1 : Nat) : Int) then ((y + 1 : Nat) : Int) else ((x + 1 : Nat) : Int)) = ((max (x + 1) (y + 1) : Nat) : Int) := by
    split <;> omega
  rw [emin, emax]
  have hp : 1 ≤ min (x + 1) (y + 1) ∧ min (x + 1) (y + 1) ≤ max (x + 1) (y + 1) ∧ max (x + 1) (y + 1) ≤ l.length := by omega
  generalize min (x + 1) (y + 1) = p at hp
  generalize max (x + 1) (y + 1) = q at hp
  obtain ⟨p1, p2, p3⟩ := hp
  rw [Int.toNat_natCast, Int.toNat_natCast, take_S1, take_S1]
  have tq : (l.take q).length = q := by simp only [List.length_take]; omega
  have tp : (l.take p).length = p := by simp only [List.length_take]; omega
  have rp := (tRoot_begin _ l p (Nat.le_refl _) a hr p1 (by omega)).1
  have rq := (tRoot_begin _ l q (Nat.le_refl _) a hr (by omega) p3).1
  have tpq : (l.take q).take p = l.take p := by rw [List.take_take, Nat.min_eq_left p2]
  have g1 := good_Root' (G0 := G0) hG (l.take p) nl
  rw [show rootOf (l.take p) = tRoot (l.take p) by rw [rootOf, if_neg (by omega)], rp] at g1
  have g2 := good_Root' (G0 := G0) hG (l.take q) nl
  have eq2 : rootOf (l.take q) = tRoot (l.take q) := by rw [rootOf, if_neg (by omega)]
  rw [eq2, rq] at g2
  have g3 := good_Root' (G0 := G0) hG l nl
  rw [b, hr] at g3
  have g4 := good_growOf (G0 := G0) hG (l.take q) nl (p : Int)
  rw [growR_ok (by rw [eq2]; exact rq) p1 (by omega)] at g4
  have g5 := good_growOf (G0 := G0) hG l nl (q : Int)
  rw [growR_ok h0 (by omega) p3] at g5
  have g6 := good_growOf (G0 := G0) hG l nl (p : Int)
  rw [growR_ok h0 p1 (by omega)] at g6
  have bl := fun (l' : List By) m' (_ : l'.length ≤ 24) => growOf_len _ l' m' true (Nat.le_refl _)
  have s1 := good_growShows (G0 := G0) hG (tRoot (l.take p)).1 p (tRoot (l.take q)).1 q (growOf (l.take q) p true).isEmpty (growOf (l.take q) p true) (by have := bl (l.take q) p (by omega); omega)
  have i1 := growShows_iff (l := l.take q) (m := p) (by omega) rq p1 (by omega) (tRoot (l.take p)).1 (growOf (l.take q) p true)
  rw [tq, tpq] at i1
  rw [i1.2 ⟨rfl, rfl⟩] at s1
  have s2 := good_growShows (G0 := G0) hG (tRoot (l.take q)).1 q (tRoot l).1 l.length (growOf l q true).isEmpty (growOf l q true) (by have := bl l q a; omega)
  rw [(growShows_iff (l := l) (m := q) a hr (by omega) p3 _ _).2 ⟨rfl, rfl⟩] at s2
  have s3 := good_growShows (G0 := G0) hG (tRoot (l.take p)).1 p (tRoot l).1 l.length (growOf l p true).isEmpty (growOf l p true) (by have := bl l p a; omega)
  rw [(growShows_iff (l := l) (m := p) a hr p1 (by omega) _ _).2 ⟨rfl, rfl⟩] at s3
  have s4 := good_growShows (G0 := G0) hG (tRoot (l.take q)).1 q (tRoot (l.take q)).1 q true [] (by decide)
  have i4 := growShows_iff (l := l.take q) (m := q) (by omega) rq (by omega) (by omega) (tRoot (l.take q)).1 []
  have gall := growOf_all (l := l.take q) (known := true)
  rw [tq] at gall
  rw [tq, gall, List.take_of_length_le (Nat.le_of_eq tq)] at i4
  rw [i4.2 ⟨rfl, rfl⟩] at s4
  refine ⟨Int.le_refl _, by omega, by omega, _, _, g1, Int.le_refl _, by omega, by omega, _, _, g2, _, _, g3, Int.le_refl _, by omega, by omega, _, _, _, g4, _, _, _, g5, _, _, _, g6, ?_⟩
  have e0 : ((0 : Int) != 0) = false := rfl
  have e1 : ((0 : Int) == 0) = true := rfl
  simp only [e0, ifF]
  refine ⟨_, s1, ?_⟩
  simp only [e1, ifT]
  refine ⟨_, s2, ?_⟩
  simp only [e1, ifT]
  refine ⟨_, s3, ?_⟩
  simp only [e1, ifT]
  refine ⟨_, s4, ?_⟩
  simp only [e1, ifT]
  rw [ifK_iff]
  refine ⟨fun _ => hR, fun h => ?_⟩
  have hpq : p = q := by
    have : ¬ (p : Int) < q := by simpa using h
    omega
  subst hpq
  rw [gall]
  exact hR
end Go.Ab

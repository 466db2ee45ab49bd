/- What the proofs of these laws lean on (7): Contracts: paths, the document's own answers; the closed fact; Contracts: paths, the document's own answers, whole; the closed fact; What the runs come to; Contracts: the laws of paths; What the runs come to; How a list goes on, by spans, in plain words; Contracts: how a list goes on; Contracts: how a list goes on, the document's own answers; the closed fact; Contracts: whether seals show growth, the document's own answer; the closed fact; What the runs come to; Contracts: the laws of growth; What the runs come to; Contracts: what a book shows: the laws; Contracts: two heads held together; Contracts: a book's shows, as the document says: the law; Contracts: a client goes by heads; Contracts:; no condition. -/
import Derived.Test.YteoadplelecmeaaDoorZAllF
namespace Go.Ab
open Go.Proofs Go.Gs
variable {G0 : Nat → Option Obj}

theorem good_spans0 (n i : Nat) (hn : n ≤ 1000) : Good PG nG G0 f_greatsealref_spans [.int .i64 n, .int .i64 i] [] (.sl 2 (spansF 0 n i).isEmpty (some 0) ((spansF 0 n i).map P2)) [some (.grow 2 (spansF 0 n i).length)] := by
  refine good_of_run prOk (by kernel_rfl) (greatsealref_spans_run n i G0 _ ?_)
  suffices main : ∀ R : AV → List (Option Blk) → Prop, R (.sl 2 (spansF 0 n i).isEmpty (some 0) ((spansF 0 n i).map P2)) [some (.grow 2 (spansF 0 n i).length)] → ∀ (m f t : Nat) (acc : List (Nat × Nat)), t - f ≤ m → f ≤ t → t ≤ n → acc ++ spansF f t i = spansF 0 n i →
      Does PG nG G0 (fnOf PG f_greatsealref_spans) 0 (lp PG f_greatsealref_spans 0) (mkT 32 [(1, .int .i64 i), (5, .sl 2 acc.isEmpty (some 0) (acc.map P2)), (6, .int .i64 f), (7, .int .i64 t)]) [some (.grow 2 acc.length)] R from
    main _ ⟨rfl, rfl⟩ n 0 n [] (by omega) (Nat.zero_le _) (Nat.le_refl _) rfl
  intro R hR m
  induction m with
  | zero =>
    intro f t acc h1 h0 h2 h3
    refine does_of_run prOk (greatsealref_spans_l0_run G0 _ _ _ _ _ _ R ?_)
    simp only [ifK_iff, decide_eq_true_eq, decide_eq_false_iff_not]
    rw [spansF_one (by omega), List.append_nil] at h3
    rw [← h3] at hR
    rw [wrap64 (by omega) (by omega)]
    exact ⟨fun h => absurd h (by omega), fun _ => hR⟩
  | succ m ih =>
    intro f t acc h1 h0 h2 h3
    refine does_of_run prOk (greatsealref_spans_l0_run G0 _ _ _ _ _ _ R ?_)
    simp only [ifK_iff, decide_eq_true_eq, decide_eq_false_iff_not, List.length_map]
    rw [wrap64 (by omega) (by omega)]
    by_cases hc : t - f ≤ 1
    · rw [spansF_one hc, List.append_nil] at h3
      rw [← h3] at hR
      exact ⟨fun h => absurd h (by omega), fun _ => hR⟩
    · have hk1 := halfN_pos (t - f)
      have hk2 := halfN_lt (n := t - f) (by omega)
      have hlen := congrArg List.length h3
      have hlen2 := spansF_len n 0 n i (by omega)
      rw [List.length_append] at hlen
      have gh := good_HalfOf (G0 := G0) ((t - f : Nat) : Int) (by omega)
      rw [Int.toNat_natCast] at gh
      have e0 : (t : Int) - f = ((t - f : Nat) : Int) := by omega
      rw [e0]
      rw [spansF_two hc] at h3
      have e1 : IntKind.i64.wrap ((f : Int) + (halfN (t - f) : Nat)) = ((f + halfN (t - f) : Nat) : Int) := by rw [wrap64 (by omega) (by omega)]; omega
      have nxt : ∀ f' t', t' - f' ≤ m → f' ≤ t' → t' ≤ n → (f, t) :: spansF f' t' i = (f, t) :: (if i < f + halfN (t - f) then spansF f (f + halfN (t - f)) i else spansF (f + halfN (t - f)) t i) →
          Does PG nG G0 (fnOf PG f_greatsealref_spans) 0 (lp PG f_greatsealref_spans 0)
            (mkT 32 [(1, .int .i64 i), (5, .sl 2 (acc.isEmpty && List.isEmpty [[AV.int .i64 f, AV.int .i64 t]]) (some 0) (acc.map P2 ++ [[AV.int .i64 f, AV.int .i64 t]])), (6, .int .i64 f'), (7, .int .i64 t')])
            [some (.grow 2 (acc.length + List.length [[AV.int .i64 f, AV.int .i64 t]]))] R := by
        intro f' t' g1 g2 g3 g4
        have := ih f' t' (acc ++ [(f, t)]) g1 g2 g3 (by rw [← h3, ← g4, List.append_assoc]; rfl)
        have e2 : (acc ++ [(f, t)]).isEmpty = (acc.isEmpty && List.isEmpty [[AV.int .i64 (f : Int), AV.int .i64 (t : Int)]]) := by cases acc <;> rfl
        rw [List.map_append, e2, List.length_append] at this
        exact this
      refine ⟨fun _ => ⟨?_, trivial, _, gh, ?_⟩, fun h => absurd (show ((t - f : Nat) : Int) > 1 by omega) h⟩
      · simp only [List.length_cons, List.length_nil]; omega
      · rw [e1]
        refine ⟨fun hi => ?_, fun hi => ?_⟩
        · exact nxt f _ (by omega) (by omega) (by omega) (by rw [if_pos (by omega)])
        · exact nxt _ t (by omega) (by omega) h2 (by rw [if_neg (by omega)])

theorem plain_P2 (l : List (Nat × Nat)) : plainXs (l.map P2) := by
  intro x hx y hy
  obtain ⟨s, _, rfl⟩ := List.mem_map.1 hx
  simp [P2] at hy
  rcases hy with rfl | rfl <;> rfl

theorem good_spans_nil (n i : Nat) (hn : n ≤ 1) : Good PG nG G0 f_greatsealref_spans [.int .i64 n, .int .i64 i] [] (.sl 2 true none []) [] := by
  have := good_spans0 (G0 := G0) n i (by omega)
  rw [spansF_one (by omega)] at this
  exact this.forget

theorem good_spans_arr (n i : Nat) (hn : n ≤ 1000) (h2 : 2 ≤ n) : Good PG nG G0 f_greatsealref_spans [.int .i64 n, .int .i64 i] [] (.rsl 2 0 0 ((spansF 0 n i).map P2).length) [some (.arr 2 ((spansF 0 n i).map P2))] := by
  refine Good.thaw (plain_P2 _) ?_
  have := good_spans0 (G0 := G0) n i hn
  have he : (spansF 0 n i).isEmpty = false := by rw [spansF_two (by omega)]; rfl
  rw [he] at this
  rw [List.length_map]
  exact this

theorem good_Reverse_nil : Good PG nG G0 f_slices_Reverse_pair [.sl 2 true none []] [] (.tup []) [] := by
  refine good_of_run prOk (by kernel_rfl) (slices_Reverse_pair_nil_run G0 _ ?_)
  refine does_of_run prOk (slices_Reverse_pair_nil_l0_run G0 _ _ _ _ _ ?_)
  simp only [ifK_iff, decide_eq_true_eq, decide_eq_false_iff_not]
  exact ⟨fun h => absurd h (by decide), fun _ => ⟨trivial, trivial⟩⟩

theorem setR_two (y : List AV) (a b : AV) (h : y.length = 2) : setR y 0 [a, b] = [a, b] := by
  match y, h with
  | [c, d], _ => rfl

theorem good_Reverse (l : List (Nat × Nat)) (hl : l.length ≤ 1000) : Good PG nG G0 f_slices_Reverse_pair [.rsl 2 0 0 (l.map P2).length] [some (.arr 2 (l.map P2))] (.tup []) [some (.arr 2 (l.reverse.map P2))] := by
  refine good_of_run prOk (by kernel_rfl) (slices_Reverse_pair_run _ _ G0 _ ?_)
  rw [List.length_map]
  suffices main : ∀ R : AV → List (Option Blk) → Prop, R (.tup []) [some (.arr 2 (l.reverse.map P2))] → ∀ (m i : Nat) (s : List (Nat × Nat)), l.length - 2 * i ≤ m → 2 * i ≤ l.length + 1 → s.length = l.length → (∀ k, k < l.length → s[k]? = if k < i ∨ l.length - i ≤ k then l[l.length - 1 - k]? else l[k]?) →
      Does PG nG G0 (fnOf PG f_slices_Reverse_pair) 1 (lp PG f_slices_Reverse_pair 0) (mkT 28 [(0, .rsl 2 0 0 l.length), (2, .int .i64 i), (3, .int .i64 ((l.length : Int) - 1 - i))]) [some (.arr 2 (s.map P2))] R by
    have := main (fun r' H'' => r' = .tup [] ∧ H'' = [some (.arr 2 (l.reverse.map P2))]) ⟨rfl, rfl⟩ l.length 0 l (by omega) (by omega) rfl (fun k hk => by rw [if_neg (by omega)])
    rw [wrap64 (by omega) (by omega)]
    simpa using this
  intro R hR m
  have last : ∀ (i : Nat) (s : List (Nat × Nat)), l.length ≤ 2 * i + 1 → 2 * i ≤ l.length + 1 → s.length = l.length → (∀ k, k < l.length → s[k]? = if k < i ∨ l.length - i ≤ k then l[l.length - 1 - k]? else l[k]?) →
      Does PG nG G0 (fnOf PG f_slices_Reverse_pair) 1 (lp PG f_slices_Reverse_pair 0) (mkT 28 [(0, .rsl 2 0 0 l.length), (2, .int .i64 i), (3, .int .i64 ((l.length : Int) - 1 - i))]) [some (.arr 2 (s.map P2))] R := by
    intro i s h1 h2 h3 h4
    refine does_of_run prOk (slices_Reverse_pair_l0_run G0 _ _ _ _ _ R ?_)
    simp only [ifK_iff, decide_eq_true_eq, decide_eq_false_iff_not]
    refine ⟨fun h => absurd h (by omega), fun _ => ?_⟩
    have : s = l.reverse := List.ext_getElem? fun k => by
      rcases Nat.lt_or_ge k l.length with hk | hk
      · rw [h4 k hk, List.getElem?_reverse hk]
        split
        · rfl
        · congr 1; omega
      · rw [List.getElem?_eq_none (by omega), List.getElem?_eq_none (by simpa using hk)]
    rw [this]; exact hR
  induction m with
  | zero => intro i s h1 h2 h3 h4; exact last i s (by omega) h2 h3 h4
  | succ m ih =>
    intro i s h1 h2 h3 h4
    by_cases hc : l.length ≤ 2 * i + 1
    · exact last i s hc h2 h3 h4
    · have hj : ((l.length : Int) - 1 - i) = ((l.length - 1 - i : Nat) : Int) := by omega
      have hil : i < s.length := by omega
      have hjl : l.length - 1 - i < s.length := by omega
      refine does_of_run prOk (slices_Reverse_pair_l0_run G0 _ _ _ _ _ R ?_)
      rw [hj]
      simp only [ifK_iff, decide_eq_true_eq, decide_eq_false_iff_not, Int.toNat_natCast, Nat.zero_add]
      rw [wrapI (by omega) (by omega), wrap64 (by omega) (by omega)]
      have gi : (s.map P2)[i]? = some (P2 s[i]) := getX hil
      have gj : (s.map P2)[l.length - 1 - i]? = some (P2 s[l.length - 1 - i]) := getX hjl
      refine ⟨fun _ => ⟨by omega, by omega, _, _, ⟨_, gj, rfl⟩, by omega, by omega, _, _, ⟨_, gi, rfl⟩, by omega, by omega, by omega, by omega, ?_⟩, fun h => absurd (show (i : Int) < ((l.length - 1 - i : Nat) : Int) by omega) h⟩
      have s1 : setR ((s.map P2).getD i []) 0 [.int .i64 s[l.length - 1 - i].1, .int .i64 s[l.length - 1 - i].2] = P2 s[l.length - 1 - i] := by
        rw [List.getD_eq_getElem?_getD, gi]; exact setR_two _ _ _ rfl
      rw [s1]
      have gj2 : ((s.map P2).set i (P2 s[l.length - 1 - i]))[l.length - 1 - i]? = some (P2 s[l.length - 1 - i]) := by
        rw [List.getElem?_set, if_neg (by omega)]; exact gj
      have s2 : setR (((s.map P2).set i (P2 s[l.length - 1 - i])).getD (l.length - 1 - i) []) 0 [.int .i64 s[i].1, .int .i64 s[i].2] = P2 s[i] := by
        rw [List.getD_eq_getElem?_getD, gj2]; exact setR_two _ _ _ rfl
      rw [s2]
      have hm : ((s.map P2).set i (P2 s[l.length - 1 - i])).set (l.length - 1 - i) (P2 s[i]) = (((s.set i s[l.length - 1 - i]).set (l.length - 1 - i) s[i])).map P2 := by
        rw [List.map_set, List.map_set]
      rw [hm]
      have := ih (i + 1) ((s.set i s[l.length - 1 - i]).set (l.length - 1 - i) s[i]) (by omega) (by omega) (by simpa using h3) (fun k hk => ?_)
      · have e3 : ((l.length : Int) - 1 - ((i + 1 : Nat) : Int)) = ((l.length - 1 - i : Nat) : Int) - 1 := by omega
        rw [e3] at this
        exact this
      · have vi : s[i] = l[i] := by
          have := h4 i (by omega)
          rw [if_neg (by omega), List.getElem?_eq_getElem hil, List.getElem?_eq_getElem (by omega)] at this
          exact Option.some.inj this
        have vj : s[l.length - 1 - i] = l[l.length - 1 - i] := by
          have := h4 (l.length - 1 - i) (by omega)
          rw [if_neg (by omega), List.getElem?_eq_getElem hjl, List.getElem?_eq_getElem (by omega)] at this
          exact Option.some.inj this
        rw [List.getElem?_set, List.getElem?_set]
        by_cases hkj : l.length - 1 - i = k
        · subst hkj
          rw [if_pos rfl, if_pos (by simpa using hjl), if_pos (.inr (by omega)), vi]
          have : l.length - 1 - (l.length - 1 - i) = i := by omega
          rw [this, List.getElem?_eq_getElem (by omega)]
        · rw [if_neg hkj]
          by_cases hki : i = k
          · subst hki
            rw [if_pos rfl, if_pos hil, if_pos (.inl (by omega)), vj, List.getElem?_eq_getElem (by omega)]
          · rw [if_neg hki, h4 k hk]
            by_cases hb : k < i ∨ l.length - i ≤ k
            · rw [if_pos hb, if_pos (by omega)]
            · rw [if_neg hb, if_neg (by omega)]

theorem sub_map {l : List By} (f t : Nat) : List.drop f (List.take t (l.map S1)) = (sub l f t).map S1 := by simp [sub]

theorem pathO_loop (hG : GlobOk G0) (l : List By) (nl : Bool) (i : Nat) (hl : l.length ≤ 24) (rs : List (Nat × Nat)) (nr : Bool) (hr : rs.length ≤ 24) (hrs : ∀ p ∈ rs, p.2 ≤ l.length ∧ 2 ≤ p.2 - p.1) (hi : i ≤ 1000) {R : AV → List (Option Blk) → Prop}
    (hR : R (.tup [.sl 2 rs.isEmpty none ((rs.map (stepOf l i)).map S2), .int .i64 0]) []) :
    ∀ (d k : Nat), rs.length - k ≤ d → k ≤ rs.length → Does PG nG G0 (fnOf PG f_greatsealref_PathOf) 0 (lp PG f_greatsealref_PathOf 0)
      (mkT 81 [(0, .sl 1 nl none (l.map S1)), (1, .int .i64 i), (9, .sl 2 (k == 0) (some 0) (((rs.take k).map (stepOf l i)).map S2)), (38, .sl 2 nr none (rs.map P2)), (39, .int .i64 rs.length), (40, .int .i64 k)]) [some (.grow 2 k)] R := by
  intro d
  have last : ∀ k : Nat, k = rs.length → Does PG nG G0 (fnOf PG f_greatsealref_PathOf) 0 (lp PG f_greatsealref_PathOf 0)
      (mkT 81 [(0, .sl 1 nl none (l.map S1)), (1, .int .i64 i), (9, .sl 2 (k == 0) (some 0) (((rs.take k).map (stepOf l i)).map S2)), (38, .sl 2 nr none (rs.map P2)), (39, .int .i64 rs.length), (40, .int .i64 k)]) [some (.grow 2 k)] R := by
    intro k hk
    subst hk
    refine does_of_run prOk (greatsealref_PathOf_l0_run G0 _ _ _ _ _ _ _ _ _ _ R ?_)
    simp only [ifK_iff, decide_eq_true_eq, decide_eq_false_iff_not]
    refine ⟨fun h => absurd h (by omega), fun _ => ?_⟩
    have e : (rs.length == 0) = rs.isEmpty := by cases rs <;> rfl
    rw [List.take_length, e]; exact hR
  induction d with
  | zero => intro k h1 h2; exact last k (by omega)
  | succ d ih =>
    intro k h1 h2
    by_cases hk : k = rs.length
    · exact last k hk
    · have hkl : k < rs.length := by omega
      obtain ⟨b1, b2⟩ := hrs rs[k] (List.getElem_mem hkl)
      have hk1 := halfN_pos (rs[k].2 - rs[k].1)
      have hk2 := halfN_lt b2
      have gh := good_HalfOf (G0 := G0) ((rs[k].2 - rs[k].1 : Nat) : Int) (by omega)
      rw [Int.toNat_natCast] at gh
      have w1 : IntKind.i64.wrap ((rs[k].2 : Int) - (rs[k].1 : Int)) = ((rs[k].2 - rs[k].1 : Nat) : Int) := by rw [wrap64 (by omega) (by omega)]; omega
      have w2 : IntKind.i64.wrap ((rs[k].1 : Int) + (halfN (rs[k].2 - rs[k].1) : Nat)) = ((midOf rs[k] : Nat) : Int) := by rw [wrap64 (by omega) (by omega)]; unfold midOf; omega
      have hm : midOf rs[k] = rs[k].1 + halfN (rs[k].2 - rs[k].1) := rfl
      have hlen : (((rs.take k).map (stepOf l i)).map S2).length = k := by simp; omega
      refine does_of_run prOk (greatsealref_PathOf_l0_run G0 _ _ _ _ _ _ _ _ _ _ R ?_)
      simp only [ifK_iff, decide_eq_true_eq, decide_eq_false_iff_not, Int.toNat_natCast]
      refine ⟨fun _ => ⟨by omega, _, _, getX hkl, by omega, by omega, by omega, by omega, by omega, by omega, _, by rw [w1]; exact gh, by omega, by omega, ?_⟩, fun h => absurd (show (k : Int) < rs.length by omega) h⟩
      rw [w2]
      have nxt : ∀ (q : List (List AV)), q = [S2 (stepOf l i rs[k])] →
          ((((rs.take k).map (stepOf l i)).map S2).length + q.length) * 24 ≤ 140737488355328 ∧ (((rs.take k).map (stepOf l i)).map S2).length = k ∧
          Does PG nG G0 (fnOf PG f_greatsealref_PathOf) 0 (lp PG f_greatsealref_PathOf 0)
            (mkT 81 [(0, .sl 1 nl none (l.map S1)), (1, .int .i64 i), (9, .sl 2 ((k == 0) && q.isEmpty) (some 0) (((rs.take k).map (stepOf l i)).map S2 ++ q)), (38, .sl 2 nr none (rs.map P2)), (39, .int .i64 rs.length), (40, .int .i64 (IntKind.i64.wrap ((k : Int) + 1)))])
            [some (.grow 2 (k + q.length))] R := by
        intro q hq
        subst hq
        have := ih (k + 1) (by omega) (by omega)
        rw [List.take_succ_eq_append_getElem hkl, List.map_append, List.map_append] at this
        rw [hlen, wrapI (by omega) (by omega)]
        refine ⟨by simp; omega, rfl, ?_⟩
        simp only [List.isEmpty_cons, Bool.and_false]
        exact this
      refine ⟨by omega, by omega, by simp; omega, fun hc => ⟨by omega, by omega, by omega, by omega, by simp; omega, ?_⟩, fun hc => ?_⟩
      · have hc' : midOf rs[k] ≤ i := by omega
        have g := good_RootOf (G0 := G0) hG (sub l rs[k].1 (midOf rs[k])) nl
        have hsl := sub_len (l := l) (f := rs[k].1) (t := midOf rs[k]) (by omega)
        rw [rootOf, if_neg (by omega)] at g
        refine ⟨_, _, by rw [sub_map]; exact g, nxt _ ?_⟩
        simp only [stepOf, sideOf, besideOf, S2, hc', decide_true, if_true]
        congr 3
        simp; omega
      · have hc' : ¬ midOf rs[k] ≤ i := by omega
        have g := good_RootOf (G0 := G0) hG (sub l (midOf rs[k]) rs[k].2) nl
        have hsl := sub_len (l := l) (f := midOf rs[k]) (t := rs[k].2) b1
        rw [rootOf, if_neg (by omega)] at g
        refine ⟨_, _, by rw [sub_map]; exact g, nxt _ ?_⟩
        simp only [stepOf, sideOf, besideOf, S2, hc', decide_false, if_false]
        congr 3
        simp; omega
end Go.Ab

namespace Go.Ab
open Go.Proofs Go.Gs
variable {G0 : Nat → Option Obj}

theorem isEmpty_map {α β : Type} (f : α → β) (l : List α) : (l.map f).isEmpty = l.isEmpty := by cases l <;> rfl
theorem good_PathOf (hG : GlobOk G0) (l : List By) (nl : Bool) (i : Int) :
    Good PG nG G0 f_greatsealref_PathOf [.sl 1 nl none (l.map S1), .int .i64 i] [] (.tup [.sl 2 (pathR l i).1.isEmpty none ((pathR l i).1.map S2), .int .i64 (pathR l i).2]) [] := by
  refine good_of_run prOk (by kernel_rfl) (greatsealref_PathOf_run nl _ i G0 _ ⟨_, _, good_RootOf hG l nl, ?_⟩)
  simp only [ifK_iff, decide_eq_true_eq, decide_eq_false_iff_not, List.length_map, bne_iff_ne, ne_eq, bne_eq_false_iff_eq]
  refine ⟨fun h => ?_, fun h => ⟨fun h2 => ?_, fun h2 => ⟨fun h3 => ?_, fun h3 => ?_⟩⟩⟩
  · rw [pathR, if_pos h]; exact ⟨rfl, trivial⟩
  · rw [pathR, if_neg (by simpa using h), if_pos (.inl h2)]; exact ⟨rfl, trivial⟩
  · rw [pathR, if_neg (by simpa using h), if_pos (.inr h3)]; exact ⟨rfl, trivial⟩
  · obtain ⟨k, rfl⟩ := Int.eq_ofNat_of_zero_le (show 0 ≤ i by omega)
    have hpr : pathR l k = (pathOf l k, 0) := by rw [pathR, if_neg (by simpa using h), if_neg (by omega), Int.toNat_natCast]
    rw [hpr]
    obtain ⟨a, b⟩ := rootOf_ok' h
    have hsp := spans_path l l.length 0 l.length k (by omega) (Nat.zero_le _) (Nat.le_refl _)
    rw [sub_all, Nat.sub_zero] at hsp
    have hlen := spansF_len l.length 0 l.length k (by omega)
    have hin := spansF_in l.length 0 l.length k (by omega)
    have main := pathO_loop (G0 := G0) hG l nl k a (spansF 0 l.length k).reverse (spansF 0 l.length k).isEmpty (by rw [List.length_reverse]; omega) (fun p hp => ⟨(hin p (by simpa using hp)).2.1, (hin p (by simpa using hp)).2.2⟩) (by omega)
      (R := fun r' H'' => r' = .tup [.sl 2 (pathOf l k).isEmpty none ((pathOf l k).map S2), .int .i64 0] ∧ H'' = []) ⟨by rw [hsp, ← isEmpty_map (stepOf l k) (spansF 0 l.length k).reverse, hsp], rfl⟩ (spansF 0 l.length k).reverse.length 0 (by omega) (Nat.zero_le _)
    rcases Nat.lt_or_ge l.length 2 with h4 | h4
    · refine ⟨true, [], fun _ => ⟨good_spans_nil _ _ (by omega), good_Reverse_nil, ?_⟩, fun h => by cases h⟩
      rw [spansF_one (by omega)] at main
      exact main
    · have he : (spansF 0 l.length k).isEmpty = false := by rw [spansF_two (by omega)]; rfl
      refine ⟨false, (spansF 0 l.length k).map P2, fun h => (by cases h), fun _ => ⟨good_spans_arr _ _ (by omega) h4, _, good_Reverse _ (by omega), ?_⟩⟩
      have e : List.take (((spansF 0 l.length k).map P2).length) (List.drop 0 ((spansF 0 l.length k).reverse.map P2)) = (spansF 0 l.length k).reverse.map P2 := by
        rw [List.drop_zero, List.take_of_length_le (by simp)]
      rw [e, List.length_map]
      rw [he] at main
      exact main

theorem pathQ_loop (hG : GlobOk G0) (root : By) (i : Nat) (rs : List (Nat × Nat)) (nr : Bool) (hrs : ∀ p ∈ rs, p.2 ≤ 24 ∧ 2 ≤ p.2 - p.1) (st : List (Bool × By)) (ns : Bool) (hl : rs.length = st.length) (hb : st.length ≤ 1000)
    (hst : ∀ s ∈ st, s.2.length ≤ 4611686018427387903) {R : AV → List (Option Blk) → Prop} :
    ∀ (d k : Nat) (now : By), st.length - k ≤ d → k ≤ st.length → now.length ≤ 4611686018427387903 → R (.int .i64 (fin7 root (climb now ((rs.map (sideOf i)).drop k) (st.drop k)))) [] →
      Does PG nG G0 (fnOf PG f_greatsealref_PathShows) 0 (lp PG f_greatsealref_PathShows 0)
        (mkT 94 [(0, .str root), (2, .int .i64 i), (4, .sl 2 ns none (st.map S2)), (12, .str now), (44, .sl 2 nr none (rs.map P2)), (45, .int .i64 rs.length), (46, .int .i64 k)]) [] R := by
  intro d
  have last : ∀ (k : Nat) (now : By), k = st.length → R (.int .i64 (fin7 root (climb now ((rs.map (sideOf i)).drop k) (st.drop k)))) [] →
      Does PG nG G0 (fnOf PG f_greatsealref_PathShows) 0 (lp PG f_greatsealref_PathShows 0)
        (mkT 94 [(0, .str root), (2, .int .i64 i), (4, .sl 2 ns none (st.map S2)), (12, .str now), (44, .sl 2 nr none (rs.map P2)), (45, .int .i64 rs.length), (46, .int .i64 k)]) [] R := by
    intro k now hk hR
    refine does_of_run prOk (greatsealref_PathShows_l0_run G0 _ _ _ _ _ _ _ _ _ R ?_)
    simp only [ifK_iff, decide_eq_true_eq, decide_eq_false_iff_not, beq_iff_eq, beq_eq_false_iff_ne]
    have hcl : climb now ((rs.map (sideOf i)).drop k) (st.drop k) = (now, 0) := by
      rw [List.drop_eq_nil_of_le (show (rs.map (sideOf i)).length ≤ k by simp; omega)]; rfl
    rw [hcl, fin7_end] at hR
    refine ⟨fun h => absurd h (by omega), fun _ => ⟨fun h => ?_, fun h => ?_⟩⟩
    · simpa [h] using hR
    · simpa [h] using hR
  induction d with
  | zero => intro k now h1 h2 _ hR; exact last k now (by omega) hR
  | succ d ih =>
    intro k now h1 h2 hnow hR
    by_cases hk : k = st.length
    · exact last k now hk hR
    · have hks : k < st.length := by omega
      have hkr : k < rs.length := by omega
      obtain ⟨b1, b2⟩ := hrs rs[k] (List.getElem_mem hkr)
      have hk1 := halfN_pos (rs[k].2 - rs[k].1)
      have hk2 := halfN_lt b2
      have gh := good_HalfOf (G0 := G0) ((rs[k].2 - rs[k].1 : Nat) : Int) (by omega)
      rw [Int.toNat_natCast] at gh
      have w1 : IntKind.i64.wrap ((rs[k].2 : Int) - (rs[k].1 : Int)) = ((rs[k].2 - rs[k].1 : Nat) : Int) := by rw [wrap64 (by omega) (by omega)]; omega
      have w2 : IntKind.i64.wrap ((rs[k].1 : Int) + (halfN (rs[k].2 - rs[k].1) : Nat)) = ((midOf rs[k] : Nat) : Int) := by rw [wrap64 (by omega) (by omega)]; unfold midOf; omega
      have hsb : decide ((i : Int) ≥ ((midOf rs[k] : Nat) : Int)) = sideOf i rs[k] := by unfold sideOf; simp
      have hsl := hst st[k] (List.getElem_mem hks)
      have hbs : (rs.map (sideOf i)).drop k = sideOf i rs[k] :: (rs.map (sideOf i)).drop (k + 1) := by
        rw [List.drop_eq_getElem_cons (by simpa using hkr), List.getElem_map]
      refine does_of_run prOk (greatsealref_PathShows_l0_run G0 _ _ _ _ _ _ _ _ _ R ?_)
      rw [Int.toNat_natCast]
      simp only [ifK_iff, decide_eq_true_eq, decide_eq_false_iff_not, bne_iff_ne, ne_eq, bne_eq_false_iff_eq]
      rw [wrapI (by omega) (by omega)]
      rw [hbs, List.drop_eq_getElem_cons hks, climb] at hR
      have ih := fun now h => ih (k + 1) now (by omega) (by omega) h
      refine ⟨fun _ => ⟨by omega, _, _, getX hkr, by omega, _, _, getX hks, by omega, by omega, by omega, by omega, by omega, by omega, _, by rw [w1]; exact gh, ?_⟩, fun h => absurd (show (k : Int) < rs.length by omega) h⟩
      rw [w2]
      have hsb : decide ((i : Int) ≥ ((midOf rs[k] : Nat) : Int)) = sideOf i rs[k] := hsb
      rw [hsb]
      refine ⟨fun h => ?_, fun h => ⟨by omega, _, _, getX hks, by omega, _, _, getX hks, fun hb => ⟨_, _, good_NodeOf hG _ _ hsl hnow, fun h3 => ?_, fun h3 => ih _ (by have := tNode_len st[k].2 now; omega) ?_⟩, fun hb => ⟨_, _, good_NodeOf hG _ _ hnow hsl, fun h3 => ?_, fun h3 => ih _ (by have := tNode_len now st[k].2; omega) ?_⟩⟩⟩
      · have h : st[k].1 ≠ sideOf i rs[k] := by simpa using h
        rw [if_pos h, fin7_err (by decide)] at hR
        exact hR
      · have h : st[k].1 = sideOf i rs[k] := by simpa using h
        rw [if_neg (show ¬ st[k].1 ≠ sideOf i rs[k] by simpa using h)] at hR
        simp only [up1, hb, if_true] at hR
        rw [if_pos h3, fin7_err h3] at hR
        exact hR
      · have h : st[k].1 = sideOf i rs[k] := by simpa using h
        rw [if_neg (show ¬ st[k].1 ≠ sideOf i rs[k] by simpa using h)] at hR
        simp only [up1, hb, if_true] at hR
        rw [if_neg (show ¬ (tNode st[k].2 now).2 ≠ 0 by simpa using h3)] at hR
        exact hR
      · have h : st[k].1 = sideOf i rs[k] := by simpa using h
        rw [if_neg (show ¬ st[k].1 ≠ sideOf i rs[k] by simpa using h)] at hR
        simp only [up1, hb, Bool.false_eq_true, if_false] at hR
        rw [if_pos h3, fin7_err h3] at hR
        exact hR
      · have h : st[k].1 = sideOf i rs[k] := by simpa using h
        rw [if_neg (show ¬ st[k].1 ≠ sideOf i rs[k] by simpa using h)] at hR
        simp only [up1, hb, Bool.false_eq_true, if_false] at hR
        rw [if_neg (show ¬ (tNode now st[k].2).2 ≠ 0 by simpa using h3)] at hR
        exact hR

theorem good_PathShows (hG : GlobOk G0) (root : By) (n i : Int) (hn : -9223372036854775808 ≤ n ∧ n ≤ 9223372036854775807) (text : By) (ns : Bool) (st : List (Bool × By)) (hst : ∀ s ∈ st, s.2.length ≤ 4611686018427387903) :
    Good PG nG G0 f_greatsealref_PathShows [.str root, .int .i64 n, .int .i64 i, .str text, .sl 2 ns none (st.map S2)] [] (.int .i64 (pathShows root n i text st)) [] := by
  refine good_of_run prOk (by kernel_rfl) (greatsealref_PathShows_run root n i text ns _ G0 _ ⟨_, good_in n 1 24, ?_⟩)
  simp only [ifK_iff, decide_eq_true_eq, decide_eq_false_iff_not, List.length_map, bne_iff_ne, ne_eq, bne_eq_false_iff_eq, Bool.not_eq_true', Bool.not_eq_false']
  refine ⟨fun h => ?_, fun h1 => ⟨_, good_in i 0 _, ?_⟩⟩
  · rw [pathShows, if_pos (by omega)]; exact ⟨rfl, trivial⟩
  · rw [wrap64 (by omega) (by omega)]
    simp only [decide_eq_true_eq, decide_eq_false_iff_not]
    refine ⟨fun h => ?_, fun h2 => ?_⟩
    · rw [pathShows, if_neg (by omega), if_pos (by omega)]; exact ⟨rfl, trivial⟩
    · obtain ⟨a, rfl⟩ := Int.eq_ofNat_of_zero_le (show 0 ≤ n by omega)
      obtain ⟨b, rfl⟩ := Int.eq_ofNat_of_zero_le (show 0 ≤ i by omega)
      have hps : pathShows root a b text st = if (turnsN a b).length ≠ st.length then 7 else if (tLeaf text).2 ≠ 0 then (tLeaf text).2 else fin7 root (climb (tLeaf text).1 (turnsN a b) st) := by
        rw [pathShows, if_neg (by omega), if_neg (by omega), Int.toNat_natCast, Int.toNat_natCast]; rfl
      rw [hps]
      have htn := spans_turns a 0 a b (by omega) (Nat.zero_le _)
      simp only [Nat.sub_zero] at htn
      have hlen := spansF_len a 0 a b (by omega)
      have hin := spansF_in a 0 a b (by omega)
      have htl : (turnsN a b).length = (spansF 0 a b).length := by rw [← htn]; simp
      have main := fun (now : By) hl hb h => pathQ_loop (G0 := G0) hG root b (spansF 0 a b).reverse (spansF 0 a b).isEmpty (fun p hp => by have := hin p (by simpa using hp); omega) st ns hl hb hst
        (R := fun r' H'' => r' = .int .i64 (fin7 root (climb (tLeaf text).1 (turnsN a b) st)) ∧ H'' = []) st.length 0 now (by omega) (by omega) h
      simp only [List.drop_zero, htn, List.length_reverse] at main
      have hll := tLeaf_len text
      rcases Nat.lt_or_ge a 2 with h4 | h4
      · have h0 : (turnsN a b).length = 0 := by rw [turnsN_one (by omega)]; rfl
        rw [spansF_one (by omega)] at main
        refine ⟨true, [], fun _ => ⟨good_spans_nil _ _ (by omega), good_Reverse_nil, fun h => ?_, fun h5 => ⟨_, _, good_LeafOf text, fun h => ?_, fun h6 => ?_⟩⟩, fun h => by cases h⟩
        · rw [if_pos (by omega)]; exact ⟨rfl, trivial⟩
        · rw [if_neg (by omega), if_pos h]; exact ⟨rfl, trivial⟩
        · rw [if_neg (show ¬ (turnsN a b).length ≠ st.length by omega), if_neg (show ¬ (tLeaf text).2 ≠ 0 by simpa using h6)]
          exact main _ (by simp; omega) (by omega) (by omega) ⟨rfl, trivial⟩
      · have he : (spansF 0 a b).isEmpty = false := by rw [spansF_two (by omega)]; rfl
        rw [he] at main
        have e : List.take (((spansF 0 a b).map P2).length) (List.drop 0 ((spansF 0 a b).reverse.map P2)) = (spansF 0 a b).reverse.map P2 := by
          rw [List.drop_zero, List.take_of_length_le (by simp)]
        refine ⟨false, (spansF 0 a b).map P2, fun h => (by cases h), fun _ => ⟨good_spans_arr _ _ (by omega) h4, _, good_Reverse _ (by omega), ?_⟩⟩
        rw [e]
        simp only [List.length_map, List.length_reverse]
        refine ⟨fun h => ?_, fun h5 => ⟨_, _, good_LeafOf text, fun h => ?_, fun h6 => ?_⟩⟩
        · rw [if_pos (by omega)]; exact ⟨rfl, trivial⟩
        · rw [if_neg (by omega), if_pos h]; exact ⟨rfl, trivial⟩
        · rw [if_neg (show ¬ (turnsN a b).length ≠ st.length by omega), if_neg (show ¬ (tLeaf text).2 ≠ 0 by simpa using h6)]
          exact main _ (by omega) (by omega) (by omega) ⟨rfl, trivial⟩

end Go.Ab

namespace Go.Ab
open Go.Proofs
set_option maxRecDepth 100000



end Go.Ab

namespace Go.Ab
open Go.Proofs Go.Gs
variable {G0 : Nat → Option Obj}

theorem pathR_ok {l : List By} {i : Nat} (h : (rootOf l).2 = 0) (hi : i < l.length) : pathR l i = (pathOf l i, 0) := by rw [pathR, if_neg (by simpa using h), if_neg (by omega), Int.toNat_natCast]

theorem pathR_len (l : List By) (i : Int) : (pathR l i).1.length ≤ 24 := by
  unfold pathR
  split
  · simp
  · rename_i h
    have h : (rootOf l).2 = 0 := by simpa using h
    split
    · simp
    · have := pathOf_len l i.toNat
      have := (rootOf_ok' h).1
      simp only; omega

end Go.Ab

namespace Go.Ab
open Go.Proofs
set_option maxRecDepth 100000

def an_greatseal_grow_shower_last : FAnn := ⟨[], [], none, []⟩
def an_greatseal_grow_shower_node : FAnn := ⟨[], [], none, []⟩
def an_greatseal_grow_shower_both : FAnn := ⟨[(4, 1, ⟨[0], [], []⟩), (7, 1, ⟨[0], [], []⟩), (9, 5, ⟨[0], [], []⟩), (10, 4, ⟨[0], [], []⟩), (11, 8, ⟨[0], [], []⟩), (12, 3, ⟨[0], [], []⟩), (12, 7, ⟨[0], [], []⟩)], [], none, []⟩
def an_grow_Shows : FAnn := ⟨[(4, 4, ⟨[0], [], []⟩)], [], none, []⟩
def an_grow_of : FAnn := ⟨[(10, 3, ⟨[], [0], []⟩)], [], some [6], []⟩
def an_grow_Of : FAnn := ⟨[(6, 2, ⟨[], [0], []⟩)], [], none, []⟩
def an_greatsealref_parts : FAnn := ⟨[], [(0, [0, 4, 5, 6, 7, 8], [4])], some [4], []⟩
def an_greatsealref_GrowthOf : FAnn := ⟨[(6, 3, ⟨[], [], [0]⟩), (11, 1, ⟨[0], [], []⟩)], [(0, [0, 11, 57, 58, 59], [11])], none, [(12, [0])]⟩
def an_greatsealref_GrowthShows : FAnn := ⟨[(3, 2, ⟨[], [], [0]⟩), (13, 1, ⟨[0], [], []⟩)], [(0, [0, 2, 4, 12, 15, 16, 59, 60, 61], [])], none, [(14, [0])]⟩

theorem greatseal_grow_shower_last_run (nl : Bool) (l : List (List AV)) (bad : Bool) (G0 : Nat → Option Go.Obj) (R : AV → List (Option Blk) → Prop) (h :
  ifK ((↑(List.length l) : Int) == (0 : Int)) (R (AV.str []) [some (Blk.var [AV.sl (1 : Nat) nl none l, AV.bool true])])
  ((0 : Int) ≤ Go.IntKind.wrap Go.IntKind.i64 ((↑(List.length l) : Int) - (1 : Int)) ∧
    ∃ s0,
      l[Int.toNat (Go.IntKind.wrap Go.IntKind.i64 ((↑(List.length l) : Int) - (1 : Int)))]? = some [AV.str s0] ∧
        (0 : Int) ≤ (0 : Int) ∧
          (0 : Int) ≤ Go.IntKind.wrap Go.IntKind.i64 ((↑(List.length l) : Int) - (1 : Int)) ∧
            Go.IntKind.wrap Go.IntKind.i64 ((↑(List.length l) : Int) - (1 : Int)) ≤ (↑(List.length l) : Int) ∧
              R (AV.str s0) [some (Blk.var [AV.sl (1 : Nat) nl none (List.drop (0 : Nat) (List.take (Int.toNat (Go.IntKind.wrap Go.IntKind.i64 ((↑(List.length l) : Int) - (1 : Int)))) l)), AV.bool bad])])) :
  Hold (runF PG ty nG G0 an_greatseal_grow_shower_last f_greatseal_grow_shower_last [AV.ref (0 : Nat) (0 : Nat)] [some (Blk.var [AV.sl (1 : Nat) nl none l, AV.bool bad])] R) := kshow h (by kernel_rfl)

theorem greatseal_grow_shower_node_run (nl : Bool) (l : List (List AV)) (bad : Bool) (a : List UInt8) (b : List UInt8) (G0 : Nat → Option Go.Obj) (R : AV → List (Option Blk) → Prop) (h :
  ∃ s0 n1,
  Good PG nG G0 f_seal_Node [AV.str a, AV.str b] [] (AV.tup [AV.str s0, AV.int Go.IntKind.i64 n1]) [] ∧
    ifK bad (R (AV.str s0) [some (Blk.var [AV.sl (1 : Nat) nl none l, AV.bool true])]) (R (AV.str s0) [some (Blk.var [AV.sl (1 : Nat) nl none l, AV.bool (n1 != (0 : Int))])])) :
  Hold (runF PG ty nG G0 an_greatseal_grow_shower_node f_greatseal_grow_shower_node [AV.ref (0 : Nat) (0 : Nat), AV.str a, AV.str b] [some (Blk.var [AV.sl (1 : Nat) nl none l, AV.bool bad])] R) := kshow h (by kernel_rfl)

theorem greatseal_grow_shower_both_run (nl : Bool) (l : List (List AV)) (bad : Bool) (m : Int) (n : Int) (old : List UInt8) (known : Bool) (G0 : Nat → Option Go.Obj) (R : AV → List (Option Blk) → Prop) (h :
  ifK (m == n)
  (ifK known (R (AV.tup [AV.str old, AV.str old]) [some (Blk.var [AV.sl (1 : Nat) nl none l, AV.bool bad])])
    (∃ s0 b1 xs2 b3,
      Good PG nG G0 f_greatseal_grow_shower_last [AV.ref (0 : Nat) (0 : Nat)] [some (Blk.var [AV.sl (1 : Nat) nl none l, AV.bool bad])] (AV.str s0) [some (Blk.var [AV.sl (1 : Nat) b1 none xs2, AV.bool b3])] ∧
        R (AV.tup [AV.str s0, AV.str s0]) [some (Blk.var [AV.sl (1 : Nat) b1 none xs2, AV.bool b3])]))
  (∃ n4 n5,
    Good PG nG G0 f_tree_Half [AV.int Go.IntKind.i64 n] [] (AV.tup [AV.int Go.IntKind.i64 n4, AV.int Go.IntKind.i64 n5]) [] ∧
      ∃ s6 b7 xs8 b9,
        Good PG nG G0 f_greatseal_grow_shower_last [AV.ref (0 : Nat) (0 : Nat)] [some (Blk.var [AV.sl (1 : Nat) nl none l, AV.bool bad])] (AV.str s6) [some (Blk.var [AV.sl (1 : Nat) b7 none xs8, AV.bool b9])] ∧
          ifK (decide (m ≤ n4))
            (∃ s10 s11 b12 xs13 b14,
              Good PG nG G0 f_greatseal_grow_shower_both [AV.ref (0 : Nat) (0 : Nat), AV.int Go.IntKind.i64 m, AV.int Go.IntKind.i64 n4, AV.str old, AV.bool known] [some (Blk.var [AV.sl (1 : Nat) b7 none xs8, AV.bool b9])]
                  (AV.tup [AV.str s10, AV.str s11]) [some (Blk.var [AV.sl (1 : Nat) b12 none xs13, AV.bool b14])] ∧
                ∃ s15 b16 xs17 b18,
                  Good PG nG G0 f_greatseal_grow_shower_node [AV.ref (0 : Nat) (0 : Nat), AV.str s11, AV.str s6] [some (Blk.var [AV.sl (1 : Nat) b12 none xs13, AV.bool b14])] (AV.str s15) [some (Blk.var [AV.sl (1 : Nat) b16 none xs17, AV.bool b18])] ∧
                    R (AV.tup [AV.str s10, AV.str s15]) [some (Blk.var [AV.sl (1 : Nat) b16 none xs17, AV.bool b18])])
            (∃ s19 s20 b21 xs22 b23,
              Good PG nG G0 f_greatseal_grow_shower_both [AV.ref (0 : Nat) (0 : Nat), AV.int Go.IntKind.i64 (Go.IntKind.wrap Go.IntKind.i64 (m - n4)), AV.int Go.IntKind.i64 (Go.IntKind.wrap Go.IntKind.i64 (n - n4)), AV.str old, AV.bool false]
                  [some (Blk.var [AV.sl (1 : Nat) b7 none xs8, AV.bool b9])] (AV.tup [AV.str s19, AV.str s20]) [some (Blk.var [AV.sl (1 : Nat) b21 none xs22, AV.bool b23])] ∧
                ∃ s24 b25 xs26 b27,
                  Good PG nG G0 f_greatseal_grow_shower_node [AV.ref (0 : Nat) (0 : Nat), AV.str s6, AV.str s19] [some (Blk.var [AV.sl (1 : Nat) b21 none xs22, AV.bool b23])] (AV.str s24) [some (Blk.var [AV.sl (1 : Nat) b25 none xs26, AV.bool b27])] ∧
                    ∃ s28 b29 xs30 b31,
                      Good PG nG G0 f_greatseal_grow_shower_node [AV.ref (0 : Nat) (0 : Nat), AV.str s6, AV.str s20] [some (Blk.var [AV.sl (1 : Nat) b25 none xs26, AV.bool b27])] (AV.str s28)
                          [some (Blk.var [AV.sl (1 : Nat) b29 none xs30, AV.bool b31])] ∧
                        R (AV.tup [AV.str s24, AV.str s28]) [some (Blk.var [AV.sl (1 : Nat) b29 none xs30, AV.bool b31])]))) :
  Hold (runF PG ty nG G0 an_greatseal_grow_shower_both f_greatseal_grow_shower_both [AV.ref (0 : Nat) (0 : Nat), AV.int Go.IntKind.i64 m, AV.int Go.IntKind.i64 n, AV.str old, AV.bool known] [some (Blk.var [AV.sl (1 : Nat) nl none l, AV.bool bad])] R) := kshow h (by kernel_rfl)

theorem grow_Shows_run (old0 : List UInt8) (m1 : Int) (root2 : List UInt8) (n3 : Int) (nll4 : Bool) (l4 : List (List AV)) (G0 : Nat → Option Go.Obj) (R : AV → List (Option Blk) → Prop) (h :
  ifK (decide (m1 < (1 : Int))) (R (AV.int Go.IntKind.i64 (3 : Int)) [])
  (ifK (decide (n3 < m1)) (R (AV.int Go.IntKind.i64 (3 : Int)) [])
    (ifK (decide (n3 > (24 : Int))) (R (AV.int Go.IntKind.i64 (3 : Int)) [])
      (∃ s0 s1 b2 xs3 b4,
        Good PG nG G0 f_greatseal_grow_shower_both [AV.ref (0 : Nat) (0 : Nat), AV.int Go.IntKind.i64 m1, AV.int Go.IntKind.i64 n3, AV.str old0, AV.bool true] [some (Blk.var [AV.sl (1 : Nat) nll4 none l4, AV.bool false])]
            (AV.tup [AV.str s0, AV.str s1]) [some (Blk.var [AV.sl (1 : Nat) b2 none xs3, AV.bool b4])] ∧
          ifK b4 (R (AV.int Go.IntKind.i64 (7 : Int)) [])
            (ifK (decide ((↑(List.length xs3) : Int) > (0 : Int))) (R (AV.int Go.IntKind.i64 (7 : Int)) [])
              (ifK (!s0 == old0) (R (AV.int Go.IntKind.i64 (7 : Int)) []) (ifK (!s1 == root2) (R (AV.int Go.IntKind.i64 (7 : Int)) []) (R (AV.int Go.IntKind.i64 (0 : Int)) [])))))))) :
  Hold (runF PG ty nG G0 an_grow_Shows f_grow_Shows [AV.str old0, AV.int Go.IntKind.i64 m1, AV.str root2, AV.int Go.IntKind.i64 n3, AV.sl (1 : Nat) nll4 none l4] [] R) := kshow h (by kernel_rfl)

theorem grow_of_run (nll0 : Bool) (l0 : List (List AV)) (m1 : Int) (known2 : Bool) (G0 : Nat → Option Go.Obj) (R : AV → List (Option Blk) → Prop) (h :
  ifK (m1 == (↑(List.length l0) : Int))
  (ifK known2 (R (AV.tup [AV.sl (1 : Nat) true (some (0 : Nat)) [], AV.int Go.IntKind.i64 (0 : Int)]) [some (Blk.grow (1 : Nat) (0 : Nat))])
    (∃ s0 n1,
      Good PG nG G0 f_tree_Root [AV.sl (1 : Nat) nll0 none l0] [] (AV.tup [AV.str s0, AV.int Go.IntKind.i64 n1]) [] ∧
        R (AV.tup [AV.sl (1 : Nat) false (some (0 : Nat)) [[AV.str s0]], AV.int Go.IntKind.i64 n1]) [some (Blk.grow (1 : Nat) (1 : Nat))]))
  (∃ n2 n3,
    Good PG nG G0 f_tree_Half [AV.int Go.IntKind.i64 (↑(List.length l0) : Int)] [] (AV.tup [AV.int Go.IntKind.i64 n2, AV.int Go.IntKind.i64 n3]) [] ∧
      (0 : Int) ≤ (0 : Int) ∧
        (0 : Int) ≤ n2 ∧
          n2 ≤ (↑(List.length l0) : Int) ∧
            (0 : Int) ≤ n2 ∧
              n2 ≤ (↑(List.length l0) : Int) ∧
                (↑(List.length l0) : Int) ≤ (↑(List.length l0) : Int) ∧
                  ifK (decide (m1 > n2))
                    (∃ b4 xs5 n6,
                      Good PG nG G0 f_grow_of
                          [AV.sl (1 : Nat) nll0 none (List.drop (Int.toNat n2) (List.take (Int.toNat (↑(List.length l0) : Int)) l0)), AV.int Go.IntKind.i64 (Go.IntKind.wrap Go.IntKind.i64 (m1 - n2)), AV.bool false] []
                          (AV.tup [AV.sl (1 : Nat) b4 (some (0 : Nat)) xs5, AV.int Go.IntKind.i64 n6]) [some (Blk.grow (1 : Nat) (List.length xs5))] ∧
                        ifK (n6 != (0 : Int)) (R (AV.tup [AV.sl (1 : Nat) true (some (0 : Nat)) [], AV.int Go.IntKind.i64 n6]) [some (Blk.grow (1 : Nat) (0 : Nat))])
                          (∃ s7 n8,
                            Good PG nG G0 f_tree_Root [AV.sl (1 : Nat) nll0 none (List.drop (0 : Nat) (List.take (Int.toNat n2) l0))] [] (AV.tup [AV.str s7, AV.int Go.IntKind.i64 n8]) [] ∧
                              ifK (n8 != (0 : Int)) (R (AV.tup [AV.sl (1 : Nat) true (some (0 : Nat)) [], AV.int Go.IntKind.i64 n8]) [some (Blk.grow (1 : Nat) (0 : Nat))])
                                ((List.length xs5 + List.length [[AV.str s7]]) * (16 : Nat) ≤ (140737488355328 : Nat) ∧
                                  List.length xs5 = List.length xs5 ∧
                                    R (AV.tup [AV.sl (1 : Nat) (b4 && List.isEmpty [[AV.str s7]]) (some (0 : Nat)) (xs5 ++ [[AV.str s7]]), AV.int Go.IntKind.i64 (0 : Int)])
                                      [some (Blk.grow (1 : Nat) (List.length xs5 + List.length [[AV.str s7]]))])))
                    (∃ b9 xs10 n11,
                      Good PG nG G0 f_grow_of [AV.sl (1 : Nat) nll0 none (List.drop (0 : Nat) (List.take (Int.toNat n2) l0)), AV.int Go.IntKind.i64 m1, AV.bool known2] []
                          (AV.tup [AV.sl (1 : Nat) b9 (some (0 : Nat)) xs10, AV.int Go.IntKind.i64 n11]) [some (Blk.grow (1 : Nat) (List.length xs10))] ∧
                        ifK (n11 != (0 : Int)) (R (AV.tup [AV.sl (1 : Nat) true (some (0 : Nat)) [], AV.int Go.IntKind.i64 n11]) [some (Blk.grow (1 : Nat) (0 : Nat))])
                          (∃ s12 n13,
                            Good PG nG G0 f_tree_Root [AV.sl (1 : Nat) nll0 none (List.drop (Int.toNat n2) (List.take (Int.toNat (↑(List.length l0) : Int)) l0))] [] (AV.tup [AV.str s12, AV.int Go.IntKind.i64 n13]) [] ∧
                              ifK (n13 != (0 : Int)) (R (AV.tup [AV.sl (1 : Nat) true (some (0 : Nat)) [], AV.int Go.IntKind.i64 n13]) [some (Blk.grow (1 : Nat) (0 : Nat))])
                                ((List.length xs10 + List.length [[AV.str s12]]) * (16 : Nat) ≤ (140737488355328 : Nat) ∧
                                  List.length xs10 = List.length xs10 ∧
                                    R (AV.tup [AV.sl (1 : Nat) (b9 && List.isEmpty [[AV.str s12]]) (some (0 : Nat)) (xs10 ++ [[AV.str s12]]), AV.int Go.IntKind.i64 (0 : Int)])
                                      [some (Blk.grow (1 : Nat) (List.length xs10 + List.length [[AV.str s12]]))]))))) :
  Hold (runF PG ty nG G0 an_grow_of f_grow_of [AV.sl (1 : Nat) nll0 none l0, AV.int Go.IntKind.i64 m1, AV.bool known2] [] R) := kshow h (by kernel_rfl)

theorem grow_Of_run (nll0 : Bool) (l0 : List (List AV)) (m1 : Int) (G0 : Nat → Option Go.Obj) (R : AV → List (Option Blk) → Prop) (h :
  ∃ s0 n1,
  Good PG nG G0 f_tree_Root [AV.sl (1 : Nat) nll0 none l0] [] (AV.tup [AV.str s0, AV.int Go.IntKind.i64 n1]) [] ∧
    ifK (n1 != (0 : Int)) (R (AV.tup [AV.sl (1 : Nat) true none [], AV.int Go.IntKind.i64 n1]) [])
      (ifK (decide (m1 < (1 : Int))) (R (AV.tup [AV.sl (1 : Nat) true none [], AV.int Go.IntKind.i64 (3 : Int)]) [])
        (ifK (decide (m1 > (↑(List.length l0) : Int))) (R (AV.tup [AV.sl (1 : Nat) true none [], AV.int Go.IntKind.i64 (3 : Int)]) [])
          (∃ b2 xs3 n4,
            Good PG nG G0 f_grow_of [AV.sl (1 : Nat) nll0 none l0, AV.int Go.IntKind.i64 m1, AV.bool true] [] (AV.tup [AV.sl (1 : Nat) b2 (some (0 : Nat)) xs3, AV.int Go.IntKind.i64 n4])
                [some (Blk.grow (1 : Nat) (List.length xs3))] ∧
              R (AV.tup [AV.sl (1 : Nat) b2 none xs3, AV.int Go.IntKind.i64 n4]) [])))) :
  Hold (runF PG ty nG G0 an_grow_Of f_grow_Of [AV.sl (1 : Nat) nll0 none l0, AV.int Go.IntKind.i64 m1] [] R) := kshow h (by kernel_rfl)

theorem greatsealref_parts_run (m0 : Int) (n1 : Int) (G0 : Nat → Option Go.Obj) (R : AV → List (Option Blk) → Prop) (h :
  Does PG nG G0 (fnOf PG f_greatsealref_parts) (0 : Nat) (lp PG f_greatsealref_parts (0 : Nat))
  (mkT (42 : Nat)
    [((0 : Nat), AV.int Go.IntKind.i64 m0), ((4 : Nat), AV.sl (2 : Nat) true (some (0 : Nat)) []), ((5 : Nat), AV.ref (1 : Nat) (0 : Nat)), ((6 : Nat), AV.bool true), ((7 : Nat), AV.int Go.IntKind.i64 (0 : Int)),
      ((8 : Nat), AV.int Go.IntKind.i64 n1)])
  [some (Blk.grow (2 : Nat) (0 : Nat)), some (Blk.var [AV.int Go.IntKind.i64 (0 : Int), AV.int Go.IntKind.i64 (0 : Int)])] R) :
  Hold (runF PG ty nG G0 an_greatsealref_parts f_greatsealref_parts [AV.int Go.IntKind.i64 m0, AV.int Go.IntKind.i64 n1] [] R) := kshow h (by kernel_rfl)

theorem greatsealref_parts_l0_run (G0 : Nat → Option Obj) (n0 : Int) (b1 : Bool) (xs2 : List (List AV)) (b3 : Bool) (n4 : Int) (n5 : Int) (m6 : Nat) (n7 : Int) (n8 : Int) (R : AV → List (Option Blk) → Prop) (h :
  ifK (decide (n0 < n5))
  (∃ n9,
    Good PG nG G0 f_greatsealref_HalfOf [AV.int Go.IntKind.i64 (Go.IntKind.wrap Go.IntKind.i64 (n5 - n4))] [] (AV.int Go.IntKind.i64 n9) [] ∧
      ifK (decide (n0 ≤ Go.IntKind.wrap Go.IntKind.i64 (n4 + n9)))
        ((List.length xs2 + List.length [[AV.int Go.IntKind.i64 (Go.IntKind.wrap Go.IntKind.i64 (n4 + n9)), AV.int Go.IntKind.i64 n5]]) * (16 : Nat) ≤ (140737488355328 : Nat) ∧
          List.length xs2 = m6 ∧
            Does PG nG G0 (fnOf PG f_greatsealref_parts) (0 : Nat) (lp PG f_greatsealref_parts (0 : Nat))
              (mkT (42 : Nat)
                [((0 : Nat), AV.int Go.IntKind.i64 n0),
                  ((4 : Nat),
                    AV.sl (2 : Nat) (b1 && List.isEmpty [[AV.int Go.IntKind.i64 (Go.IntKind.wrap Go.IntKind.i64 (n4 + n9)), AV.int Go.IntKind.i64 n5]]) (some (0 : Nat))
                      (xs2 ++ [[AV.int Go.IntKind.i64 (Go.IntKind.wrap Go.IntKind.i64 (n4 + n9)), AV.int Go.IntKind.i64 n5]])),
                  ((5 : Nat), AV.ref (1 : Nat) (0 : Nat)), ((6 : Nat), AV.bool b3), ((7 : Nat), AV.int Go.IntKind.i64 n4), ((8 : Nat), AV.int Go.IntKind.i64 (Go.IntKind.wrap Go.IntKind.i64 (n4 + n9)))])
              [some (Blk.grow (2 : Nat) (m6 + List.length [[AV.int Go.IntKind.i64 (Go.IntKind.wrap Go.IntKind.i64 (n4 + n9)), AV.int Go.IntKind.i64 n5]])), some (Blk.var [AV.int Go.IntKind.i64 n7, AV.int Go.IntKind.i64 n8])] R)
        ((List.length xs2 + List.length [[AV.int Go.IntKind.i64 n4, AV.int Go.IntKind.i64 (Go.IntKind.wrap Go.IntKind.i64 (n4 + n9))]]) * (16 : Nat) ≤ (140737488355328 : Nat) ∧
          List.length xs2 = m6 ∧
            Does PG nG G0 (fnOf PG f_greatsealref_parts) (0 : Nat) (lp PG f_greatsealref_parts (0 : Nat))
              (mkT (42 : Nat)
                [((0 : Nat), AV.int Go.IntKind.i64 n0),
                  ((4 : Nat),
                    AV.sl (2 : Nat) (b1 && List.isEmpty [[AV.int Go.IntKind.i64 n4, AV.int Go.IntKind.i64 (Go.IntKind.wrap Go.IntKind.i64 (n4 + n9))]]) (some (0 : Nat))
                      (xs2 ++ [[AV.int Go.IntKind.i64 n4, AV.int Go.IntKind.i64 (Go.IntKind.wrap Go.IntKind.i64 (n4 + n9))]])),
                  ((5 : Nat), AV.ref (1 : Nat) (0 : Nat)), ((6 : Nat), AV.bool false), ((7 : Nat), AV.int Go.IntKind.i64 (Go.IntKind.wrap Go.IntKind.i64 (n4 + n9))), ((8 : Nat), AV.int Go.IntKind.i64 n5)])
              [some (Blk.grow (2 : Nat) (m6 + List.length [[AV.int Go.IntKind.i64 n4, AV.int Go.IntKind.i64 (Go.IntKind.wrap Go.IntKind.i64 (n4 + n9))]])), some (Blk.var [AV.int Go.IntKind.i64 n7, AV.int Go.IntKind.i64 n8])] R))
  (R (AV.tup [AV.sl (2 : Nat) b1 (some (0 : Nat)) xs2, AV.agg [AV.int Go.IntKind.i64 n4, AV.int Go.IntKind.i64 n5], AV.bool b3]) [some (Blk.grow (2 : Nat) m6)])) :
  Hold (runL PG ty nG G0 an_greatsealref_parts f_greatsealref_parts (0 : Nat) (0 : Nat)
  (mkT (42 : Nat)
    [((0 : Nat), AV.int Go.IntKind.i64 n0), ((4 : Nat), AV.sl (2 : Nat) b1 (some (0 : Nat)) xs2), ((5 : Nat), AV.ref (1 : Nat) (0 : Nat)), ((6 : Nat), AV.bool b3), ((7 : Nat), AV.int Go.IntKind.i64 n4),
      ((8 : Nat), AV.int Go.IntKind.i64 n5)])
  [some (Blk.grow (2 : Nat) m6), some (Blk.var [AV.int Go.IntKind.i64 n7, AV.int Go.IntKind.i64 n8])] R) := kshow h (by kernel_rfl)

theorem greatsealref_GrowthOf_run (nll0 : Bool) (l0 : List (List AV)) (m1 : Int) (G0 : Nat → Option Go.Obj) (R : AV → List (Option Blk) → Prop) (h :
  ∃ s0 n1,
  Good PG nG G0 f_greatsealref_RootOf [AV.sl (1 : Nat) nll0 none l0] [] (AV.tup [AV.str s0, AV.int Go.IntKind.i64 n1]) [] ∧
    ifK (n1 != (0 : Int)) (R (AV.tup [AV.sl (1 : Nat) true none [], AV.int Go.IntKind.i64 n1]) [])
      (∃ b2,
        Good PG nG G0 f_greatsealref_in [AV.int Go.IntKind.i64 m1, AV.int Go.IntKind.i64 (1 : Int), AV.int Go.IntKind.i64 (↑(List.length l0) : Int)] [] (AV.bool b2) [] ∧
          ifK (!b2) (R (AV.tup [AV.sl (1 : Nat) true none [], AV.int Go.IntKind.i64 (3 : Int)]) [])
            (∃ b3 xs4 n5 n6 b7,
              ifK b3
                (Good PG nG G0 f_greatsealref_parts [AV.int Go.IntKind.i64 m1, AV.int Go.IntKind.i64 (↑(List.length l0) : Int)] [] (AV.tup [AV.sl (2 : Nat) true none [], AV.agg [AV.int Go.IntKind.i64 n5, AV.int Go.IntKind.i64 n6], AV.bool b7])
                    [] ∧
                  ifK (!b7)
                    ((0 : Int) ≤ (0 : Int) ∧
                      (0 : Int) < (2 : Int) ∧
                        (0 : Int) ≤ (1 : Int) ∧
                          (1 : Int) < (2 : Int) ∧
                            (0 : Int) ≤ n5 ∧
                              n5 ≤ n6 ∧
                                n6 ≤ (↑(List.length l0) : Int) ∧
                                  ∃ s8 n9,
                                    Good PG nG G0 f_greatsealref_RootOf [AV.sl (1 : Nat) nll0 none (List.drop (Int.toNat n5) (List.take (Int.toNat n6) l0))] [] (AV.tup [AV.str s8, AV.int Go.IntKind.i64 n9]) [] ∧
                                      List.length [[AV.str s8]] * (16 : Nat) ≤ (140737488355328 : Nat) ∧
                                        Good PG nG G0 f_slices_Reverse_pair [AV.sl (2 : Nat) true none []] [] (AV.tup []) [] ∧
                                          Does PG nG G0 (fnOf PG f_greatsealref_GrowthOf) (0 : Nat) (lp PG f_greatsealref_GrowthOf (0 : Nat))
                                            (mkT (79 : Nat)
                                              [((0 : Nat), AV.sl (1 : Nat) nll0 none l0), ((11 : Nat), AV.sl (1 : Nat) (List.isEmpty [[AV.str s8]]) (some (0 : Nat)) [[AV.str s8]]), ((57 : Nat), AV.sl (2 : Nat) true none []),
                                                ((58 : Nat), AV.int Go.IntKind.i64 (0 : Int)), ((59 : Nat), AV.int Go.IntKind.i64 (0 : Int))])
                                            [some (Blk.grow (1 : Nat) (List.length [[AV.str s8]]))] R)
                    (Good PG nG G0 f_slices_Reverse_pair [AV.sl (2 : Nat) true none []] [] (AV.tup []) [] ∧
                      Does PG nG G0 (fnOf PG f_greatsealref_GrowthOf) (0 : Nat) (lp PG f_greatsealref_GrowthOf (0 : Nat))
                        (mkT (79 : Nat)
                          [((0 : Nat), AV.sl (1 : Nat) nll0 none l0), ((11 : Nat), AV.sl (1 : Nat) true (some (0 : Nat)) []), ((57 : Nat), AV.sl (2 : Nat) true none []), ((58 : Nat), AV.int Go.IntKind.i64 (0 : Int)),
                            ((59 : Nat), AV.int Go.IntKind.i64 (0 : Int))])
                        [some (Blk.grow (1 : Nat) (0 : Nat))] R))
                (Good PG nG G0 f_greatsealref_parts [AV.int Go.IntKind.i64 m1, AV.int Go.IntKind.i64 (↑(List.length l0) : Int)] []
                    (AV.tup [AV.rsl (2 : Nat) (0 : Nat) (0 : Nat) (List.length xs4), AV.agg [AV.int Go.IntKind.i64 n5, AV.int Go.IntKind.i64 n6], AV.bool b7]) [some (Blk.arr (2 : Nat) xs4)] ∧
                  ifK (!b7)
                    ((0 : Int) ≤ (0 : Int) ∧
                      (0 : Int) < (2 : Int) ∧
                        (0 : Int) ≤ (1 : Int) ∧
                          (1 : Int) < (2 : Int) ∧
                            (0 : Int) ≤ n5 ∧
                              n5 ≤ n6 ∧
                                n6 ≤ (↑(List.length l0) : Int) ∧
                                  ∃ s10 n11,
                                    Good PG nG G0 f_greatsealref_RootOf [AV.sl (1 : Nat) nll0 none (List.drop (Int.toNat n5) (List.take (Int.toNat n6) l0))] [] (AV.tup [AV.str s10, AV.int Go.IntKind.i64 n11]) [] ∧
                                      List.length [[AV.str s10]] * (16 : Nat) ≤ (140737488355328 : Nat) ∧
                                        ∃ xs12,
                                          Good PG nG G0 f_slices_Reverse_pair [AV.rsl (2 : Nat) (0 : Nat) (0 : Nat) (List.length xs4)] [some (Blk.arr (2 : Nat) xs4)] (AV.tup []) [some (Blk.arr (2 : Nat) xs12)] ∧
                                            Does PG nG G0 (fnOf PG f_greatsealref_GrowthOf) (0 : Nat) (lp PG f_greatsealref_GrowthOf (0 : Nat))
                                              (mkT (79 : Nat)
                                                [((0 : Nat), AV.sl (1 : Nat) nll0 none l0), ((11 : Nat), AV.sl (1 : Nat) (List.isEmpty [[AV.str s10]]) (some (0 : Nat)) [[AV.str s10]]),
                                                  ((57 : Nat), AV.sl (2 : Nat) false none (List.take (List.length xs4) (List.drop (0 : Nat) xs12))),
                                                  ((58 : Nat), AV.int Go.IntKind.i64 (↑(List.length (List.take (List.length xs4) (List.drop (0 : Nat) xs12))) : Int)), ((59 : Nat), AV.int Go.IntKind.i64 (0 : Int))])
                                              [some (Blk.grow (1 : Nat) (List.length [[AV.str s10]]))] R)
                    (∃ xs13,
                      Good PG nG G0 f_slices_Reverse_pair [AV.rsl (2 : Nat) (0 : Nat) (0 : Nat) (List.length xs4)] [some (Blk.arr (2 : Nat) xs4)] (AV.tup []) [some (Blk.arr (2 : Nat) xs13)] ∧
                        Does PG nG G0 (fnOf PG f_greatsealref_GrowthOf) (0 : Nat) (lp PG f_greatsealref_GrowthOf (0 : Nat))
                          (mkT (79 : Nat)
                            [((0 : Nat), AV.sl (1 : Nat) nll0 none l0), ((11 : Nat), AV.sl (1 : Nat) true (some (0 : Nat)) []), ((57 : Nat), AV.sl (2 : Nat) false none (List.take (List.length xs4) (List.drop (0 : Nat) xs13))),
                              ((58 : Nat), AV.int Go.IntKind.i64 (↑(List.length (List.take (List.length xs4) (List.drop (0 : Nat) xs13))) : Int)), ((59 : Nat), AV.int Go.IntKind.i64 (0 : Int))])
                          [some (Blk.grow (1 : Nat) (0 : Nat))] R))))) :
  Hold (runF PG ty nG G0 an_greatsealref_GrowthOf f_greatsealref_GrowthOf [AV.sl (1 : Nat) nll0 none l0, AV.int Go.IntKind.i64 m1] [] R) := kshow h (by kernel_rfl)

theorem greatsealref_GrowthOf_l0_run (G0 : Nat → Option Obj) (b14 : Bool) (xs15 : List (List AV)) (b16 : Bool) (xs17 : List (List AV)) (b18 : Bool) (xs19 : List (List AV)) (n20 : Int) (n21 : Int) (m22 : Nat) (R : AV → List (Option Blk) → Prop) (h :
  ifK (decide (n21 < n20))
  ((0 : Int) ≤ n21 ∧
    ∃ n23 n24,
      xs19[Int.toNat n21]? = some [AV.int Go.IntKind.i64 n23, AV.int Go.IntKind.i64 n24] ∧
        (0 : Int) ≤ (0 : Int) ∧
          (0 : Int) < (2 : Int) ∧
            (0 : Int) ≤ (1 : Int) ∧
              (1 : Int) < (2 : Int) ∧
                (0 : Int) ≤ n23 ∧
                  n23 ≤ n24 ∧
                    n24 ≤ (↑(List.length xs15) : Int) ∧
                      ∃ s25 n26,
                        Good PG nG G0 f_greatsealref_RootOf [AV.sl (1 : Nat) b14 none (List.drop (Int.toNat n23) (List.take (Int.toNat n24) xs15))] [] (AV.tup [AV.str s25, AV.int Go.IntKind.i64 n26]) [] ∧
                          (List.length xs17 + List.length [[AV.str s25]]) * (16 : Nat) ≤ (140737488355328 : Nat) ∧
                            List.length xs17 = m22 ∧
                              Does PG nG G0 (fnOf PG f_greatsealref_GrowthOf) (0 : Nat) (lp PG f_greatsealref_GrowthOf (0 : Nat))
                                (mkT (79 : Nat)
                                  [((0 : Nat), AV.sl (1 : Nat) b14 none xs15), ((11 : Nat), AV.sl (1 : Nat) (b16 && List.isEmpty [[AV.str s25]]) (some (0 : Nat)) (xs17 ++ [[AV.str s25]])), ((57 : Nat), AV.sl (2 : Nat) b18 none xs19),
                                    ((58 : Nat), AV.int Go.IntKind.i64 n20), ((59 : Nat), AV.int Go.IntKind.i64 (Go.IntKind.wrap Go.IntKind.i64 (n21 + (1 : Int))))])
                                [some (Blk.grow (1 : Nat) (m22 + List.length [[AV.str s25]]))] R)
  (R (AV.tup [AV.sl (1 : Nat) b16 none xs17, AV.int Go.IntKind.i64 (0 : Int)]) [])) :
  Hold (runL PG ty nG G0 an_greatsealref_GrowthOf f_greatsealref_GrowthOf (0 : Nat) (0 : Nat)
  (mkT (79 : Nat)
    [((0 : Nat), AV.sl (1 : Nat) b14 none xs15), ((11 : Nat), AV.sl (1 : Nat) b16 (some (0 : Nat)) xs17), ((57 : Nat), AV.sl (2 : Nat) b18 none xs19), ((58 : Nat), AV.int Go.IntKind.i64 n20), ((59 : Nat), AV.int Go.IntKind.i64 n21)])
  [some (Blk.grow (1 : Nat) m22)] R) := kshow h (by kernel_rfl)

theorem greatsealref_GrowthShows_run (old0 : List UInt8) (m1 : Int) (root2 : List UInt8) (n3 : Int) (nll4 : Bool) (l4 : List (List AV)) (G0 : Nat → Option Go.Obj) (R : AV → List (Option Blk) → Prop) (h :
  ifK (decide (m1 < (1 : Int))) (R (AV.int Go.IntKind.i64 (3 : Int)) [])
  (ifK (decide (n3 < m1)) (R (AV.int Go.IntKind.i64 (3 : Int)) [])
    (ifK (decide (n3 > (24 : Int))) (R (AV.int Go.IntKind.i64 (3 : Int)) [])
      (∃ b0 xs1 n2 n3_1 b4,
        ifK b0
          (Good PG nG G0 f_greatsealref_parts [AV.int Go.IntKind.i64 m1, AV.int Go.IntKind.i64 n3] [] (AV.tup [AV.sl (2 : Nat) true none [], AV.agg [AV.int Go.IntKind.i64 n2, AV.int Go.IntKind.i64 n3_1], AV.bool b4]) [] ∧
            ifK (!b4)
              (ifK ((↑(List.length l4) : Int) != (1 : Int)) (R (AV.int Go.IntKind.i64 (7 : Int)) [])
                (ifK (!b4)
                  ((0 : Int) ≤ (0 : Int) ∧
                    ∃ s5,
                      l4[(0 : Nat)]? = some [AV.str s5] ∧
                        (0 : Int) ≤ (1 : Int) ∧
                          (1 : Int) ≤ (↑(List.length l4) : Int) ∧
                            (↑(List.length l4) : Int) ≤ (↑(List.length l4) : Int) ∧
                              Good PG nG G0 f_slices_Reverse_pair [AV.sl (2 : Nat) true none []] [] (AV.tup []) [] ∧
                                Does PG nG G0 (fnOf PG f_greatsealref_GrowthShows) (0 : Nat) (lp PG f_greatsealref_GrowthShows (0 : Nat))
                                  (mkT (113 : Nat)
                                    [((0 : Nat), AV.str old0), ((2 : Nat), AV.str root2), ((4 : Nat), AV.sl (1 : Nat) nll4 none (List.drop (1 : Nat) (List.take (Int.toNat (↑(List.length l4) : Int)) l4))),
                                      ((12 : Nat), AV.ref (0 : Nat) (0 : Nat)), ((15 : Nat), AV.str s5), ((16 : Nat), AV.str s5), ((59 : Nat), AV.sl (2 : Nat) true none []), ((60 : Nat), AV.int Go.IntKind.i64 (0 : Int)),
                                      ((61 : Nat), AV.int Go.IntKind.i64 (0 : Int))])
                                  [some (Blk.var [AV.int Go.IntKind.i64 n2, AV.int Go.IntKind.i64 n3_1])] R)
                  (Good PG nG G0 f_slices_Reverse_pair [AV.sl (2 : Nat) true none []] [] (AV.tup []) [] ∧
                    Does PG nG G0 (fnOf PG f_greatsealref_GrowthShows) (0 : Nat) (lp PG f_greatsealref_GrowthShows (0 : Nat))
                      (mkT (113 : Nat)
                        [((0 : Nat), AV.str old0), ((2 : Nat), AV.str root2), ((4 : Nat), AV.sl (1 : Nat) nll4 none l4), ((12 : Nat), AV.ref (0 : Nat) (0 : Nat)), ((15 : Nat), AV.str old0), ((16 : Nat), AV.str old0),
                          ((59 : Nat), AV.sl (2 : Nat) true none []), ((60 : Nat), AV.int Go.IntKind.i64 (0 : Int)), ((61 : Nat), AV.int Go.IntKind.i64 (0 : Int))])
                      [some (Blk.var [AV.int Go.IntKind.i64 n2, AV.int Go.IntKind.i64 n3_1])] R)))
              (ifK ((↑(List.length l4) : Int) != (0 : Int)) (R (AV.int Go.IntKind.i64 (7 : Int)) [])
                (ifK (!b4)
                  ((0 : Int) ≤ (0 : Int) ∧
                    ∃ s6,
                      l4[(0 : Nat)]? = some [AV.str s6] ∧
                        (0 : Int) ≤ (1 : Int) ∧
                          (1 : Int) ≤ (↑(List.length l4) : Int) ∧
                            (↑(List.length l4) : Int) ≤ (↑(List.length l4) : Int) ∧
                              Good PG nG G0 f_slices_Reverse_pair [AV.sl (2 : Nat) true none []] [] (AV.tup []) [] ∧
                                Does PG nG G0 (fnOf PG f_greatsealref_GrowthShows) (0 : Nat) (lp PG f_greatsealref_GrowthShows (0 : Nat))
                                  (mkT (113 : Nat)
                                    [((0 : Nat), AV.str old0), ((2 : Nat), AV.str root2), ((4 : Nat), AV.sl (1 : Nat) nll4 none (List.drop (1 : Nat) (List.take (Int.toNat (↑(List.length l4) : Int)) l4))),
                                      ((12 : Nat), AV.ref (0 : Nat) (0 : Nat)), ((15 : Nat), AV.str s6), ((16 : Nat), AV.str s6), ((59 : Nat), AV.sl (2 : Nat) true none []), ((60 : Nat), AV.int Go.IntKind.i64 (0 : Int)),
                                      ((61 : Nat), AV.int Go.IntKind.i64 (0 : Int))])
                                  [some (Blk.var [AV.int Go.IntKind.i64 n2, AV.int Go.IntKind.i64 n3_1])] R)
                  (Good PG nG G0 f_slices_Reverse_pair [AV.sl (2 : Nat) true none []] [] (AV.tup []) [] ∧
                    Does PG nG G0 (fnOf PG f_greatsealref_GrowthShows) (0 : Nat) (lp PG f_greatsealref_GrowthShows (0 : Nat))
                      (mkT (113 : Nat)
                        [((0 : Nat), AV.str old0), ((2 : Nat), AV.str root2), ((4 : Nat), AV.sl (1 : Nat) nll4 none l4), ((12 : Nat), AV.ref (0 : Nat) (0 : Nat)), ((15 : Nat), AV.str old0), ((16 : Nat), AV.str old0),
                          ((59 : Nat), AV.sl (2 : Nat) true none []), ((60 : Nat), AV.int Go.IntKind.i64 (0 : Int)), ((61 : Nat), AV.int Go.IntKind.i64 (0 : Int))])
                      [some (Blk.var [AV.int Go.IntKind.i64 n2, AV.int Go.IntKind.i64 n3_1])] R))))
          (Good PG nG G0 f_greatsealref_parts [AV.int Go.IntKind.i64 m1, AV.int Go.IntKind.i64 n3] [] (AV.tup [AV.rsl (2 : Nat) (0 : Nat) (0 : Nat) (List.length xs1), AV.agg [AV.int Go.IntKind.i64 n2, AV.int Go.IntKind.i64 n3_1], AV.bool b4])
              [some (Blk.arr (2 : Nat) xs1)] ∧
            ifK (!b4)
              (ifK ((↑(List.length l4) : Int) != Go.IntKind.wrap Go.IntKind.i64 ((↑(List.length xs1) : Int) + (1 : Int))) (R (AV.int Go.IntKind.i64 (7 : Int)) [])
                (ifK (!b4)
                  ((0 : Int) ≤ (0 : Int) ∧
                    ∃ s7,
                      l4[(0 : Nat)]? = some [AV.str s7] ∧
                        (0 : Int) ≤ (1 : Int) ∧
                          (1 : Int) ≤ (↑(List.length l4) : Int) ∧
                            (↑(List.length l4) : Int) ≤ (↑(List.length l4) : Int) ∧
                              ∃ xs8,
                                Good PG nG G0 f_slices_Reverse_pair [AV.rsl (2 : Nat) (0 : Nat) (0 : Nat) (List.length xs1)] [some (Blk.arr (2 : Nat) xs1)] (AV.tup []) [some (Blk.arr (2 : Nat) xs8)] ∧
                                  Does PG nG G0 (fnOf PG f_greatsealref_GrowthShows) (0 : Nat) (lp PG f_greatsealref_GrowthShows (0 : Nat))
                                    (mkT (113 : Nat)
                                      [((0 : Nat), AV.str old0), ((2 : Nat), AV.str root2), ((4 : Nat), AV.sl (1 : Nat) nll4 none (List.drop (1 : Nat) (List.take (Int.toNat (↑(List.length l4) : Int)) l4))),
                                        ((12 : Nat), AV.ref (0 : Nat) (0 : Nat)), ((15 : Nat), AV.str s7), ((16 : Nat), AV.str s7), ((59 : Nat), AV.sl (2 : Nat) false none (List.take (List.length xs1) (List.drop (0 : Nat) xs8))),
                                        ((60 : Nat), AV.int Go.IntKind.i64 (↑(List.length (List.take (List.length xs1) (List.drop (0 : Nat) xs8))) : Int)), ((61 : Nat), AV.int Go.IntKind.i64 (0 : Int))])
                                    [some (Blk.var [AV.int Go.IntKind.i64 n2, AV.int Go.IntKind.i64 n3_1])] R)
                  (∃ xs9,
                    Good PG nG G0 f_slices_Reverse_pair [AV.rsl (2 : Nat) (0 : Nat) (0 : Nat) (List.length xs1)] [some (Blk.arr (2 : Nat) xs1)] (AV.tup []) [some (Blk.arr (2 : Nat) xs9)] ∧
                      Does PG nG G0 (fnOf PG f_greatsealref_GrowthShows) (0 : Nat) (lp PG f_greatsealref_GrowthShows (0 : Nat))
                        (mkT (113 : Nat)
                          [((0 : Nat), AV.str old0), ((2 : Nat), AV.str root2), ((4 : Nat), AV.sl (1 : Nat) nll4 none l4), ((12 : Nat), AV.ref (0 : Nat) (0 : Nat)), ((15 : Nat), AV.str old0), ((16 : Nat), AV.str old0),
                            ((59 : Nat), AV.sl (2 : Nat) false none (List.take (List.length xs1) (List.drop (0 : Nat) xs9))),
                            ((60 : Nat), AV.int Go.IntKind.i64 (↑(List.length (List.take (List.length xs1) (List.drop (0 : Nat) xs9))) : Int)), ((61 : Nat), AV.int Go.IntKind.i64 (0 : Int))])
                        [some (Blk.var [AV.int Go.IntKind.i64 n2, AV.int Go.IntKind.i64 n3_1])] R)))
              (ifK ((↑(List.length l4) : Int) != (↑(List.length xs1) : Int)) (R (AV.int Go.IntKind.i64 (7 : Int)) [])
                (ifK (!b4)
                  ((0 : Int) ≤ (0 : Int) ∧
                    ∃ s10,
                      l4[(0 : Nat)]? = some [AV.str s10] ∧
                        (0 : Int) ≤ (1 : Int) ∧
                          (1 : Int) ≤ (↑(List.length l4) : Int) ∧
                            (↑(List.length l4) : Int) ≤ (↑(List.length l4) : Int) ∧
                              ∃ xs11,
                                Good PG nG G0 f_slices_Reverse_pair [AV.rsl (2 : Nat) (0 : Nat) (0 : Nat) (List.length xs1)] [some (Blk.arr (2 : Nat) xs1)] (AV.tup []) [some (Blk.arr (2 : Nat) xs11)] ∧
                                  Does PG nG G0 (fnOf PG f_greatsealref_GrowthShows) (0 : Nat) (lp PG f_greatsealref_GrowthShows (0 : Nat))
                                    (mkT (113 : Nat)
                                      [((0 : Nat), AV.str old0), ((2 : Nat), AV.str root2), ((4 : Nat), AV.sl (1 : Nat) nll4 none (List.drop (1 : Nat) (List.take (Int.toNat (↑(List.length l4) : Int)) l4))),
                                        ((12 : Nat), AV.ref (0 : Nat) (0 : Nat)), ((15 : Nat), AV.str s10), ((16 : Nat), AV.str s10), ((59 : Nat), AV.sl (2 : Nat) false none (List.take (List.length xs1) (List.drop (0 : Nat) xs11))),
                                        ((60 : Nat), AV.int Go.IntKind.i64 (↑(List.length (List.take (List.length xs1) (List.drop (0 : Nat) xs11))) : Int)), ((61 : Nat), AV.int Go.IntKind.i64 (0 : Int))])
                                    [some (Blk.var [AV.int Go.IntKind.i64 n2, AV.int Go.IntKind.i64 n3_1])] R)
                  (∃ xs12,
                    Good PG nG G0 f_slices_Reverse_pair [AV.rsl (2 : Nat) (0 : Nat) (0 : Nat) (List.length xs1)] [some (Blk.arr (2 : Nat) xs1)] (AV.tup []) [some (Blk.arr (2 : Nat) xs12)] ∧
                      Does PG nG G0 (fnOf PG f_greatsealref_GrowthShows) (0 : Nat) (lp PG f_greatsealref_GrowthShows (0 : Nat))
                        (mkT (113 : Nat)
                          [((0 : Nat), AV.str old0), ((2 : Nat), AV.str root2), ((4 : Nat), AV.sl (1 : Nat) nll4 none l4), ((12 : Nat), AV.ref (0 : Nat) (0 : Nat)), ((15 : Nat), AV.str old0), ((16 : Nat), AV.str old0),
                            ((59 : Nat), AV.sl (2 : Nat) false none (List.take (List.length xs1) (List.drop (0 : Nat) xs12))),
                            ((60 : Nat), AV.int Go.IntKind.i64 (↑(List.length (List.take (List.length xs1) (List.drop (0 : Nat) xs12))) : Int)), ((61 : Nat), AV.int Go.IntKind.i64 (0 : Int))])
                        [some (Blk.var [AV.int Go.IntKind.i64 n2, AV.int Go.IntKind.i64 n3_1])] R)))))))) :
  Hold (runF PG ty nG G0 an_greatsealref_GrowthShows f_greatsealref_GrowthShows [AV.str old0, AV.int Go.IntKind.i64 m1, AV.str root2, AV.int Go.IntKind.i64 n3, AV.sl (1 : Nat) nll4 none l4] [] R) := kshow h (by kernel_rfl)

theorem greatsealref_GrowthShows_l0_run (G0 : Nat → Option Obj) (s13 : List UInt8) (s14 : List UInt8) (b15 : Bool) (xs16 : List (List AV)) (s17 : List UInt8) (s18 : List UInt8) (b19 : Bool) (xs20 : List (List AV)) (n21 : Int) (n22 : Int) (n23 : Int) (n24 : Int) (R : AV → List (Option Blk) → Prop) (h :
  ifK (decide (n22 < n21))
  ((0 : Int) ≤ n22 ∧
    ∃ n25 n26,
      xs20[Int.toNat n22]? = some [AV.int Go.IntKind.i64 n25, AV.int Go.IntKind.i64 n26] ∧
        (0 : Int) ≤ (0 : Int) ∧
          (0 : Int) < (2 : Int) ∧
            (0 : Int) ≤ (1 : Int) ∧
              (1 : Int) < (2 : Int) ∧
                ifK (decide (n25 ≥ n24))
                  ((0 : Int) ≤ n22 ∧
                    ∃ s27,
                      xs16[Int.toNat n22]? = some [AV.str s27] ∧
                        ∃ s28 n29,
                          Good PG nG G0 f_greatsealref_NodeOf [AV.str s18, AV.str s27] [] (AV.tup [AV.str s28, AV.int Go.IntKind.i64 n29]) [] ∧
                            ifK (n29 != (0 : Int)) (R (AV.int Go.IntKind.i64 (7 : Int)) [])
                              (Does PG nG G0 (fnOf PG f_greatsealref_GrowthShows) (0 : Nat) (lp PG f_greatsealref_GrowthShows (0 : Nat))
                                (mkT (113 : Nat)
                                  [((0 : Nat), AV.str s13), ((2 : Nat), AV.str s14), ((4 : Nat), AV.sl (1 : Nat) b15 none xs16), ((12 : Nat), AV.ref (0 : Nat) (0 : Nat)), ((15 : Nat), AV.str s17), ((16 : Nat), AV.str s28),
                                    ((59 : Nat), AV.sl (2 : Nat) b19 none xs20), ((60 : Nat), AV.int Go.IntKind.i64 n21), ((61 : Nat), AV.int Go.IntKind.i64 (Go.IntKind.wrap Go.IntKind.i64 (n22 + (1 : Int))))])
                                [some (Blk.var [AV.int Go.IntKind.i64 n23, AV.int Go.IntKind.i64 n24])] R))
                  ((0 : Int) ≤ n22 ∧
                    ∃ s30,
                      xs16[Int.toNat n22]? = some [AV.str s30] ∧
                        ∃ s31 n32,
                          Good PG nG G0 f_greatsealref_NodeOf [AV.str s30, AV.str s17] [] (AV.tup [AV.str s31, AV.int Go.IntKind.i64 n32]) [] ∧
                            ifK (n32 != (0 : Int)) (R (AV.int Go.IntKind.i64 (7 : Int)) [])
                              ((0 : Int) ≤ n22 ∧
                                ∃ s33,
                                  xs16[Int.toNat n22]? = some [AV.str s33] ∧
                                    ∃ s34 n35,
                                      Good PG nG G0 f_greatsealref_NodeOf [AV.str s33, AV.str s18] [] (AV.tup [AV.str s34, AV.int Go.IntKind.i64 n35]) [] ∧
                                        ifK (n35 != (0 : Int)) (R (AV.int Go.IntKind.i64 (7 : Int)) [])
                                          (Does PG nG G0 (fnOf PG f_greatsealref_GrowthShows) (0 : Nat) (lp PG f_greatsealref_GrowthShows (0 : Nat))
                                            (mkT (113 : Nat)
                                              [((0 : Nat), AV.str s13), ((2 : Nat), AV.str s14), ((4 : Nat), AV.sl (1 : Nat) b15 none xs16), ((12 : Nat), AV.ref (0 : Nat) (0 : Nat)), ((15 : Nat), AV.str s31), ((16 : Nat), AV.str s34),
                                                ((59 : Nat), AV.sl (2 : Nat) b19 none xs20), ((60 : Nat), AV.int Go.IntKind.i64 n21), ((61 : Nat), AV.int Go.IntKind.i64 (Go.IntKind.wrap Go.IntKind.i64 (n22 + (1 : Int))))])
                                            [some (Blk.var [AV.int Go.IntKind.i64 n23, AV.int Go.IntKind.i64 n24])] R))))
  (ifK (!s17 == s13) (R (AV.int Go.IntKind.i64 (7 : Int)) []) (ifK (!s18 == s14) (R (AV.int Go.IntKind.i64 (7 : Int)) []) (R (AV.int Go.IntKind.i64 (0 : Int)) [])))) :
  Hold (runL PG ty nG G0 an_greatsealref_GrowthShows f_greatsealref_GrowthShows (0 : Nat) (0 : Nat)
  (mkT (113 : Nat)
    [((0 : Nat), AV.str s13), ((2 : Nat), AV.str s14), ((4 : Nat), AV.sl (1 : Nat) b15 none xs16), ((12 : Nat), AV.ref (0 : Nat) (0 : Nat)), ((15 : Nat), AV.str s17), ((16 : Nat), AV.str s18), ((59 : Nat), AV.sl (2 : Nat) b19 none xs20),
      ((60 : Nat), AV.int Go.IntKind.i64 n21), ((61 : Nat), AV.int Go.IntKind.i64 n22)])
  [some (Blk.var [AV.int Go.IntKind.i64 n23, AV.int Go.IntKind.i64 n24])] R) := kshow h (by kernel_rfl)

end Go.Ab

namespace Go.Gs

/-- The parts beside, from above; the last one, and whether it is known. -/
def partsF (m f t : Nat) (known : Bool) : List (Nat × Nat) × (Nat × Nat) × Bool :=
  if _h : t ≤ m ∨ t - f ≤ 1 then ([], (f, t), known)
  else if m ≤ f + halfN (t - f) then
    ((f + halfN (t - f), t) :: (partsF m f (f + halfN (t - f)) known).1, (partsF m f (f + halfN (t - f)) known).2)
  else ((f, f + halfN (t - f)) :: (partsF m (f + halfN (t - f)) t false).1, (partsF m (f + halfN (t - f)) t false).2)
  termination_by t - f
  decreasing_by
  all_goals
    have := halfN_pos (t - f)
    have := halfN_lt (n := t - f) (by omega)
    omega

theorem partsF_end {m f t : Nat} {known : Bool} (h : t ≤ m) : partsF m f t known = ([], (f, t), known) := by rw [partsF, dif_pos (.inl h)]
theorem partsF_left {m f t : Nat} {known : Bool} (h : ¬ t ≤ m) (h2 : ¬ t - f ≤ 1) (h3 : m ≤ f + halfN (t - f)) : partsF m f t known = ((f + halfN (t - f), t) :: (partsF m f (f + halfN (t - f)) known).1, (partsF m f (f + halfN (t - f)) known).2) := by
  rw [partsF, dif_neg (by omega), if_pos h3]
theorem partsF_right {m f t : Nat} {known : Bool} (h : ¬ t ≤ m) (h2 : ¬ t - f ≤ 1) (h3 : ¬ m ≤ f + halfN (t - f)) : partsF m f t known = ((f, f + halfN (t - f)) :: (partsF m (f + halfN (t - f)) t false).1, (partsF m (f + halfN (t - f)) t false).2) := by
  rw [partsF, dif_neg (by omega), if_neg h3]

/-- Parts lie within. -/
theorem partsF_in : ∀ (N m f t : Nat) (known : Bool), t - f ≤ N → f < m → m ≤ t →
    (∀ p ∈ (partsF m f t known).1, f ≤ p.1 ∧ p.1 < p.2 ∧ p.2 ≤ t) ∧ f ≤ (partsF m f t known).2.1.1 ∧ (partsF m f t known).2.1.1 < (partsF m f t known).2.1.2 ∧ (partsF m f t known).2.1.2 ≤ t ∧ (partsF m f t known).1.length ≤ t - f := by
  intro N
  induction N with
  | zero => intro m f t known h h1 h2; omega
  | succ N ih =>
    intro m f t known h h1 h2
    by_cases hc : t ≤ m
    · rw [partsF_end hc]
      refine ⟨fun p hp => absurd hp (by simp), Nat.le_refl _, ?_, Nat.le_refl _, by simp⟩
      show f < t
      omega
    · have hk1 := halfN_pos (t - f)
      have hk2 := halfN_lt (n := t - f) (by omega)
      by_cases h3 : m ≤ f + halfN (t - f)
      · rw [partsF_left hc (by omega) h3]
        obtain ⟨g1, g2, g3, g4, g5⟩ := ih m f (f + halfN (t - f)) known (by omega) h1 h3
        refine ⟨fun p hp => ?_, g2, g3, by simp only; omega, by simp only [List.length_cons]; omega⟩
        rcases List.mem_cons.1 hp with rfl | hp
        · simp only; omega
        · have := g1 p hp; omega
      · rw [partsF_right hc (by omega) h3]
        obtain ⟨g1, g2, g3, g4, g5⟩ := ih m (f + halfN (t - f)) t false (by omega) (by omega) h2
        refine ⟨fun p hp => ?_, by simp only; omega, g3, g4, by simp only [List.length_cons]; omega⟩
        rcases List.mem_cons.1 hp with rfl | hp
        · simp only; omega
        · have := g1 p hp; omega

/-- The seals that show growth, by parts. -/
theorem parts_grow (l : List By) : ∀ (N m f t : Nat) (known : Bool), t - f ≤ N → f < m → m ≤ t → t ≤ l.length →
    growOf (sub l f t) (m - f) known = (if (partsF m f t known).2.2 then [] else [(tRoot (sub l (partsF m f t known).2.1.1 (partsF m f t known).2.1.2)).1]) ++ (partsF m f t known).1.reverse.map fun p => (tRoot (sub l p.1 p.2)).1 := by
  intro N
  induction N with
  | zero => intro m f t known h h1 h2; omega
  | succ N ih =>
    intro m f t known h h1 h2 ht
    have hl := sub_len (l := l) (f := f) ht
    by_cases hc : t ≤ m
    · have : m - f = (sub l f t).length := by omega
      rw [partsF_end hc, this, growOf_all]
      simp
    · have hk1 := halfN_pos (t - f)
      have hk2 := halfN_lt (n := t - f) (by omega)
      rw [growOf_less (by omega) (by omega), hl, sub_take l (by omega), sub_drop]
      by_cases h3 : m ≤ f + halfN (t - f)
      · rw [partsF_left hc (by omega) h3, if_pos (by omega), ih m f _ known (by omega) h1 h3 (by omega)]
        simp
      · rw [partsF_right hc (by omega) h3, if_neg (by omega)]
        have e : m - f - halfN (t - f) = m - (f + halfN (t - f)) := by omega
        rw [e, ih m _ t false (by omega) (by omega) h2 ht]
        simp

/-- Both seals, from below: by seals that stand right or left. -/
def compG : List (Bool × By) → By → By → Option (By × By)
  | [], a, b => some (a, b)
  | (right, s) :: r, a, b =>
    if right then (if (tNode b s).2 ≠ 0 then none else compG r a (tNode b s).1)
    else if (tNode s a).2 ≠ 0 ∨ (tNode s b).2 ≠ 0 then none else compG r (tNode s a).1 (tNode s b).1

theorem compG_snoc : ∀ (xs : List (Bool × By)) (y : Bool × By) (a b : By), compG (xs ++ [y]) a b = (compG xs a b).bind fun p => compG [y] p.1 p.2
  | [], y, a, b => by simp [compG]
  | (true, s) :: r, y, a, b => by
    simp only [List.cons_append, compG, if_true]
    split
    · rfl
    · exact compG_snoc r y _ _
  | (false, s) :: r, y, a, b => by
    simp only [List.cons_append, compG, Bool.false_eq_true, if_false]
    split
    · rfl
    · exact compG_snoc r y _ _

def rightG (last p : Nat × Nat) : Bool := decide (last.2 ≤ p.1)

theorem bothS_stays_bad {m n : Nat} {old : By} {known : Bool} {s : Sh} (h1 : 1 ≤ m) (h2 : m ≤ n) (h : s.2 = true) : (bothS m n old known s).2.2.2 = true := by
  cases hc : (bothS m n old known s).2.2.2 with
  | true => rfl
  | false => rw [bothS_bad _ m n old known s (Nat.le_refl _) h1 h2 hc] at h; cases h

theorem lastS_none {b : Bool} : (lastS ([], b)).2.2 = true := by simp [lastS]

theorem bothS_few : ∀ (N m f t : Nat) (old : By) (known : Bool) (s : Sh), t - f ≤ N → f < m → m ≤ t → s.1.length < (partsF m f t known).1.length + (if (partsF m f t known).2.2 then 0 else 1) →
    (bothS (m - f) (t - f) old known s).2.2.2 = true := by
  intro N
  induction N with
  | zero => intro m f t old known s h h1 h2; omega
  | succ N ih =>
    intro m f t old known s h h1 h2 hlt
    by_cases hc : t ≤ m
    · have : m - f = t - f := by omega
      rw [partsF_end hc] at hlt
      rw [this, bothS_all]
      cases known with
      | true => simp at hlt
      | false =>
        have hs : s.1 = [] := List.eq_nil_of_length_eq_zero (by simpa using hlt)
        obtain ⟨s1, s2⟩ := s
        simp only at hs
        subst hs
        exact lastS_none
    · have hk1 := halfN_pos (t - f)
      have hk2 := halfN_lt (n := t - f) (by omega)
      have pop : s.1 = [] ∨ ∃ r x, s.1 = r ++ [x] := by
        rcases List.eq_nil_or_concat s.1 with h | ⟨r, x, h⟩
        · exact .inl h
        · exact .inr ⟨r, x, by simpa using h⟩
      rw [bothS_less (by omega) (by omega)]
      by_cases h3 : m ≤ f + halfN (t - f)
      · rw [partsF_left hc (by omega) h3] at hlt
        rw [if_pos (by omega)]
        have key : (bothS (m - f) (halfN (t - f)) old known (lastS s).2).2.2.2 = true := by
          rcases pop with h0 | ⟨r, x, h0⟩
          · refine bothS_stays_bad (by omega) (by omega) ?_
            obtain ⟨s1, s2⟩ := s
            simp only at h0
            subst h0
            exact lastS_none
          · obtain ⟨s1, s2⟩ := s
            simp only at h0
            subst h0
            rw [lastS_mk]
            have := ih m f (f + halfN (t - f)) old known (r, s2) (by omega) h1 h3 (by simp only [List.length_append, List.length_cons, List.length_nil] at hlt; simp only; omega)
            have e : f + halfN (t - f) - f = halfN (t - f) := by omega
            rwa [e] at this
        simp only [nodeS, key, Bool.true_or]
      · rw [partsF_right hc (by omega) h3] at hlt
        rw [if_neg (by omega)]
        have key : (bothS (m - f - halfN (t - f)) (t - f - halfN (t - f)) old false (lastS s).2).2.2.2 = true := by
          rcases pop with h0 | ⟨r, x, h0⟩
          · refine bothS_stays_bad (by omega) (by omega) ?_
            obtain ⟨s1, s2⟩ := s
            simp only at h0
            subst h0
            exact lastS_none
          · obtain ⟨s1, s2⟩ := s
            simp only at h0
            subst h0
            rw [lastS_mk]
            have := ih m (f + halfN (t - f)) t old false (r, s2) (by omega) (by omega) h2 (by simp only [List.length_append, List.length_cons, List.length_nil] at hlt; simp only; omega)
            have e : m - (f + halfN (t - f)) = m - f - halfN (t - f) := by omega
            have e2 : t - (f + halfN (t - f)) = t - f - halfN (t - f) := by omega
            rwa [e, e2] at this
        simp only [nodeS, key, Bool.true_or]

theorem bothS_comp : ∀ (N m f t : Nat) (old : By) (known : Bool) (rest ss : List By) (x : By), t - f ≤ N → f < m → m ≤ t → ss.length = (partsF m f t known).1.length →
    match compG (List.zip ((partsF m f t known).1.reverse.map (rightG (partsF m f t known).2.1)) ss) (if (partsF m f t known).2.2 then old else x) (if (partsF m f t known).2.2 then old else x) with
    | some p => bothS (m - f) (t - f) old known (rest ++ (if (partsF m f t known).2.2 then [] else [x]) ++ ss, false) = (p.1, p.2, rest, false)
    | none => (bothS (m - f) (t - f) old known (rest ++ (if (partsF m f t known).2.2 then [] else [x]) ++ ss, false)).2.2.2 = true := by
  intro N
  induction N with
  | zero => intro m f t old known rest ss x h h1 h2; omega
  | succ N ih =>
    intro m f t old known rest ss x h h1 h2 hss
    by_cases hc : t ≤ m
    · have : m - f = t - f := by omega
      rw [partsF_end hc] at hss ⊢
      have hs0 : ss = [] := List.eq_nil_of_length_eq_zero (by simpa using hss)
      subst hs0
      rw [this, bothS_all]
      cases known with
      | true => simp [compG]
      | false => simp [compG, lastS_mk]
    · have hk1 := halfN_pos (t - f)
      have hk2 := halfN_lt (n := t - f) (by omega)
      by_cases h3 : m ≤ f + halfN (t - f)
      · have hin := partsF_in _ m f (f + halfN (t - f)) known (Nat.le_refl _) h1 h3
        rw [partsF_left hc (by omega) h3] at hss ⊢
        simp only at hss ⊢
        have hne : ss ≠ [] := by rintro rfl; simp at hss
        obtain ⟨st, y, rfl⟩ : ∃ st y, ss = st ++ [y] := ⟨ss.dropLast, ss.getLast hne, (List.dropLast_concat_getLast hne).symm⟩
        have hsl : st.length = (partsF m f (f + halfN (t - f)) known).1.length := by simpa using hss
        have IH := ih m f (f + halfN (t - f)) old known rest st x (by omega) h1 h3 hsl
        have e : f + halfN (t - f) - f = halfN (t - f) := by omega
        rw [e] at IH
        have hr : rightG (partsF m f (f + halfN (t - f)) known).2.1 (f + halfN (t - f), t) = true := by unfold rightG; simp only [decide_eq_true_eq]; exact hin.2.2.2.1
        have hz : List.zip (((f + halfN (t - f), t) :: (partsF m f (f + halfN (t - f)) known).1).reverse.map (rightG (partsF m f (f + halfN (t - f)) known).2.1)) (st ++ [y]) =
            List.zip ((partsF m f (f + halfN (t - f)) known).1.reverse.map (rightG (partsF m f (f + halfN (t - f)) known).2.1)) st ++ [(true, y)] := by
          rw [List.reverse_cons, List.map_append, List.zip_append (by simp [hsl])]
          simp [hr]
        rw [hz, compG_snoc, bothS_less (by omega) (by omega), if_pos (show m - f ≤ halfN (t - f) by omega), ← List.append_assoc, lastS_mk]
        simp only
        cases hcg : compG (List.zip ((partsF m f (f + halfN (t - f)) known).1.reverse.map (rightG (partsF m f (f + halfN (t - f)) known).2.1)) st) (if (partsF m f (f + halfN (t - f)) known).2.2 then old else x) (if (partsF m f (f + halfN (t - f)) known).2.2 then old else x) with
        | none =>
          rw [hcg] at IH
          simp only [Option.bind_none]
          simp only at IH
          simp only [nodeS, IH, Bool.true_or]
        | some p =>
          rw [hcg] at IH
          simp only at IH
          rw [IH]
          simp only [Option.bind_some, compG, if_true, nodeS, Bool.false_or]
          by_cases hn : (tNode p.2 y).2 = 0
          · simp [hn]
          · simp [hn]
      · have hin := partsF_in _ m (f + halfN (t - f)) t false (Nat.le_refl _) (by omega) h2
        rw [partsF_right hc (by omega) h3] at hss ⊢
        simp only at hss ⊢
        have hne : ss ≠ [] := by rintro rfl; simp at hss
        obtain ⟨st, y, rfl⟩ : ∃ st y, ss = st ++ [y] := ⟨ss.dropLast, ss.getLast hne, (List.dropLast_concat_getLast hne).symm⟩
        have hsl : st.length = (partsF m (f + halfN (t - f)) t false).1.length := by simpa using hss
        have IH := ih m (f + halfN (t - f)) t old false rest st x (by omega) (by omega) h2 hsl
        have e : m - (f + halfN (t - f)) = m - f - halfN (t - f) := by omega
        have e2 : t - (f + halfN (t - f)) = t - f - halfN (t - f) := by omega
        rw [e, e2] at IH
        have hr : rightG (partsF m (f + halfN (t - f)) t false).2.1 (f, f + halfN (t - f)) = false := by
          unfold rightG
          simp only [decide_eq_false_iff_not]
          have := hin.2.1
          have := hin.2.2.1
          omega
        have hz : List.zip (((f, f + halfN (t - f)) :: (partsF m (f + halfN (t - f)) t false).1).reverse.map (rightG (partsF m (f + halfN (t - f)) t false).2.1)) (st ++ [y]) =
            List.zip ((partsF m (f + halfN (t - f)) t false).1.reverse.map (rightG (partsF m (f + halfN (t - f)) t false).2.1)) st ++ [(false, y)] := by
          rw [List.reverse_cons, List.map_append, List.zip_append (by simp [hsl])]
          simp [hr]
        rw [hz, compG_snoc, bothS_less (by omega) (by omega), if_neg (show ¬ m - f ≤ halfN (t - f) by omega), ← List.append_assoc, lastS_mk]
        simp only
        cases hcg : compG (List.zip ((partsF m (f + halfN (t - f)) t false).1.reverse.map (rightG (partsF m (f + halfN (t - f)) t false).2.1)) st) (if (partsF m (f + halfN (t - f)) t false).2.2 then old else x) (if (partsF m (f + halfN (t - f)) t false).2.2 then old else x) with
        | none =>
          rw [hcg] at IH
          simp only [Option.bind_none]
          simp only at IH
          simp only [nodeS, IH, Bool.true_or]
        | some p =>
          rw [hcg] at IH
          simp only at IH
          rw [IH]
          simp only [Option.bind_some, compG, Bool.false_eq_true, if_false, nodeS, Bool.false_or]
          by_cases hn : (tNode y p.1).2 = 0 <;> by_cases hn2 : (tNode y p.2).2 = 0
          · simp [hn, hn2]
          · simp [hn, hn2]
          · simp [hn, hn2]
          · simp [hn, hn2]

/-- Do seals show that a list goes on: by spans. -/
def growRef (old : By) (m : Nat) (root : By) (n : Nat) (l : List By) : Int :=
  if l.length ≠ (partsF m 0 n true).1.length + (if (partsF m 0 n true).2.2 then 0 else 1) then 7
  else match compG (List.zip ((partsF m 0 n true).1.reverse.map (rightG (partsF m 0 n true).2.1)) (if (partsF m 0 n true).2.2 then l else l.tail)) (if (partsF m 0 n true).2.2 then old else l.headD []) (if (partsF m 0 n true).2.2 then old else l.headD []) with
    | none => 7
    | some p => if p.1 ≠ old ∨ p.2 ≠ root then 7 else 0

theorem growRef_eq {old : By} {m : Nat} {root : By} {n : Nat} {l : List By} (h1 : 1 ≤ m) (h2 : m ≤ n) (h3 : n ≤ 24) : growShows old m root n l = growRef old m root n l := by
  unfold growShows
  rw [if_neg (by omega), Int.toNat_natCast, Int.toNat_natCast]
  unfold growRef
  rcases Nat.lt_trichotomy l.length ((partsF m 0 n true).1.length + (if (partsF m 0 n true).2.2 then 0 else 1)) with hlt | heq | hgt
  · have := bothS_few n m 0 n old true (l, false) (by omega) (by omega) h2 hlt
    simp only [Nat.sub_zero] at this
    rw [if_pos (.inl this), if_pos (by omega)]
  · rw [if_neg (show ¬ l.length ≠ _ by omega)]
    cases hk : (partsF m 0 n true).2.2 with
    | true =>
      rw [hk] at heq
      have hc := bothS_comp n m 0 n old true [] l [] (by omega) (by omega) h2 (by simpa using heq)
      simp only [Nat.sub_zero, hk, if_true, List.nil_append] at hc ⊢
      split at hc
      · rename_i p hp
        rw [hp]
        simp only [hc]
        simp
      · rename_i hp
        rw [hp, if_pos (.inl hc)]
    | false =>
      rw [hk] at heq
      have hne : l ≠ [] := by rintro rfl; simp at heq
      obtain ⟨x, ss, rfl⟩ := List.exists_cons_of_ne_nil hne
      have hc := bothS_comp n m 0 n old true [] ss x (by omega) (by omega) h2 (by simpa using heq)
      simp only [Nat.sub_zero, hk, Bool.false_eq_true, if_false, List.nil_append, List.cons_append] at hc ⊢
      simp only [List.tail_cons, List.headD_cons]
      split at hc
      · rename_i p hp
        rw [hp]
        simp only [hc]
        simp
      · rename_i hp
        rw [hp, if_pos (.inl hc)]
  · rw [if_pos (show l.length ≠ _ by omega), if_pos]
    generalize hcnt : (partsF m 0 n true).1.length + (if (partsF m 0 n true).2.2 then 0 else 1) = cnt at hgt
    have hsplit : l = l.take (l.length - cnt) ++ l.drop (l.length - cnt) := (List.take_append_drop _ _).symm
    have hdl : (l.drop (l.length - cnt)).length = cnt := by simp only [List.length_drop]; omega
    have htl : l.take (l.length - cnt) ≠ [] := by
      intro e
      have := congrArg List.length e
      simp only [List.length_take, List.length_nil] at this
      omega
    have main : ∀ (x : By) (ss : List By), ss.length = (partsF m 0 n true).1.length → l = l.take (l.length - cnt) ++ (if (partsF m 0 n true).2.2 then [] else [x]) ++ ss →
        (bothS m n old true (l, false)).2.2.2 = true ∨ (bothS m n old true (l, false)).2.2.1 ≠ [] := by
      intro x ss hss hl
      have hc := bothS_comp n m 0 n old true (l.take (l.length - cnt)) ss x (by omega) (by omega) h2 hss
      rw [← hl] at hc
      simp only [Nat.sub_zero] at hc
      split at hc
      · rw [hc]; exact .inr htl
      · exact .inl hc
    have : (bothS m n old true (l, false)).2.2.2 = true ∨ (bothS m n old true (l, false)).2.2.1 ≠ [] := by
      cases hk : (partsF m 0 n true).2.2 with
      | true =>
        rw [hk] at hcnt main
        simp only [if_true, Nat.add_zero] at hcnt
        exact main [] (l.drop (l.length - cnt)) (by omega) (by simp)
      | false =>
        rw [hk] at hcnt main
        simp only [Bool.false_eq_true, if_false] at hcnt
        have hne : l.drop (l.length - cnt) ≠ [] := by intro e; rw [e] at hdl; simp at hdl; omega
        obtain ⟨x, ss, hx⟩ := List.exists_cons_of_ne_nil hne
        refine main x ss (by rw [hx, List.length_cons] at hdl; omega) ?_
        simp only [Bool.false_eq_true, if_false, List.append_assoc, List.cons_append, List.nil_append]
        rw [← hx]; exact hsplit
    rcases this with h | h
    · exact .inl h
    · exact .inr (.inl h)
end Go.Gs

namespace Go.Ab
open Go.Proofs Go.Gs
variable {G0 : Nat → Option Obj}

theorem len_S1 (l : List By) : l.length = (l.map S1).length := by rw [List.length_map]

/-- One who takes seals, in memory. -/
def blkS (nl : Bool) (s : Sh) : List (Option Blk) := [some (.var [.sl 1 nl none (s.1.map S1), .bool s.2])]

theorem good_last (nl : Bool) (s : Sh) (hb : s.1.length ≤ 1000000000000000000) : Good PG nG G0 f_greatseal_grow_shower_last [.ref 0 0] (blkS nl s) (.str (lastS s).1) (blkS nl (lastS s).2) := by
  refine good_of_run prOk (by kernel_rfl) (greatseal_grow_shower_last_run nl _ _ G0 _ ?_)
  simp only [ifK_iff, List.length_map]
  refine ⟨fun h => ?_, fun h => ?_⟩
  · have h0 : s.1 = [] := List.eq_nil_of_length_eq_zero (by simpa using h)
    have : lastS s = ([], [], true) := by unfold lastS; rw [if_pos h0, h0]
    rw [this, h0]; exact ⟨rfl, rfl⟩
  · have h0 : s.1 ≠ [] := by intro e; rw [e] at h; simp at h
    have hpos : 0 < s.1.length := List.length_pos_iff.2 h0
    have hw : IntKind.i64.wrap ((s.1.length : Int) - 1) = ((s.1.length - 1 : Nat) : Int) := by rw [wrap64 (by omega) (by omega)]; omega
    have hl : lastS s = (s.1.getLastD [], s.1.dropLast, s.2) := by unfold lastS; rw [if_neg h0]
    rw [hw, Int.toNat_natCast, hl]
    have hg : (s.1.map S1)[s.1.length - 1]? = some [.str (s.1.getLastD [])] := by
      rw [List.getElem?_map, ← List.getLast?_eq_getElem?, List.getLastD_eq_getLast?, List.getLast?_eq_some_getLast h0]; rfl
    have hd : List.drop 0 (List.take (s.1.length - 1) (s.1.map S1)) = s.1.dropLast.map S1 := by
      rw [List.drop_zero, List.dropLast_eq_take, List.map_take]
    refine ⟨by omega, _, hg, by omega, by omega, by omega, rfl, ?_⟩
    rw [hd]; rfl

theorem good_node (hG : GlobOk G0) (nl : Bool) (s : Sh) (a b : By) : Good PG nG G0 f_greatseal_grow_shower_node [.ref 0 0, .str a, .str b] (blkS nl s) (.str (nodeS a b s).1) (blkS nl (nodeS a b s).2) := by
  refine good_of_run prOk (by kernel_rfl) (greatseal_grow_shower_node_run nl _ _ a b G0 _ ⟨_, _, good_Node hG a b, ?_⟩)
  simp only [ifK_iff]
  obtain ⟨s1, s2⟩ := s
  refine ⟨fun h => ⟨rfl, ?_⟩, fun h => ⟨rfl, ?_⟩⟩
  · simp only at h
    simp [nodeS, blkS, h]
  · simp only at h
    simp [nodeS, blkS, h]

theorem lastS_len (s : Sh) : (lastS s).2.1.length ≤ s.1.length := by
  unfold lastS
  split
  · exact Nat.le_refl _
  · simp

theorem bothS_len : ∀ (N m n : Nat) (old : By) (known : Bool) (s : Sh), n ≤ N → (bothS m n old known s).2.2.1.length ≤ s.1.length := by
  intro N
  induction N with
  | zero =>
    intro m n old known s h
    rw [bothS, dif_pos (by omega)]
    split
    · exact Nat.le_refl _
    · exact lastS_len s
  | succ N ih =>
    intro m n old known s h
    by_cases hc : n ≤ m ∨ n ≤ 1
    · rw [bothS, dif_pos hc]
      split
      · exact Nat.le_refl _
      · exact lastS_len s
    · have hk1 := halfN_pos n
      have hk2 := halfN_lt (n := n) (by omega)
      rw [bothS, dif_neg hc]
      split
      · exact Nat.le_trans (ih m (halfN n) old known (lastS s).2 (by omega)) (lastS_len s)
      · exact Nat.le_trans (ih (m - halfN n) (n - halfN n) old false (lastS s).2 (by omega)) (lastS_len s)

theorem good_both (hG : GlobOk G0) : ∀ (N m n : Nat) (old : By) (known : Bool) (nl : Bool) (s : Sh), n ≤ N → 1 ≤ m → m ≤ n → n ≤ 24 → s.1.length ≤ 1000000000000000000 →
    Good PG nG G0 f_greatseal_grow_shower_both [.ref 0 0, .int .i64 m, .int .i64 n, .str old, .bool known] (blkS nl s) (.tup [.str (bothS m n old known s).1, .str (bothS m n old known s).2.1]) (blkS nl (bothS m n old known s).2.2) := by
  intro N
  induction N with
  | zero => intro m n old known nl s h h1 h2; omega
  | succ N ih =>
    intro m n old known nl s hN h1 h2 h24 hb
    refine good_of_run prOk (by kernel_rfl) (greatseal_grow_shower_both_run nl _ _ m n old known G0 _ ?_)
    simp only [ifK_iff, beq_iff_eq, beq_eq_false_iff_ne, decide_eq_true_eq, decide_eq_false_iff_not]
    refine ⟨fun h => ?_, fun h => ?_⟩
    · obtain rfl : m = n := by omega
      rw [bothS_all]
      refine ⟨fun hk => ?_, fun hk => ⟨_, _, _, _, good_last nl s hb, ?_⟩⟩
      · rw [if_pos hk]; exact ⟨rfl, rfl⟩
      · rw [if_neg (by simp [hk])]; exact ⟨rfl, rfl⟩
    · have hk1 := halfN_pos n
      have hk2 := halfN_lt (n := n) (by omega)
      have hls := lastS_len s
      rw [bothS_less h1 (by omega)]
      refine ⟨_, _, good_Half' n (by omega) h24, _, _, _, _, good_last nl s hb, fun hc => ?_, fun hc => ?_⟩
      · rw [if_pos (by omega)]
        have := bothS_len n m (halfN n) old known (lastS s).2 (by omega)
        exact ⟨_, _, _, _, _, ih m (halfN n) old known nl (lastS s).2 (by omega) h1 (by omega) (by omega) (by omega), _, _, _, _, good_node hG nl _ _ _, rfl, rfl⟩
      · rw [if_neg (by omega)]
        have w1 : IntKind.i64.wrap ((m : Int) - (halfN n : Nat)) = ((m - halfN n : Nat) : Int) := by rw [wrap64 (by omega) (by omega)]; omega
        have w2 : IntKind.i64.wrap ((n : Int) - (halfN n : Nat)) = ((n - halfN n : Nat) : Int) := by rw [wrap64 (by omega) (by omega)]; omega
        rw [w1, w2]
        exact ⟨_, _, _, _, _, ih (m - halfN n) (n - halfN n) old false nl (lastS s).2 (by omega) (by omega) (by omega) (by omega) (by omega), _, _, _, _, good_node hG nl _ _ _, _, _, _, _, good_node hG nl _ _ _, rfl, rfl⟩

theorem good_growShows (hG : GlobOk G0) (old : By) (m : Int) (root : By) (n : Int) (nl : Bool) (l : List By) (hb : l.length ≤ 1000000000000000000) :
    Good PG nG G0 f_grow_Shows [.str old, .int .i64 m, .str root, .int .i64 n, .sl 1 nl none (l.map S1)] [] (.int .i64 (growShows old m root n l)) [] := by
  refine good_of_run prOk (by kernel_rfl) (grow_Shows_run old m root n nl _ G0 _ ?_)
  simp only [ifK_iff, decide_eq_true_eq, decide_eq_false_iff_not]
  refine ⟨fun h => ?_, fun h1 => ⟨fun h => ?_, fun h2 => ⟨fun h => ?_, fun h3 => ?_⟩⟩⟩
  · rw [growShows, if_pos (by omega)]; exact ⟨rfl, trivial⟩
  · rw [growShows, if_pos (by omega)]; exact ⟨rfl, trivial⟩
  · rw [growShows, if_pos (by omega)]; exact ⟨rfl, trivial⟩
  · obtain ⟨a, rfl⟩ := Int.eq_ofNat_of_zero_le (show 0 ≤ m by omega)
    obtain ⟨b, rfl⟩ := Int.eq_ofNat_of_zero_le (show 0 ≤ n by omega)
    have g := good_both (G0 := G0) hG b a b old true nl (l, false) (Nat.le_refl _) (by omega) (by omega) (by omega) hb
    refine ⟨_, _, _, _, _, g, ?_⟩
    rw [growShows, if_neg (by omega), Int.toNat_natCast, Int.toNat_natCast, List.length_map]
    refine ⟨fun h => ?_, fun h4 => ⟨fun h => ?_, fun h5 => ⟨fun h => ?_, fun h6 => ⟨fun h => ?_, fun h7 => ?_⟩⟩⟩⟩
    · rw [if_pos (.inl h)]; exact ⟨rfl, trivial⟩
    · rw [if_pos (.inr (.inl (by intro e; rw [e] at h; simp at h)))]; exact ⟨rfl, trivial⟩
    · rw [if_pos (.inr (.inr (.inl (by simpa using h))))]; exact ⟨rfl, trivial⟩
    · rw [if_pos (.inr (.inr (.inr (by simpa using h))))]; exact ⟨rfl, trivial⟩
    · rw [if_neg]
      · exact ⟨rfl, trivial⟩
      · simp only [not_or, ne_eq, Decidable.not_not]
        exact ⟨by simp [h4], List.eq_nil_of_length_eq_zero (by omega), by simpa using h6, by simpa using h7⟩

theorem growOf_len : ∀ (N : Nat) (l : List By) (m : Nat) (known : Bool), l.length ≤ N → (growOf l m known).length ≤ l.length + 1 := by
  intro N
  induction N with
  | zero =>
    intro l m known h
    rw [growOf, dif_pos (by omega)]
    split <;> simp
  | succ N ih =>
    intro l m known h
    by_cases hc : l.length ≤ m ∨ l.length ≤ 1
    · rw [growOf, dif_pos hc]
      split <;> simp
    · have hk1 := halfN_pos l.length
      have hk2 := halfN_lt (n := l.length) (by omega)
      rw [growOf, dif_neg hc]
      split
      · have := ih (l.take (halfN l.length)) m known (by simp only [List.length_take]; omega)
        simp only [List.length_append, List.length_take, List.length_cons, List.length_nil] at this ⊢; omega
      · have := ih (l.drop (halfN l.length)) (m - halfN l.length) false (by simp only [List.length_drop]; omega)
        simp only [List.length_append, List.length_drop, List.length_cons, List.length_nil] at this ⊢; omega

theorem good_growof (hG : GlobOk G0) : ∀ (N : Nat) (l : List By) (nl : Bool) (m : Nat) (known : Bool), l.length ≤ N → l.length ≤ 24 → (tRoot l).2 = 0 → 1 ≤ m → m ≤ l.length →
    Good PG nG G0 f_grow_of [.sl 1 nl none (l.map S1), .int .i64 m, .bool known] [] (.tup [.sl 1 (growOf l m known).isEmpty (some 0) ((growOf l m known).map S1), .int .i64 0]) [some (.grow 1 (growOf l m known).length)] := by
  intro N
  induction N with
  | zero => intro l nl m known h1 h2 h3 h4 h5; omega
  | succ N ih =>
    intro l nl m known hN h24 hr h1 hm
    refine good_of_run prOk (by kernel_rfl) (grow_of_run nl _ m known G0 _ ?_)
    simp only [ifK_iff, beq_iff_eq, beq_eq_false_iff_ne, decide_eq_true_eq, decide_eq_false_iff_not, List.length_map, bne_iff_ne, ne_eq, bne_eq_false_iff_eq]
    have gl := good_Root' (G0 := G0) hG l nl
    rw [show rootOf l = tRoot l by rw [rootOf, if_neg (by omega)], hr] at gl
    refine ⟨fun h => ⟨fun hk => ?_, fun hk => ⟨_, _, gl, ?_⟩⟩, fun h => ?_⟩
    · obtain rfl : m = l.length := by omega
      rw [growOf_all, if_pos hk]; exact ⟨rfl, rfl⟩
    · obtain rfl : m = l.length := by omega
      rw [growOf_all, if_neg (by simp [hk])]; exact ⟨rfl, rfl⟩
    · have h2 : 2 ≤ l.length := by omega
      have hk1 := halfN_pos l.length
      have hk2 := halfN_lt h2
      obtain ⟨r1, r2, _⟩ := tRoot_split hr h2
      have lt1 : (l.take (halfN l.length)).length = halfN l.length := by simp only [List.length_take]; omega
      have ld1 : (l.drop (halfN l.length)).length = l.length - halfN l.length := by simp only [List.length_drop]
      have e1 : List.drop 0 (List.take (Int.toNat (halfN l.length : Int)) (l.map S1)) = (l.take (halfN l.length)).map S1 := by simp
      have e2 : List.drop (Int.toNat (halfN l.length : Int)) (List.take (Int.toNat (l.length : Int)) (l.map S1)) = (l.drop (halfN l.length)).map S1 := by
        simp [List.take_of_length_le]
      have q1 : rootOf (l.take (halfN l.length)) = tRoot (l.take (halfN l.length)) := by rw [rootOf, if_neg (by omega)]
      have q2 : rootOf (l.drop (halfN l.length)) = tRoot (l.drop (halfN l.length)) := by rw [rootOf, if_neg (by omega)]
      have g1 := good_Root' (G0 := G0) hG (l.take (halfN l.length)) nl
      have g2 := good_Root' (G0 := G0) hG (l.drop (halfN l.length)) nl
      rw [q1, r1] at g1
      rw [q2, r2] at g2
      refine ⟨_, _, good_Half' l.length h2 h24, by omega, by omega, by omega, by omega, by omega, by omega, fun hc => ?_, fun hc => ?_⟩
      · have w1 : IntKind.i64.wrap ((m : Int) - (halfN l.length : Nat)) = ((m - halfN l.length : Nat) : Int) := by rw [wrap64 (by omega) (by omega)]; omega
        rw [w1, e1, e2]
        have := ih (l.drop (halfN l.length)) nl (m - halfN l.length) false (by omega) (by omega) r2 (by omega) (by omega)
        rw [len_S1 (growOf (l.drop (halfN l.length)) (m - halfN l.length) false)] at this
        refine ⟨_, _, _, this, fun h => absurd rfl h, fun _ => ⟨_, _, g1, fun h => absurd rfl h, fun _ => ⟨?_, trivial, ?_⟩⟩⟩
        · have := growOf_len _ (l.drop (halfN l.length)) (m - halfN l.length) false (Nat.le_refl _)
          simp only [List.length_map, List.length_cons, List.length_nil]; omega
        · rw [growOf_less (l := l) (m := m) h1 (by omega), if_neg (by omega)]
          simp [S1]
      · rw [e1, e2]
        have := ih (l.take (halfN l.length)) nl m known (by omega) (by omega) r1 h1 (by omega)
        rw [len_S1 (growOf (l.take (halfN l.length)) m known)] at this
        refine ⟨_, _, _, this, fun h => absurd rfl h, fun _ => ⟨_, _, g2, fun h => absurd rfl h, fun _ => ⟨?_, trivial, ?_⟩⟩⟩
        · have := growOf_len _ (l.take (halfN l.length)) m known (Nat.le_refl _)
          simp only [List.length_map, List.length_cons, List.length_nil]; omega
        · rw [growOf_less (l := l) (m := m) h1 (by omega), if_pos (by omega)]
          simp [S1]

/-- Seals that show growth, or what is wrong. -/
def growR (l : List By) (m : Int) : List By × Int := if (rootOf l).2 ≠ 0 then ([], (rootOf l).2) else if m < 1 ∨ l.length < m then ([], 3) else (growOf l m.toNat true, 0)

theorem good_growOf (hG : GlobOk G0) (l : List By) (nl : Bool) (m : Int) :
    Good PG nG G0 f_grow_Of [.sl 1 nl none (l.map S1), .int .i64 m] [] (.tup [.sl 1 (growR l m).1.isEmpty none ((growR l m).1.map S1), .int .i64 (growR l m).2]) [] := by
  refine good_of_run prOk (by kernel_rfl) (grow_Of_run nl _ m G0 _ ⟨_, _, good_Root' hG l nl, ?_⟩)
  simp only [ifK_iff, decide_eq_true_eq, decide_eq_false_iff_not, List.length_map, bne_iff_ne, ne_eq, bne_eq_false_iff_eq]
  refine ⟨fun h => ?_, fun h => ⟨fun h2 => ?_, fun h2 => ⟨fun h3 => ?_, fun h3 => ?_⟩⟩⟩
  · rw [growR, if_pos h]; exact ⟨rfl, trivial⟩
  · rw [growR, if_neg (by simpa using h), if_pos (.inl h2)]; exact ⟨rfl, trivial⟩
  · rw [growR, if_neg (by simpa using h), if_pos (.inr (by omega))]; exact ⟨rfl, trivial⟩
  · rw [growR, if_neg (by simpa using h), if_neg (by omega)]
    obtain ⟨k, rfl⟩ := Int.eq_ofNat_of_zero_le (show 0 ≤ m by omega)
    rw [Int.toNat_natCast]
    obtain ⟨a, b⟩ := rootOf_ok' h
    rw [b] at h
    have := good_growof hG _ l nl k true (Nat.le_refl _) a h (by omega) (by omega)
    rw [len_S1 (growOf l k true)] at this
    exact ⟨_, _, _, this, rfl, trivial⟩
end Go.Ab

namespace Go.Ab
open Go.Proofs Go.Gs
variable {G0 : Nat → Option Obj}

theorem good_parts0 (m n : Nat) (h1 : 1 ≤ m) (h2 : m ≤ n) (hn : n ≤ 1000) : Good PG nG G0 f_greatsealref_parts [.int .i64 m, .int .i64 n] []
    (.tup [.sl 2 (partsF m 0 n true).1.isEmpty (some 0) ((partsF m 0 n true).1.map P2), .agg [.int .i64 (partsF m 0 n true).2.1.1, .int .i64 (partsF m 0 n true).2.1.2], .bool (partsF m 0 n true).2.2]) [some (.grow 2 (partsF m 0 n true).1.length)] := by
  refine good_of_run prOk (by kernel_rfl) (greatsealref_parts_run m n G0 _ ?_)
  suffices main : ∀ R : AV → List (Option Blk) → Prop, R (.tup [.sl 2 (partsF m 0 n true).1.isEmpty (some 0) ((partsF m 0 n true).1.map P2), .agg [.int .i64 (partsF m 0 n true).2.1.1, .int .i64 (partsF m 0 n true).2.1.2], .bool (partsF m 0 n true).2.2]) [some (.grow 2 (partsF m 0 n true).1.length)] →
      ∀ (N f t : Nat) (known : Bool) (acc : List (Nat × Nat)), t - f ≤ N → f < m → m ≤ t → t ≤ n → acc ++ (partsF m f t known).1 = (partsF m 0 n true).1 → (partsF m f t known).2 = (partsF m 0 n true).2 →
      Does PG nG G0 (fnOf PG f_greatsealref_parts) 0 (lp PG f_greatsealref_parts 0) (mkT 42 [(0, .int .i64 m), (4, .sl 2 acc.isEmpty (some 0) (acc.map P2)), (5, .ref 1 0), (6, .bool known), (7, .int .i64 f), (8, .int .i64 t)])
        [some (.grow 2 acc.length), some (.var [.int .i64 0, .int .i64 0])] R from
    main _ ⟨rfl, rfl⟩ n 0 n true [] (by omega) (by omega) h2 (Nat.le_refl _) rfl rfl
  intro R hR N
  induction N with
  | zero => intro f t known acc g1 g2 g3; omega
  | succ N ih =>
    intro f t known acc g1 g2 g3 g4 g5 g6
    refine does_of_run prOk (greatsealref_parts_l0_run G0 _ _ _ _ _ _ _ _ _ R ?_)
    simp only [ifK_iff, decide_eq_true_eq, decide_eq_false_iff_not, List.length_map]
    by_cases hc : t ≤ m
    · rw [partsF_end hc] at g5 g6
      rw [← g5, ← g6, List.append_nil] at hR
      exact ⟨fun h => absurd h (by omega), fun _ => hR⟩
    · have hk1 := halfN_pos (t - f)
      have hk2 := halfN_lt (n := t - f) (by omega)
      have hfull := (partsF_in n m 0 n true (by omega) (by omega) h2).2.2.2.2
      have hlen := congrArg List.length g5
      rw [List.length_append] at hlen
      have w1 : IntKind.i64.wrap ((t : Int) - f) = ((t - f : Nat) : Int) := by rw [wrap64 (by omega) (by omega)]; omega
      have w2 : IntKind.i64.wrap ((f : Int) + (halfN (t - f) : Nat)) = ((f + halfN (t - f) : Nat) : Int) := by rw [wrap64 (by omega) (by omega)]; omega
      have gh := good_HalfOf (G0 := G0) ((t - f : Nat) : Int) (by omega)
      rw [Int.toNat_natCast] at gh
      have nxt : ∀ (p : Nat × Nat) f' t' k', t' - f' ≤ N → f' < m → m ≤ t' → t' ≤ n → (acc ++ [p]) ++ (partsF m f' t' k').1 = (partsF m 0 n true).1 → (partsF m f' t' k').2 = (partsF m 0 n true).2 →
          (acc.length + List.length [P2 p]) * 16 ≤ 140737488355328 ∧ True ∧
          Does PG nG G0 (fnOf PG f_greatsealref_parts) 0 (lp PG f_greatsealref_parts 0)
            (mkT 42 [(0, .int .i64 m), (4, .sl 2 (acc.isEmpty && List.isEmpty [P2 p]) (some 0) (acc.map P2 ++ [P2 p])), (5, .ref 1 0), (6, .bool k'), (7, .int .i64 f'), (8, .int .i64 t')])
            [some (.grow 2 (acc.length + List.length [P2 p])), some (.var [.int .i64 0, .int .i64 0])] R := by
        intro p f' t' k' q1 q2 q3 q4 q5 q6
        have := ih f' t' k' (acc ++ [p]) q1 q2 q3 q4 q5 q6
        have e2 : (acc ++ [p]).isEmpty = (acc.isEmpty && List.isEmpty [P2 p]) := by cases acc <;> rfl
        rw [List.map_append, e2, List.length_append] at this
        refine ⟨?_, trivial, this⟩
        simp only [List.length_cons, List.length_nil]; omega
      refine ⟨fun _ => ⟨_, by rw [w1]; exact gh, ?_⟩, fun h => absurd (show (m : Int) < t by omega) h⟩
      rw [w2]
      refine ⟨fun h3 => ?_, fun h3 => ?_⟩
      · rw [partsF_left hc (by omega) (by omega)] at g5 g6
        exact nxt (f + halfN (t - f), t) f (f + halfN (t - f)) known (by omega) g2 (by omega) (by omega) (by rw [← g5]; simp) g6
      · rw [partsF_right hc (by omega) (by omega)] at g5 g6
        exact nxt (f, f + halfN (t - f)) (f + halfN (t - f)) t false (by omega) (by omega) g3 g4 (by rw [← g5]; simp) g6

theorem good_parts_nil (m n : Nat) (h1 : 1 ≤ m) (h2 : m ≤ n) (hn : n ≤ 1000) (he : (partsF m 0 n true).1 = []) : Good PG nG G0 f_greatsealref_parts [.int .i64 m, .int .i64 n] []
    (.tup [.sl 2 true none [], .agg [.int .i64 (partsF m 0 n true).2.1.1, .int .i64 (partsF m 0 n true).2.1.2], .bool (partsF m 0 n true).2.2]) [] := by
  have := (good_parts0 (G0 := G0) m n h1 h2 hn).out
  rw [he] at this
  exact this

theorem good_parts_arr (m n : Nat) (h1 : 1 ≤ m) (h2 : m ≤ n) (hn : n ≤ 1000) (he : (partsF m 0 n true).1.isEmpty = false) : Good PG nG G0 f_greatsealref_parts [.int .i64 m, .int .i64 n] []
    (.tup [.rsl 2 0 0 ((partsF m 0 n true).1.map P2).length, .agg [.int .i64 (partsF m 0 n true).2.1.1, .int .i64 (partsF m 0 n true).2.1.2], .bool (partsF m 0 n true).2.2]) [some (.arr 2 ((partsF m 0 n true).1.map P2))] := by
  refine Good.thawT (plain_P2 _) (fun y hy => ?_) ?_
  · simp at hy
    rcases hy with rfl | rfl <;> rfl
  · have := good_parts0 (G0 := G0) m n h1 h2 hn
    rw [he] at this
    rw [List.length_map]
    exact this

theorem growO_loop (hG : GlobOk G0) (l : List By) (nl : Bool) (hl : l.length ≤ 24) (rs : List (Nat × Nat)) (nr : Bool) (hr : rs.length ≤ 24) (hrs : ∀ p ∈ rs, p.1 ≤ p.2 ∧ p.2 ≤ l.length) {R : AV → List (Option Blk) → Prop} (pre : List By) (hpre : pre.length ≤ 1)
    (hR : R (.tup [.sl 1 (pre ++ rs.map fun p => (tRoot (sub l p.1 p.2)).1).isEmpty none ((pre ++ rs.map fun p => (tRoot (sub l p.1 p.2)).1).map S1), .int .i64 0]) []) :
    ∀ (d k : Nat), rs.length - k ≤ d → k ≤ rs.length → Does PG nG G0 (fnOf PG f_greatsealref_GrowthOf) 0 (lp PG f_greatsealref_GrowthOf 0)
      (mkT 79 [(0, .sl 1 nl none (l.map S1)), (11, .sl 1 (pre.length + k == 0) (some 0) ((pre ++ (rs.take k).map fun p => (tRoot (sub l p.1 p.2)).1).map S1)), (57, .sl 2 nr none (rs.map P2)), (58, .int .i64 rs.length), (59, .int .i64 k)]) [some (.grow 1 (pre.length + k))] R := by
  intro d
  have last : ∀ k : Nat, k = rs.length → Does PG nG G0 (fnOf PG f_greatsealref_GrowthOf) 0 (lp PG f_greatsealref_GrowthOf 0)
      (mkT 79 [(0, .sl 1 nl none (l.map S1)), (11, .sl 1 (pre.length + k == 0) (some 0) ((pre ++ (rs.take k).map fun p => (tRoot (sub l p.1 p.2)).1).map S1)), (57, .sl 2 nr none (rs.map P2)), (58, .int .i64 rs.length), (59, .int .i64 k)]) [some (.grow 1 (pre.length + k))] R := by
    intro k hk
    subst hk
    refine does_of_run prOk (greatsealref_GrowthOf_l0_run G0 _ _ _ _ _ _ _ _ _ R ?_)
    simp only [ifK_iff, decide_eq_true_eq, decide_eq_false_iff_not]
    refine ⟨fun h => absurd h (by omega), fun _ => ?_⟩
    have e : (pre.length + rs.length == 0) = (pre ++ rs.map fun p => (tRoot (sub l p.1 p.2)).1).isEmpty := by cases pre <;> cases rs <;> rfl
    rw [List.take_length, e]; exact hR
  induction d with
  | zero => intro k h1 h2; exact last k (by omega)
  | succ d ih =>
    intro k h1 h2
    by_cases hk : k = rs.length
    · exact last k hk
    · have hkl : k < rs.length := by omega
      obtain ⟨b1, b2⟩ := hrs rs[k] (List.getElem_mem hkl)
      have g := good_RootOf (G0 := G0) hG (sub l rs[k].1 rs[k].2) nl
      have hsl := sub_len (l := l) (f := rs[k].1) (t := rs[k].2) b2
      rw [rootOf, if_neg (by omega)] at g
      have hlen : ((pre ++ (rs.take k).map fun p => (tRoot (sub l p.1 p.2)).1).map S1).length = pre.length + k := by simp; omega
      refine does_of_run prOk (greatsealref_GrowthOf_l0_run G0 _ _ _ _ _ _ _ _ _ R ?_)
      simp only [ifK_iff, decide_eq_true_eq, decide_eq_false_iff_not, Int.toNat_natCast]
      rw [wrapI (by omega) (by omega)]
      have := ih (k + 1) (by omega) (by omega)
      have e5 : (pre ++ (rs.take (k + 1)).map fun p => (tRoot (sub l p.1 p.2)).1) = (pre ++ (rs.take k).map fun p => (tRoot (sub l p.1 p.2)).1) ++ [(tRoot (sub l rs[k].1 rs[k].2)).1] := by
        rw [List.take_succ_eq_append_getElem hkl, List.map_append, List.append_assoc]; rfl
      have e0 : (pre.length + (k + 1) == 0) = false := rfl
      rw [e5, List.map_append, e0] at this
      refine ⟨fun _ => ⟨by omega, _, _, getX hkl, by omega, by omega, by omega, by omega, by omega, by omega, by simp; omega, _, _, by rw [Int.toNat_natCast, Int.toNat_natCast, sub_map]; exact g, by rw [hlen]; simp; omega, hlen, ?_⟩, fun h => absurd (show (k : Int) < rs.length by omega) h⟩
      simp only [List.isEmpty_cons, Bool.and_false]
      exact this

theorem good_GrowthOf (hG : GlobOk G0) (l : List By) (nl : Bool) (m : Int) :
    Good PG nG G0 f_greatsealref_GrowthOf [.sl 1 nl none (l.map S1), .int .i64 m] [] (.tup [.sl 1 (growR l m).1.isEmpty none ((growR l m).1.map S1), .int .i64 (growR l m).2]) [] := by
  refine good_of_run prOk (by kernel_rfl) (greatsealref_GrowthOf_run nl _ m G0 _ ⟨_, _, good_RootOf hG l nl, ?_⟩)
  simp only [ifK_iff, List.length_map, bne_iff_ne, ne_eq, bne_eq_false_iff_eq, Bool.not_eq_true', Bool.not_eq_false']
  refine ⟨fun h => ?_, fun h => ⟨_, good_in m 1 _, ?_⟩⟩
  · rw [growR, if_pos h]; exact ⟨rfl, trivial⟩
  simp only [decide_eq_true_eq, decide_eq_false_iff_not]
  refine ⟨fun h2 => ?_, fun h2 => ?_⟩
  · rw [growR, if_neg (by simpa using h), if_pos (by omega)]; exact ⟨rfl, trivial⟩
  · obtain ⟨k, rfl⟩ := Int.eq_ofNat_of_zero_le (show 0 ≤ m by omega)
    have hpr : growR l k = (growOf l k true, 0) := by rw [growR, if_neg (by simpa using h), if_neg (by omega), Int.toNat_natCast]
    rw [hpr]
    obtain ⟨a, b⟩ := rootOf_ok' h
    have hgp := parts_grow l l.length k 0 l.length true (by omega) (by omega) (by omega) (Nat.le_refl _)
    rw [sub_all, Nat.sub_zero] at hgp
    have hin := partsF_in l.length k 0 l.length true (by omega) (by omega) (by omega)
    generalize hpp : partsF k 0 l.length true = pp at hgp hin
    obtain ⟨bs, ⟨la, lb⟩, kn⟩ := pp
    simp only at hgp hin
    have g0 := fun he => good_parts_nil (G0 := G0) k l.length (by omega) (by omega) (by omega) he
    have g1 := fun he => good_parts_arr (G0 := G0) k l.length (by omega) (by omega) (by omega) he
    rw [hpp] at g0 g1
    simp only at g0 g1
    have main := fun pre hpre hR => growO_loop (G0 := G0) hG l nl a bs.reverse bs.isEmpty (by rw [List.length_reverse]; omega) (fun p hp => by have := hin.1 p (by simpa using hp); omega)
      (R := fun r' H'' => r' = .tup [.sl 1 (growOf l k true).isEmpty none ((growOf l k true).map S1), .int .i64 0] ∧ H'' = []) pre hpre hR bs.reverse.length 0 (by omega) (Nat.zero_le _)
    have gl := good_RootOf (G0 := G0) hG (sub l la lb) nl
    have hsl := sub_len (l := l) (f := la) (t := lb) hin.2.2.2.1
    rw [rootOf, if_neg (by omega)] at gl
    have mk := main [] (by simp)
    have mx := main [(tRoot (sub l la lb)).1] (by simp)
    cases kn with
    | true =>
      simp only [if_true, List.nil_append] at hgp
      have mk := mk ⟨by rw [List.nil_append, hgp], rfl⟩
      simp only [List.take_zero, List.map_nil, List.nil_append, List.length_nil, Nat.zero_add, List.length_reverse] at mk
      cases hb : bs with
      | nil =>
        subst hb
        exact ⟨true, [], _, _, _, fun _ => ⟨g0 rfl, fun h => (by cases h), fun _ => ⟨good_Reverse_nil, mk⟩⟩, fun h => (by cases h)⟩
      | cons x r =>
        have he : bs.isEmpty = false := by rw [hb]; rfl
        rw [he] at mk
        refine ⟨false, bs.map P2, _, _, _, fun h => (by cases h), fun _ => ⟨g1 he, fun h => (by cases h), fun _ => ⟨_, good_Reverse bs (by omega), ?_⟩⟩⟩
        have e : List.take ((bs.map P2).length) (List.drop 0 (bs.reverse.map P2)) = bs.reverse.map P2 := by
          rw [List.drop_zero, List.take_of_length_le (by simp)]
        rw [e, List.length_map, List.length_reverse]
        exact mk
    | false =>
      simp only [Bool.false_eq_true, if_false] at hgp
      have mx := mx ⟨by rw [hgp], rfl⟩
      simp only [List.take_zero, List.map_nil, List.append_nil, List.length_cons, List.length_nil, Nat.zero_add, Nat.add_zero, List.length_reverse] at mx
      cases hb : bs with
      | nil =>
        subst hb
        exact ⟨true, [], _, _, _, fun _ => ⟨g0 rfl, fun _ => ⟨by omega, by omega, by omega, by omega, by omega, by omega, by simp; omega, _, _, by rw [Int.toNat_natCast, Int.toNat_natCast, sub_map]; exact gl, by simp, good_Reverse_nil, mx⟩, fun h => (by cases h)⟩, fun h => (by cases h)⟩
      | cons x r =>
        have he : bs.isEmpty = false := by rw [hb]; rfl
        rw [he] at mx
        refine ⟨false, bs.map P2, _, _, _, fun h => (by cases h), fun _ => ⟨g1 he, fun _ => ⟨by omega, by omega, by omega, by omega, by omega, by omega, by simp; omega, _, _, by rw [Int.toNat_natCast, Int.toNat_natCast, sub_map]; exact gl, by simp, _, good_Reverse bs (by omega), ?_⟩, fun h => (by cases h)⟩⟩
        have e : List.take ((bs.map P2).length) (List.drop 0 (bs.reverse.map P2)) = bs.reverse.map P2 := by
          rw [List.drop_zero, List.take_of_length_le (by simp)]
        rw [e, List.length_map, List.length_reverse]
        exact mx
end Go.Ab

namespace Go.Ab
open Go.Proofs Go.Gs
variable {G0 : Nat → Option Obj}

/-- What both seals come to, held against what they should be. -/
def finG (old root : By) (r : Option (By × By)) : Int := match r with
  | none => 7
  | some p => if p.1 ≠ old ∨ p.2 ≠ root then 7 else 0

theorem growQ_loop (hG : GlobOk G0) (old root : By) (la : Nat) (lb : Nat) (ss : List By) (nl : Bool) (hss : ∀ s ∈ ss, s.length ≤ 4611686018427387903) (rs : List (Nat × Nat)) (nr : Bool) (hrs : rs.length ≤ 1000) (hl : ss.length = rs.length) {R : AV → List (Option Blk) → Prop} :
    ∀ (d k : Nat) (a b : By), rs.length - k ≤ d → k ≤ rs.length → a.length ≤ 4611686018427387903 → b.length ≤ 4611686018427387903 → R (.int .i64 (finG old root (compG (List.zip ((rs.map (rightG (la, lb))).drop k) (ss.drop k)) a b))) [] →
      Does PG nG G0 (fnOf PG f_greatsealref_GrowthShows) 0 (lp PG f_greatsealref_GrowthShows 0)
        (mkT 113 [(0, .str old), (2, .str root), (4, .sl 1 nl none (ss.map S1)), (12, .ref 0 0), (15, .str a), (16, .str b), (59, .sl 2 nr none (rs.map P2)), (60, .int .i64 rs.length), (61, .int .i64 k)]) [some (.var [.int .i64 la, .int .i64 lb])] R := by
  intro d
  have last : ∀ (k : Nat) (a b : By), k = rs.length → R (.int .i64 (finG old root (compG (List.zip ((rs.map (rightG (la, lb))).drop k) (ss.drop k)) a b))) [] →
      Does PG nG G0 (fnOf PG f_greatsealref_GrowthShows) 0 (lp PG f_greatsealref_GrowthShows 0)
        (mkT 113 [(0, .str old), (2, .str root), (4, .sl 1 nl none (ss.map S1)), (12, .ref 0 0), (15, .str a), (16, .str b), (59, .sl 2 nr none (rs.map P2)), (60, .int .i64 rs.length), (61, .int .i64 k)]) [some (.var [.int .i64 la, .int .i64 lb])] R := by
    intro k a b hk hR
    refine does_of_run prOk (greatsealref_GrowthShows_l0_run G0 _ _ _ _ _ _ _ _ _ _ _ _ R ?_)
    simp only [ifK_iff, decide_eq_true_eq, decide_eq_false_iff_not]
    have hcl : List.zip ((rs.map (rightG (la, lb))).drop k) (ss.drop k) = [] := by
      rw [List.drop_eq_nil_of_le (show (rs.map (rightG (la, lb))).length ≤ k by simp; omega)]; rfl
    rw [hcl] at hR
    have hR : R (.int .i64 (if a ≠ old ∨ b ≠ root then 7 else 0)) [] := hR
    refine ⟨fun h => absurd h (by omega), fun _ => ⟨fun h => ?_, fun h => ⟨fun h2 => ?_, fun h2 => ?_⟩⟩⟩
    · rw [if_pos (.inl (by simpa using h))] at hR; exact hR
    · rw [if_pos (.inr (by simpa using h2))] at hR; exact hR
    · rw [if_neg] at hR
      · exact hR
      · have h : a = old := by simpa using h
        have h2 : b = root := by simpa using h2
        simp [h, h2]
  induction d with
  | zero => intro k a b h1 h2 _ _ hR; exact last k a b (by omega) hR
  | succ d ih =>
    intro k a b h1 h2 ha hb hR
    by_cases hk : k = rs.length
    · exact last k a b hk hR
    · have hkr : k < rs.length := by omega
      have hks : k < ss.length := by omega
      have hsl := hss ss[k] (List.getElem_mem hks)
      refine does_of_run prOk (greatsealref_GrowthShows_l0_run G0 _ _ _ _ _ _ _ _ _ _ _ _ R ?_)
      rw [Int.toNat_natCast]
      simp only [ifK_iff, decide_eq_true_eq, decide_eq_false_iff_not, bne_iff_ne, ne_eq, bne_eq_false_iff_eq]
      rw [wrapI (by omega) (by omega)]
      have hz : List.zip ((rs.map (rightG (la, lb))).drop k) (ss.drop k) = (rightG (la, lb) rs[k], ss[k]) :: List.zip ((rs.map (rightG (la, lb))).drop (k + 1)) (ss.drop (k + 1)) := by
        rw [List.drop_eq_getElem_cons (show k < (rs.map (rightG (la, lb))).length by simpa using hkr), List.drop_eq_getElem_cons hks, List.getElem_map]; rfl
      rw [hz] at hR
      have ih := fun a b => ih (k + 1) a b (by omega) (by omega)
      refine ⟨fun _ => ⟨by omega, _, _, getX hkr, by omega, by omega, by omega, by omega, fun h => ⟨by omega, _, getX hks, _, _, good_NodeOf hG _ _ hb hsl, fun h3 => ?_, fun h3 => ih _ _ ha (by have := tNode_len b ss[k]; omega) ?_⟩,
        fun h => ⟨by omega, _, getX hks, _, _, good_NodeOf hG _ _ hsl ha, fun h3 => ?_, fun h3 => ⟨by omega, _, getX hks, _, _, good_NodeOf hG _ _ hsl hb, fun h4 => ?_, fun h4 => ih _ _ (by have := tNode_len ss[k] a; omega) (by have := tNode_len ss[k] b; omega) ?_⟩⟩⟩, fun h => absurd (show (k : Int) < rs.length by omega) h⟩
      · have hrt : rightG (la, lb) rs[k] = true := by unfold rightG; simp only [decide_eq_true_eq]; omega
        rw [hrt] at hR
        simp only [compG, if_true] at hR
        rw [if_pos h3] at hR
        exact hR
      · have hrt : rightG (la, lb) rs[k] = true := by unfold rightG; simp only [decide_eq_true_eq]; omega
        rw [hrt] at hR
        simp only [compG, if_true] at hR
        rw [if_neg (show ¬ (tNode b ss[k]).2 ≠ 0 by simpa using h3)] at hR
        exact hR
      · have hrt : rightG (la, lb) rs[k] = false := by unfold rightG; simp only [decide_eq_false_iff_not]; omega
        rw [hrt] at hR
        simp only [compG, Bool.false_eq_true, if_false] at hR
        rw [if_pos (.inl h3)] at hR
        exact hR
      · have hrt : rightG (la, lb) rs[k] = false := by unfold rightG; simp only [decide_eq_false_iff_not]; omega
        rw [hrt] at hR
        simp only [compG, Bool.false_eq_true, if_false] at hR
        rw [if_pos (.inr h4)] at hR
        exact hR
      · have hrt : rightG (la, lb) rs[k] = false := by unfold rightG; simp only [decide_eq_false_iff_not]; omega
        rw [hrt] at hR
        simp only [compG, Bool.false_eq_true, if_false] at hR
        rw [if_neg (show ¬ ((tNode ss[k] a).2 ≠ 0 ∨ (tNode ss[k] b).2 ≠ 0) by simp [h3, h4])] at hR
        exact hR

theorem good_GrowthShows (hG : GlobOk G0) (old : By) (hold : old.length ≤ 4611686018427387903) (m : Int) (root : By) (n : Int) (nl : Bool) (l : List By) (hl : ∀ s ∈ l, s.length ≤ 4611686018427387903) (hll : l.length ≤ 1000000000000000000) :
    Good PG nG G0 f_greatsealref_GrowthShows [.str old, .int .i64 m, .str root, .int .i64 n, .sl 1 nl none (l.map S1)] [] (.int .i64 (growShows old m root n l)) [] := by
  refine good_of_run prOk (by kernel_rfl) (greatsealref_GrowthShows_run old m root n nl _ G0 _ ?_)
  rw [ifK_iff]
  refine ⟨fun h => ?_, fun h1 => ?_⟩
  · have h : m < 1 := by simpa using h
    rw [growShows, if_pos (.inl h)]; exact ⟨rfl, rfl⟩
  rw [ifK_iff]
  refine ⟨fun h => ?_, fun h2 => ?_⟩
  · have h : n < m := by simpa using h
    rw [growShows, if_pos (.inr (.inl h))]; exact ⟨rfl, rfl⟩
  rw [ifK_iff]
  refine ⟨fun h => ?_, fun h3 => ?_⟩
  · have h : 24 < n := by simpa using h
    rw [growShows, if_pos (.inr (.inr h))]; exact ⟨rfl, rfl⟩
  have h1 : ¬ m < 1 := by simpa using h1
  have h2 : ¬ n < m := by simpa using h2
  have h3 : ¬ 24 < n := by simpa using h3
  obtain ⟨a, rfl⟩ := Int.eq_ofNat_of_zero_le (show 0 ≤ m by omega)
  obtain ⟨b, rfl⟩ := Int.eq_ofNat_of_zero_le (show 0 ≤ n by omega)
  rw [growRef_eq (by omega) (by omega) (by omega)]
  unfold growRef
  have hin := partsF_in b a 0 b true (by omega) (by omega) (by omega)
  have g0 := fun he => good_parts_nil (G0 := G0) a b (by omega) (by omega) (by omega) he
  have g1 := fun he => good_parts_arr (G0 := G0) a b (by omega) (by omega) (by omega) he
  generalize partsF a 0 b true = pp at hin g0 g1
  obtain ⟨bs, ⟨la, lb⟩, kn⟩ := pp
  simp only at hin g0 g1
  have loop := fun (ss : List By) hss hlen (x : By) hx => growQ_loop (G0 := G0) hG old root la lb ss nl hss bs.reverse bs.isEmpty (by rw [List.length_reverse]; omega) hlen
    (R := fun r' H'' => r' = .int .i64 (finG old root (compG (List.zip (bs.reverse.map (rightG (la, lb))) ss) x x)) ∧ H'' = []) bs.reverse.length 0 x x (by omega) (by omega) hx hx ⟨rfl, rfl⟩
  have e : List.take ((bs.map P2).length) (List.drop 0 (bs.reverse.map P2)) = bs.reverse.map P2 := by
    rw [List.drop_zero, List.take_of_length_le (by simp)]
  have hw : IntKind.i64.wrap ((bs.length : Int) + 1) = ((bs.length + 1 : Nat) : Int) := by rw [wrapI (by omega) (by omega)]; omega
  cases kn with
  | true =>
    simp only [if_true, Nat.add_zero]
    have loop := fun hlen => loop l hl hlen old hold
    simp only [List.length_reverse] at loop
    cases hbs : bs with
    | nil =>
      subst hbs
      refine ⟨true, [], (la : Int), (lb : Int), true, ?_⟩
      rw [ifT]
      refine ⟨g0 rfl, ?_⟩
      simp only [Bool.not_true, ifF, List.length_map]
      rw [ifK_iff]
      refine ⟨fun h => ?_, fun h => ⟨good_Reverse_nil, ?_⟩⟩
      · have h : l.length ≠ 0 := by intro e; rw [e] at h; simp at h
        rw [if_pos (by simpa using h)]; exact ⟨rfl, trivial⟩
      · have h : l.length = 0 := by simpa using h
        rw [if_neg (by simpa using h)]
        exact loop (by simpa using h)
    | cons x r =>
      have he : bs.isEmpty = false := by rw [hbs]; rfl
      rw [← hbs]
      rw [he] at loop
      refine ⟨false, bs.map P2, (la : Int), (lb : Int), true, ?_⟩
      rw [ifF]
      refine ⟨g1 he, ?_⟩
      simp only [Bool.not_true, ifF]
      rw [ifK_iff]
      refine ⟨fun h => ?_, fun h => ⟨_, good_Reverse bs (by omega), ?_⟩⟩
      · have h : l.length ≠ bs.length := by intro e; rw [List.length_map, List.length_map, e] at h; simp at h
        rw [if_pos h]; exact ⟨rfl, trivial⟩
      · have h : l.length = bs.length := by
          rw [List.length_map, List.length_map] at h
          have h : (l.length : Int) = (bs.length : Int) := by simpa using h
          omega
        rw [if_neg (by omega), e, List.length_map, List.length_reverse]
        exact loop h
  | false =>
    simp only [Bool.false_eq_true, if_false]
    have nil1 : l.length = bs.length + 1 → ∃ x ss, l = x :: ss := fun h => List.exists_cons_of_ne_nil (by intro e; rw [e] at h; simp at h)
    have hdr : ∀ (x : By) (ss : List By), List.drop 1 (List.take (Int.toNat (((x :: ss).map S1).length : Int)) ((x :: ss).map S1)) = ss.map S1 := by
      intro x ss
      rw [Int.toNat_natCast, List.take_of_length_le (Nat.le_refl _)]; rfl
    cases hbs : bs with
    | nil =>
      subst hbs
      refine ⟨true, [], (la : Int), (lb : Int), false, ?_⟩
      rw [ifT]
      refine ⟨g0 rfl, ?_⟩
      simp only [Bool.not_false, ifT]
      rw [ifK_iff]
      refine ⟨fun h => ?_, fun h => ?_⟩
      · have h : l.length ≠ 1 := by intro e; rw [List.length_map, e] at h; simp at h
        rw [if_pos (by simpa using h)]; exact ⟨rfl, trivial⟩
      · have h : l.length = 1 := by rw [List.length_map] at h; have h : (l.length : Int) = 1 := by simpa using h
                                    omega
        obtain ⟨x, ss, rfl⟩ := nil1 (by simpa using h)
        have lp := loop ss (fun s hs => hl s (by simp [hs])) (by simpa using h) x (hl x (by simp))
        rw [if_neg (by simpa using h), hdr]
        simp only [List.length_reverse] at lp
        exact ⟨by omega, _, rfl, by omega, by rw [List.length_map, List.length_cons]; omega, Int.le_refl _, good_Reverse_nil, lp⟩
    | cons y r =>
      have he : bs.isEmpty = false := by rw [hbs]; rfl
      rw [← hbs]
      refine ⟨false, bs.map P2, (la : Int), (lb : Int), false, ?_⟩
      rw [ifF]
      refine ⟨g1 he, ?_⟩
      simp only [Bool.not_false, ifT]
      rw [List.length_map, List.length_map, hw, ifK_iff]
      refine ⟨fun h => ?_, fun h => ?_⟩
      · have h : l.length ≠ bs.length + 1 := by intro e; rw [e] at h; simp at h
        rw [if_pos h]; exact ⟨rfl, trivial⟩
      · have h : l.length = bs.length + 1 := by
          have h : (l.length : Int) = ((bs.length + 1 : Nat) : Int) := by simpa using h
          omega
        obtain ⟨x, ss, rfl⟩ := nil1 h
        have lp := loop ss (fun s hs => hl s (by simp [hs])) (by simp at h ⊢; omega) x (hl x (by simp))
        rw [he] at lp
        have hdr := hdr x ss
        rw [List.length_map] at hdr
        rw [if_neg (by simpa using h), hdr]
        rw [List.length_map] at e
        have gR := good_Reverse (G0 := G0) bs (by omega)
        rw [List.length_map] at gR
        refine ⟨by omega, _, rfl, by omega, by rw [List.length_cons]; omega, Int.le_refl _, _, gR, ?_⟩
        rw [e, List.length_map]
        exact lp
end Go.Ab

namespace Go.Ab
open Go.Proofs
set_option maxRecDepth 100000



end Go.Ab

namespace Go.Ab
open Go.Proofs Go.Gs
variable {G0 : Nat → Option Obj}

theorem growR_len (l : List By) (m : Int) : (growR l m).1.length ≤ 25 := by
  unfold growR
  split
  · simp
  · rename_i h
    have h : (rootOf l).2 = 0 := by simpa using h
    split
    · simp
    · have := growOf_len _ l m.toNat true (Nat.le_refl _)
      have := (rootOf_ok' h).1
      simp only; omega

theorem growR_ok {l : List By} {m : Nat} (h : (rootOf l).2 = 0) (h1 : 1 ≤ m) (hm : m ≤ l.length) : growR l m = (growOf l m true, 0) := by rw [growR, if_neg (by simpa using h), if_neg (by omega), Int.toNat_natCast]

end Go.Ab

namespace Go.Ab
open Go.Proofs
set_option maxRecDepth 100000

def an_greatseallaw_ShowSays : FAnn := ⟨[], [], none, []⟩
def an_greatseallaw_ShowTrue : FAnn := ⟨[], [], none, []⟩
def an_greatseallaw_MeetSays : FAnn := ⟨[], [], none, []⟩
def an_greatseallaw_MeetTrue : FAnn := ⟨[], [], none, []⟩

theorem greatseallaw_ShowSays_run (nlb0_0 : Bool) (b0_0 : List (List AV)) (i1 : Int) (key2 : Int) (G0 : Nat → Option Go.Obj) (R : AV → List (Option Blk) → Prop) (h :
  ∃ n0 s1 b2 xs3 n4,
  Good PG nG G0 f_show_Entry [AV.agg [AV.sl (2 : Nat) nlb0_0 none b0_0], AV.int Go.IntKind.i64 i1] [] (AV.tup [AV.agg [AV.int Go.IntKind.i64 n0, AV.str s1], AV.sl (2 : Nat) b2 none xs3, AV.int Go.IntKind.i64 n4]) [] ∧
    ∃ b5 xs6 n7,
      Good PG nG G0 f_show_Growth [AV.agg [AV.sl (2 : Nat) nlb0_0 none b0_0], AV.int Go.IntKind.i64 i1] [] (AV.tup [AV.sl (1 : Nat) b5 none xs6, AV.int Go.IntKind.i64 n7]) [] ∧
        ∃ s8 b9 b10 xs11 n12,
          Good PG nG G0 f_show_Value [AV.agg [AV.sl (2 : Nat) nlb0_0 none b0_0], AV.int Go.IntKind.i64 key2] [] (AV.tup [AV.str s8, AV.bool b9, AV.sl (1 : Nat) b10 none xs11, AV.int Go.IntKind.i64 n12]) [] ∧
            ∃ n13,
              Good PG nG G0 f_greatsealref_CheckBook [AV.agg [AV.sl (2 : Nat) nlb0_0 none b0_0]] [] (AV.int Go.IntKind.i64 n13) [] ∧
                ∃ b14,
                  Good PG nG G0 f_greatseallaw_shown [] [] (AV.bool b14) [] ∧
                    ifK (!b14)
                      (∃ b15,
                        Good PG nG G0 f_greatseallaw_shown [] [] (AV.bool b15) [] ∧
                          ifK b15
                            (ifK (n4 == n13)
                              (ifK (n7 == n13)
                                (ifK (n12 == n13)
                                  (ifK (eqAll [AV.int Go.IntKind.i64 n0, AV.str s1] [AV.int Go.IntKind.i64 (0 : Int), AV.str []])
                                    (ifK (Go.IntKind.wrap Go.IntKind.i64 (Go.IntKind.wrap Go.IntKind.i64 ((↑(List.length xs3) : Int) + (↑(List.length xs6) : Int)) + (↑(List.length xs11) : Int)) == (0 : Int))
                                      (ifK (s8 == []) (R (AV.bool !b9) []) (R (AV.bool false) [])) (R (AV.bool false) []))
                                    (R (AV.bool false) []))
                                  (R (AV.bool false) []))
                                (R (AV.bool false) []))
                              (R (AV.bool false) []))
                            (R (AV.bool false) []))
                      (ifK (n13 != (0 : Int))
                        (∃ b16,
                          Good PG nG G0 f_greatseallaw_shown [] [] (AV.bool b16) [] ∧
                            ifK b16
                              (ifK (n4 == n13)
                                (ifK (n7 == n13)
                                  (ifK (n12 == n13)
                                    (ifK (eqAll [AV.int Go.IntKind.i64 n0, AV.str s1] [AV.int Go.IntKind.i64 (0 : Int), AV.str []])
                                      (ifK (Go.IntKind.wrap Go.IntKind.i64 (Go.IntKind.wrap Go.IntKind.i64 ((↑(List.length xs3) : Int) + (↑(List.length xs6) : Int)) + (↑(List.length xs11) : Int)) == (0 : Int))
                                        (ifK (s8 == []) (R (AV.bool !b9) []) (R (AV.bool false) [])) (R (AV.bool false) []))
                                      (R (AV.bool false) []))
                                    (R (AV.bool false) []))
                                  (R (AV.bool false) []))
                                (R (AV.bool false) []))
                              (R (AV.bool false) []))
                        (∃ b17 xs18,
                          Good PG nG G0 f_greatsealref_TextsOf [AV.agg [AV.sl (2 : Nat) nlb0_0 none b0_0]] [] (AV.sl (1 : Nat) b17 none xs18) [] ∧
                            ∃ b19 xs20 n21,
                              Good PG nG G0 f_greatsealref_PathOf [AV.sl (1 : Nat) b17 none xs18, AV.int Go.IntKind.i64 i1] [] (AV.tup [AV.sl (2 : Nat) b19 none xs20, AV.int Go.IntKind.i64 n21]) [] ∧
                                ∃ b22 xs23,
                                  Good PG nG G0 f_greatsealref_TextsOf [AV.agg [AV.sl (2 : Nat) nlb0_0 none b0_0]] [] (AV.sl (1 : Nat) b22 none xs23) [] ∧
                                    ∃ b24 xs25 n26,
                                      Good PG nG G0 f_greatsealref_GrowthOf [AV.sl (1 : Nat) b22 none xs23, AV.int Go.IntKind.i64 i1] [] (AV.tup [AV.sl (1 : Nat) b24 none xs25, AV.int Go.IntKind.i64 n26]) [] ∧
                                        ifK (n4 != n21) (R (AV.bool false) [])
                                          (∃ b27,
                                            Good PG nG G0 f_slices_Equal_Step [AV.sl (2 : Nat) b2 none xs3, AV.sl (2 : Nat) b19 none xs20] [] (AV.bool b27) [] ∧
                                              ifK (!b27) (R (AV.bool false) [])
                                                (ifK (n4 == (0 : Int))
                                                  ((0 : Int) ≤ i1 ∧
                                                    ∃ n28 s29,
                                                      b0_0[Int.toNat i1]? = some [AV.int Go.IntKind.i64 n28, AV.str s29] ∧
                                                        ifK (!eqAll [AV.int Go.IntKind.i64 n0, AV.str s1] [AV.int Go.IntKind.i64 n28, AV.str s29]) (R (AV.bool false) [])
                                                          (ifK (n4 != (0 : Int))
                                                            (ifK (!eqAll [AV.int Go.IntKind.i64 n0, AV.str s1] [AV.int Go.IntKind.i64 (0 : Int), AV.str []]) (R (AV.bool false) [])
                                                              (ifK (n7 != n26) (R (AV.bool false) [])
                                                                (∃ b30,
                                                                  Good PG nG G0 f_slices_Equal_string [AV.sl (1 : Nat) b5 none xs6, AV.sl (1 : Nat) b24 none xs25] [] (AV.bool b30) [] ∧
                                                                    ifK (!b30) (R (AV.bool false) [])
                                                                      (ifK (decide (key2 < (0 : Int)))
                                                                        (ifK (n12 == (5 : Int)) (ifK (s8 == []) (ifK (!b9) (R (AV.bool ((↑(List.length xs11) : Int) == (0 : Int))) []) (R (AV.bool false) [])) (R (AV.bool false) []))
                                                                          (R (AV.bool false) []))
                                                                        (ifK (decide (key2 > (15 : Int)))
                                                                          (ifK (n12 == (5 : Int)) (ifK (s8 == []) (ifK (!b9) (R (AV.bool ((↑(List.length xs11) : Int) == (0 : Int))) []) (R (AV.bool false) [])) (R (AV.bool false) []))
                                                                            (R (AV.bool false) []))
                                                                          (∃ b31 xs32,
                                                                            Good PG nG G0 f_greatsealref_ValuesOf [AV.agg [AV.sl (2 : Nat) nlb0_0 none b0_0]] [] (AV.mp b31 xs32) [] ∧
                                                                              ∃ s33 b34,
                                                                                mlookD Go.IntKind.i64 key2 (AV.str []) xs32 = some (AV.str s33, b34) ∧
                                                                                  ifK (n12 == (0 : Int))
                                                                                    (ifK (s8 == s33)
                                                                                      (ifK (b9 == b34)
                                                                                        (∃ b35 xs36,
                                                                                          Good PG nG G0 f_greatsealref_MapPath [AV.mp b31 xs32, AV.int Go.IntKind.i64 key2] [] (AV.sl (1 : Nat) b35 none xs36) [] ∧
                                                                                            ∃ b37, Good PG nG G0 f_slices_Equal_string [AV.sl (1 : Nat) b10 none xs11, AV.sl (1 : Nat) b35 none xs36] [] (AV.bool b37) [] ∧ R (AV.bool b37) [])
                                                                                        (R (AV.bool false) []))
                                                                                      (R (AV.bool false) []))
                                                                                    (R (AV.bool false) [])))))))
                                                            (ifK (n7 != n26) (R (AV.bool false) [])
                                                              (∃ b38,
                                                                Good PG nG G0 f_slices_Equal_string [AV.sl (1 : Nat) b5 none xs6, AV.sl (1 : Nat) b24 none xs25] [] (AV.bool b38) [] ∧
                                                                  ifK (!b38) (R (AV.bool false) [])
                                                                    (ifK (decide (key2 < (0 : Int)))
                                                                      (ifK (n12 == (5 : Int)) (ifK (s8 == []) (ifK (!b9) (R (AV.bool ((↑(List.length xs11) : Int) == (0 : Int))) []) (R (AV.bool false) [])) (R (AV.bool false) []))
                                                                        (R (AV.bool false) []))
                                                                      (ifK (decide (key2 > (15 : Int)))
                                                                        (ifK (n12 == (5 : Int)) (ifK (s8 == []) (ifK (!b9) (R (AV.bool ((↑(List.length xs11) : Int) == (0 : Int))) []) (R (AV.bool false) [])) (R (AV.bool false) []))
                                                                          (R (AV.bool false) []))
                                                                        (∃ b39 xs40,
                                                                          Good PG nG G0 f_greatsealref_ValuesOf [AV.agg [AV.sl (2 : Nat) nlb0_0 none b0_0]] [] (AV.mp b39 xs40) [] ∧
                                                                            ∃ s41 b42,
                                                                              mlookD Go.IntKind.i64 key2 (AV.str []) xs40 = some (AV.str s41, b42) ∧
                                                                                ifK (n12 == (0 : Int))
                                                                                  (ifK (s8 == s41)
                                                                                    (ifK (b9 == b42)
                                                                                      (∃ b43 xs44,
                                                                                        Good PG nG G0 f_greatsealref_MapPath [AV.mp b39 xs40, AV.int Go.IntKind.i64 key2] [] (AV.sl (1 : Nat) b43 none xs44) [] ∧
                                                                                          ∃ b45, Good PG nG G0 f_slices_Equal_string [AV.sl (1 : Nat) b10 none xs11, AV.sl (1 : Nat) b43 none xs44] [] (AV.bool b45) [] ∧ R (AV.bool b45) [])
                                                                                      (R (AV.bool false) []))
                                                                                    (R (AV.bool false) []))
                                                                                  (R (AV.bool false) []))))))))
                                                  (ifK (n4 != (0 : Int))
                                                    (ifK (!eqAll [AV.int Go.IntKind.i64 n0, AV.str s1] [AV.int Go.IntKind.i64 (0 : Int), AV.str []]) (R (AV.bool false) [])
                                                      (ifK (n7 != n26) (R (AV.bool false) [])
                                                        (∃ b46,
                                                          Good PG nG G0 f_slices_Equal_string [AV.sl (1 : Nat) b5 none xs6, AV.sl (1 : Nat) b24 none xs25] [] (AV.bool b46) [] ∧
                                                            ifK (!b46) (R (AV.bool false) [])
                                                              (ifK (decide (key2 < (0 : Int)))
                                                                (ifK (n12 == (5 : Int)) (ifK (s8 == []) (ifK (!b9) (R (AV.bool ((↑(List.length xs11) : Int) == (0 : Int))) []) (R (AV.bool false) [])) (R (AV.bool false) []))
                                                                  (R (AV.bool false) []))
                                                                (ifK (decide (key2 > (15 : Int)))
                                                                  (ifK (n12 == (5 : Int)) (ifK (s8 == []) (ifK (!b9) (R (AV.bool ((↑(List.length xs11) : Int) == (0 : Int))) []) (R (AV.bool false) [])) (R (AV.bool false) []))
                                                                    (R (AV.bool false) []))
                                                                  (∃ b47 xs48,
                                                                    Good PG nG G0 f_greatsealref_ValuesOf [AV.agg [AV.sl (2 : Nat) nlb0_0 none b0_0]] [] (AV.mp b47 xs48) [] ∧
                                                                      ∃ s49 b50,
                                                                        mlookD Go.IntKind.i64 key2 (AV.str []) xs48 = some (AV.str s49, b50) ∧
                                                                          ifK (n12 == (0 : Int))
                                                                            (ifK (s8 == s49)
                                                                              (ifK (b9 == b50)
                                                                                (∃ b51 xs52,
                                                                                  Good PG nG G0 f_greatsealref_MapPath [AV.mp b47 xs48, AV.int Go.IntKind.i64 key2] [] (AV.sl (1 : Nat) b51 none xs52) [] ∧
                                                                                    ∃ b53, Good PG nG G0 f_slices_Equal_string [AV.sl (1 : Nat) b10 none xs11, AV.sl (1 : Nat) b51 none xs52] [] (AV.bool b53) [] ∧ R (AV.bool b53) [])
                                                                                (R (AV.bool false) []))
                                                                              (R (AV.bool false) []))
                                                                            (R (AV.bool false) [])))))))
                                                    (ifK (n7 != n26) (R (AV.bool false) [])
                                                      (∃ b54,
                                                        Good PG nG G0 f_slices_Equal_string [AV.sl (1 : Nat) b5 none xs6, AV.sl (1 : Nat) b24 none xs25] [] (AV.bool b54) [] ∧
                                                          ifK (!b54) (R (AV.bool false) [])
                                                            (ifK (decide (key2 < (0 : Int)))
                                                              (ifK (n12 == (5 : Int)) (ifK (s8 == []) (ifK (!b9) (R (AV.bool ((↑(List.length xs11) : Int) == (0 : Int))) []) (R (AV.bool false) [])) (R (AV.bool false) []))
                                                                (R (AV.bool false) []))
                                                              (ifK (decide (key2 > (15 : Int)))
                                                                (ifK (n12 == (5 : Int)) (ifK (s8 == []) (ifK (!b9) (R (AV.bool ((↑(List.length xs11) : Int) == (0 : Int))) []) (R (AV.bool false) [])) (R (AV.bool false) []))
                                                                  (R (AV.bool false) []))
                                                                (∃ b55 xs56,
                                                                  Good PG nG G0 f_greatsealref_ValuesOf [AV.agg [AV.sl (2 : Nat) nlb0_0 none b0_0]] [] (AV.mp b55 xs56) [] ∧
                                                                    ∃ s57 b58,
                                                                      mlookD Go.IntKind.i64 key2 (AV.str []) xs56 = some (AV.str s57, b58) ∧
                                                                        ifK (n12 == (0 : Int))
                                                                          (ifK (s8 == s57)
                                                                            (ifK (b9 == b58)
                                                                              (∃ b59 xs60,
                                                                                Good PG nG G0 f_greatsealref_MapPath [AV.mp b55 xs56, AV.int Go.IntKind.i64 key2] [] (AV.sl (1 : Nat) b59 none xs60) [] ∧
                                                                                  ∃ b61, Good PG nG G0 f_slices_Equal_string [AV.sl (1 : Nat) b10 none xs11, AV.sl (1 : Nat) b59 none xs60] [] (AV.bool b61) [] ∧ R (AV.bool b61) [])
                                                                              (R (AV.bool false) []))
                                                                            (R (AV.bool false) []))
                                                                          (R (AV.bool false) [])))))))))))) :
  Hold (runF PG ty nG G0 an_greatseallaw_ShowSays f_greatseallaw_ShowSays [AV.agg [AV.sl (2 : Nat) nlb0_0 none b0_0], AV.int Go.IntKind.i64 i1, AV.int Go.IntKind.i64 key2] [] R) := kshow h (by kernel_rfl)

theorem greatseallaw_ShowTrue_run (nlb0_0 : Bool) (b0_0 : List (List AV)) (i1 : Int) (key2 : Int) (G0 : Nat → Option Go.Obj) (R : AV → List (Option Blk) → Prop) (h :
  ∃ n0 s1 s2 n3,
  Good PG nG G0 f_book_Head [AV.agg [AV.sl (2 : Nat) nlb0_0 none b0_0]] [] (AV.tup [AV.agg [AV.int Go.IntKind.i64 n0, AV.str s1, AV.str s2], AV.int Go.IntKind.i64 n3]) [] ∧
    ∃ b4,
      Good PG nG G0 f_greatseallaw_shown [] [] (AV.bool b4) [] ∧
        ifK (!b4) (∃ b5, Good PG nG G0 f_greatseallaw_shown [] [] (AV.bool b5) [] ∧ R (AV.bool b5) [])
          (ifK (n3 != (0 : Int)) (∃ b6, Good PG nG G0 f_greatseallaw_shown [] [] (AV.bool b6) [] ∧ R (AV.bool b6) [])
            (∃ n7,
              Good PG nG G0 f_greatseallaw_at [AV.int Go.IntKind.i64 key2, AV.int Go.IntKind.i64 (16 : Int)] [] (AV.int Go.IntKind.i64 n7) [] ∧
                ∃ s8 b9 b10 xs11 n12,
                  Good PG nG G0 f_show_Value [AV.agg [AV.sl (2 : Nat) nlb0_0 none b0_0], AV.int Go.IntKind.i64 n7] [] (AV.tup [AV.str s8, AV.bool b9, AV.sl (1 : Nat) b10 none xs11, AV.int Go.IntKind.i64 n12]) [] ∧
                    ifK (n12 != (0 : Int)) (R (AV.bool false) [])
                      (∃ n13,
                        Good PG nG G0 f_trie_Shows [AV.str s2, AV.int Go.IntKind.i64 n7, AV.str s8, AV.bool b9, AV.sl (1 : Nat) b10 none xs11] [] (AV.int Go.IntKind.i64 n13) [] ∧
                          ifK (n13 != (0 : Int)) (R (AV.bool false) [])
                            (ifK ((↑(List.length b0_0) : Int) == (0 : Int)) (R (AV.bool true) [])
                              (∃ n14,
                                Good PG nG G0 f_greatseallaw_at [AV.int Go.IntKind.i64 i1, AV.int Go.IntKind.i64 (↑(List.length b0_0) : Int)] [] (AV.int Go.IntKind.i64 n14) [] ∧
                                  ∃ n15 s16 b17 xs18 n19,
                                    Good PG nG G0 f_show_Entry [AV.agg [AV.sl (2 : Nat) nlb0_0 none b0_0], AV.int Go.IntKind.i64 n14] []
                                        (AV.tup [AV.agg [AV.int Go.IntKind.i64 n15, AV.str s16], AV.sl (2 : Nat) b17 none xs18, AV.int Go.IntKind.i64 n19]) [] ∧
                                      ifK (n19 == (0 : Int))
                                        (∃ s20,
                                          Good PG nG G0 f_book_Text [AV.agg [AV.int Go.IntKind.i64 n15, AV.str s16]] [] (AV.str s20) [] ∧
                                            ∃ n21,
                                              Good PG nG G0 f_path_Shows [AV.str s1, AV.int Go.IntKind.i64 n0, AV.int Go.IntKind.i64 n14, AV.str s20, AV.sl (2 : Nat) b17 none xs18] [] (AV.int Go.IntKind.i64 n21) [] ∧
                                                ifK (n21 == (0 : Int))
                                                  ((0 : Int) ≤ n14 ∧
                                                    ∃ n22 s23, b0_0[Int.toNat n14]? = some [AV.int Go.IntKind.i64 n22, AV.str s23] ∧ R (AV.bool (eqAll [AV.int Go.IntKind.i64 n15, AV.str s16] [AV.int Go.IntKind.i64 n22, AV.str s23])) [])
                                                  (R (AV.bool false) []))
                                        (R (AV.bool false) []))))))) :
  Hold (runF PG ty nG G0 an_greatseallaw_ShowTrue f_greatseallaw_ShowTrue [AV.agg [AV.sl (2 : Nat) nlb0_0 none b0_0], AV.int Go.IntKind.i64 i1, AV.int Go.IntKind.i64 key2] [] R) := kshow h (by kernel_rfl)

theorem greatseallaw_MeetSays_run (a0_0 : Int) (a0_1 : List UInt8) (a0_2 : List UInt8) (b1_0 : Int) (b1_1 : List UInt8) (b1_2 : List UInt8) (nll2 : Bool) (l2 : List (List AV)) (G0 : Nat → Option Go.Obj) (R : AV → List (Option Blk) → Prop) (h :
  ∃ b0,
  Good PG nG G0 f_greatseallaw_together [] [] (AV.bool b0) [] ∧
    ifK b0
      (∃ n1,
        Good PG nG G0 f_meet_Same [AV.agg [AV.int Go.IntKind.i64 a0_0, AV.str a0_1, AV.str a0_2], AV.agg [AV.int Go.IntKind.i64 b1_0, AV.str b1_1, AV.str b1_2], AV.sl (1 : Nat) nll2 none l2] [] (AV.int Go.IntKind.i64 n1) [] ∧
          ∃ n2,
            Good PG nG G0 f_greatsealref_Meets [AV.agg [AV.int Go.IntKind.i64 a0_0, AV.str a0_1, AV.str a0_2], AV.agg [AV.int Go.IntKind.i64 b1_0, AV.str b1_1, AV.str b1_2], AV.sl (1 : Nat) nll2 none l2] [] (AV.int Go.IntKind.i64 n2) [] ∧
              R (AV.bool (n1 == n2)) [])
      (R (AV.bool false) [])) :
  Hold (runF PG ty nG G0 an_greatseallaw_MeetSays f_greatseallaw_MeetSays [AV.agg [AV.int Go.IntKind.i64 a0_0, AV.str a0_1, AV.str a0_2], AV.agg [AV.int Go.IntKind.i64 b1_0, AV.str b1_1, AV.str b1_2], AV.sl (1 : Nat) nll2 none l2] [] R) := kshow h (by kernel_rfl)

theorem greatseallaw_MeetTrue_run (nlb0_0 : Bool) (b0_0 : List (List AV)) (nlo1_0 : Bool) (o1_0 : List (List AV)) (nll2 : Bool) (l2 : List (List AV)) (n3 : Int) (G0 : Nat → Option Go.Obj) (R : AV → List (Option Blk) → Prop) (h :
  ∃ n0 s1 s2 n3_1,
  Good PG nG G0 f_book_Head [AV.agg [AV.sl (2 : Nat) nlb0_0 none b0_0]] [] (AV.tup [AV.agg [AV.int Go.IntKind.i64 n0, AV.str s1, AV.str s2], AV.int Go.IntKind.i64 n3_1]) [] ∧
    ∃ n4 s5 s6 n7,
      Good PG nG G0 f_book_Head [AV.agg [AV.sl (2 : Nat) nlo1_0 none o1_0]] [] (AV.tup [AV.agg [AV.int Go.IntKind.i64 n4, AV.str s5, AV.str s6], AV.int Go.IntKind.i64 n7]) [] ∧
        ∃ b8,
          Good PG nG G0 f_greatseallaw_together [] [] (AV.bool b8) [] ∧
            ifK (!b8) (∃ b9, Good PG nG G0 f_greatseallaw_together [] [] (AV.bool b9) [] ∧ R (AV.bool b9) [])
              (ifK (n3_1 != (0 : Int)) (∃ b10, Good PG nG G0 f_greatseallaw_together [] [] (AV.bool b10) [] ∧ R (AV.bool b10) [])
                (ifK (n7 != (0 : Int)) (∃ b11, Good PG nG G0 f_greatseallaw_together [] [] (AV.bool b11) [] ∧ R (AV.bool b11) [])
                  ((0 : Int) ≤ (0 : Int) ∧
                    ((0 : Int) ≤ if (↑(List.length o1_0) : Int) < (↑(List.length b0_0) : Int) then (↑(List.length o1_0) : Int) else (↑(List.length b0_0) : Int)) ∧
                      (if (↑(List.length o1_0) : Int) < (↑(List.length b0_0) : Int) then (↑(List.length o1_0) : Int) else (↑(List.length b0_0) : Int)) ≤ (↑(List.length b0_0) : Int) ∧
                        (0 : Int) ≤ (0 : Int) ∧
                          ((0 : Int) ≤ if (↑(List.length o1_0) : Int) < (↑(List.length b0_0) : Int) then (↑(List.length o1_0) : Int) else (↑(List.length b0_0) : Int)) ∧
                            (if (↑(List.length o1_0) : Int) < (↑(List.length b0_0) : Int) then (↑(List.length o1_0) : Int) else (↑(List.length b0_0) : Int)) ≤ (↑(List.length o1_0) : Int) ∧
                              ∃ b12,
                                Good PG nG G0 f_slices_Equal_Entry
                                    [AV.sl (2 : Nat) nlb0_0 none
                                        (List.drop (0 : Nat) (List.take (Int.toNat (if (↑(List.length o1_0) : Int) < (↑(List.length b0_0) : Int) then (↑(List.length o1_0) : Int) else (↑(List.length b0_0) : Int))) b0_0)),
                                      AV.sl (2 : Nat) nlo1_0 none
                                        (List.drop (0 : Nat) (List.take (Int.toNat (if (↑(List.length o1_0) : Int) < (↑(List.length b0_0) : Int) then (↑(List.length o1_0) : Int) else (↑(List.length b0_0) : Int))) o1_0))]
                                    [] (AV.bool b12) [] ∧
                                  ∃ n13,
                                    Good PG nG G0 f_meet_Same [AV.agg [AV.int Go.IntKind.i64 n0, AV.str s1, AV.str s2], AV.agg [AV.int Go.IntKind.i64 n4, AV.str s5, AV.str s6], AV.sl (1 : Nat) nll2 none l2] []
                                        (AV.int Go.IntKind.i64 n13) [] ∧
                                      ifK (n13 == (0 : Int))
                                        (ifK (!b12) (R (AV.bool false) [])
                                          (ifK ((↑(List.length b0_0) : Int) != (↑(List.length o1_0) : Int))
                                            (∃ n14,
                                              Good PG nG G0 f_meet_Same [AV.agg [AV.int Go.IntKind.i64 n4, AV.str s5, AV.str s6], AV.agg [AV.int Go.IntKind.i64 n0, AV.str s1, AV.str s2], AV.sl (1 : Nat) nll2 none l2] []
                                                  (AV.int Go.IntKind.i64 n14) [] ∧
                                                ifK (n13 != n14) (R (AV.bool false) [])
                                                  (ifK ((↑(List.length b0_0) : Int) == (0 : Int)) (R (AV.bool true) [])
                                                    (∃ n15,
                                                      Good PG nG G0 f_greatseallaw_at [AV.int Go.IntKind.i64 n3, AV.int Go.IntKind.i64 (↑(List.length b0_0) : Int)] [] (AV.int Go.IntKind.i64 n15) [] ∧
                                                        (0 : Int) ≤ (0 : Int) ∧
                                                          (0 : Int) ≤ Go.IntKind.wrap Go.IntKind.i64 ((1 : Int) + n15) ∧
                                                            Go.IntKind.wrap Go.IntKind.i64 ((1 : Int) + n15) ≤ (↑(List.length b0_0) : Int) ∧
                                                              ∃ n16 s17 s18 n19,
                                                                Good PG nG G0 f_book_Head [AV.agg [AV.sl (2 : Nat) nlb0_0 none (List.drop (0 : Nat) (List.take (Int.toNat (Go.IntKind.wrap Go.IntKind.i64 ((1 : Int) + n15))) b0_0))]] []
                                                                    (AV.tup [AV.agg [AV.int Go.IntKind.i64 n16, AV.str s17, AV.str s18], AV.int Go.IntKind.i64 n19]) [] ∧
                                                                  ∃ b20 xs21 n22,
                                                                    Good PG nG G0 f_show_Growth [AV.agg [AV.sl (2 : Nat) nlb0_0 none b0_0], AV.int Go.IntKind.i64 (Go.IntKind.wrap Go.IntKind.i64 ((1 : Int) + n15))] []
                                                                        (AV.tup [AV.sl (1 : Nat) b20 none xs21, AV.int Go.IntKind.i64 n22]) [] ∧
                                                                      ifK (n19 == (0 : Int))
                                                                        (ifK (n22 == (0 : Int))
                                                                          (∃ n23,
                                                                            Good PG nG G0 f_meet_Same
                                                                                [AV.agg [AV.int Go.IntKind.i64 n16, AV.str s17, AV.str s18], AV.agg [AV.int Go.IntKind.i64 n0, AV.str s1, AV.str s2], AV.sl (1 : Nat) b20 none xs21] []
                                                                                (AV.int Go.IntKind.i64 n23) [] ∧
                                                                              ifK (n23 == (0 : Int))
                                                                                (∃ n24,
                                                                                  Good PG nG G0 f_meet_Same
                                                                                      [AV.agg [AV.int Go.IntKind.i64 n0, AV.str s1, AV.str s2], AV.agg [AV.int Go.IntKind.i64 n16, AV.str s17, AV.str s18], AV.sl (1 : Nat) b20 none xs21] []
                                                                                      (AV.int Go.IntKind.i64 n24) [] ∧
                                                                                    R (AV.bool (n24 == (0 : Int))) [])
                                                                                (R (AV.bool false) []))
                                                                          (R (AV.bool false) []))
                                                                        (R (AV.bool false) []))))
                                            (ifK ((↑(List.length b0_0) : Int) == (0 : Int)) (R (AV.bool true) [])
                                              (∃ n25,
                                                Good PG nG G0 f_greatseallaw_at [AV.int Go.IntKind.i64 n3, AV.int Go.IntKind.i64 (↑(List.length b0_0) : Int)] [] (AV.int Go.IntKind.i64 n25) [] ∧
                                                  (0 : Int) ≤ (0 : Int) ∧
                                                    (0 : Int) ≤ Go.IntKind.wrap Go.IntKind.i64 ((1 : Int) + n25) ∧
                                                      Go.IntKind.wrap Go.IntKind.i64 ((1 : Int) + n25) ≤ (↑(List.length b0_0) : Int) ∧
                                                        ∃ n26 s27 s28 n29,
                                                          Good PG nG G0 f_book_Head [AV.agg [AV.sl (2 : Nat) nlb0_0 none (List.drop (0 : Nat) (List.take (Int.toNat (Go.IntKind.wrap Go.IntKind.i64 ((1 : Int) + n25))) b0_0))]] []
                                                              (AV.tup [AV.agg [AV.int Go.IntKind.i64 n26, AV.str s27, AV.str s28], AV.int Go.IntKind.i64 n29]) [] ∧
                                                            ∃ b30 xs31 n32,
                                                              Good PG nG G0 f_show_Growth [AV.agg [AV.sl (2 : Nat) nlb0_0 none b0_0], AV.int Go.IntKind.i64 (Go.IntKind.wrap Go.IntKind.i64 ((1 : Int) + n25))] []
                                                                  (AV.tup [AV.sl (1 : Nat) b30 none xs31, AV.int Go.IntKind.i64 n32]) [] ∧
                                                                ifK (n29 == (0 : Int))
                                                                  (ifK (n32 == (0 : Int))
                                                                    (∃ n33,
                                                                      Good PG nG G0 f_meet_Same
                                                                          [AV.agg [AV.int Go.IntKind.i64 n26, AV.str s27, AV.str s28], AV.agg [AV.int Go.IntKind.i64 n0, AV.str s1, AV.str s2], AV.sl (1 : Nat) b30 none xs31] []
                                                                          (AV.int Go.IntKind.i64 n33) [] ∧
                                                                        ifK (n33 == (0 : Int))
                                                                          (∃ n34,
                                                                            Good PG nG G0 f_meet_Same
                                                                                [AV.agg [AV.int Go.IntKind.i64 n0, AV.str s1, AV.str s2], AV.agg [AV.int Go.IntKind.i64 n26, AV.str s27, AV.str s28], AV.sl (1 : Nat) b30 none xs31] []
                                                                                (AV.int Go.IntKind.i64 n34) [] ∧
                                                                              R (AV.bool (n34 == (0 : Int))) [])
                                                                          (R (AV.bool false) []))
                                                                    (R (AV.bool false) []))
                                                                  (R (AV.bool false) [])))))
                                        (ifK ((↑(List.length b0_0) : Int) != (↑(List.length o1_0) : Int))
                                          (∃ n35,
                                            Good PG nG G0 f_meet_Same [AV.agg [AV.int Go.IntKind.i64 n4, AV.str s5, AV.str s6], AV.agg [AV.int Go.IntKind.i64 n0, AV.str s1, AV.str s2], AV.sl (1 : Nat) nll2 none l2] []
                                                (AV.int Go.IntKind.i64 n35) [] ∧
                                              ifK (n13 != n35) (R (AV.bool false) [])
                                                (ifK ((↑(List.length b0_0) : Int) == (0 : Int)) (R (AV.bool true) [])
                                                  (∃ n36,
                                                    Good PG nG G0 f_greatseallaw_at [AV.int Go.IntKind.i64 n3, AV.int Go.IntKind.i64 (↑(List.length b0_0) : Int)] [] (AV.int Go.IntKind.i64 n36) [] ∧
                                                      (0 : Int) ≤ (0 : Int) ∧
                                                        (0 : Int) ≤ Go.IntKind.wrap Go.IntKind.i64 ((1 : Int) + n36) ∧
                                                          Go.IntKind.wrap Go.IntKind.i64 ((1 : Int) + n36) ≤ (↑(List.length b0_0) : Int) ∧
                                                            ∃ n37 s38 s39 n40,
                                                              Good PG nG G0 f_book_Head [AV.agg [AV.sl (2 : Nat) nlb0_0 none (List.drop (0 : Nat) (List.take (Int.toNat (Go.IntKind.wrap Go.IntKind.i64 ((1 : Int) + n36))) b0_0))]] []
                                                                  (AV.tup [AV.agg [AV.int Go.IntKind.i64 n37, AV.str s38, AV.str s39], AV.int Go.IntKind.i64 n40]) [] ∧
                                                                ∃ b41 xs42 n43,
                                                                  Good PG nG G0 f_show_Growth [AV.agg [AV.sl (2 : Nat) nlb0_0 none b0_0], AV.int Go.IntKind.i64 (Go.IntKind.wrap Go.IntKind.i64 ((1 : Int) + n36))] []
                                                                      (AV.tup [AV.sl (1 : Nat) b41 none xs42, AV.int Go.IntKind.i64 n43]) [] ∧
                                                                    ifK (n40 == (0 : Int))
                                                                      (ifK (n43 == (0 : Int))
                                                                        (∃ n44,
                                                                          Good PG nG G0 f_meet_Same
                                                                              [AV.agg [AV.int Go.IntKind.i64 n37, AV.str s38, AV.str s39], AV.agg [AV.int Go.IntKind.i64 n0, AV.str s1, AV.str s2], AV.sl (1 : Nat) b41 none xs42] []
                                                                              (AV.int Go.IntKind.i64 n44) [] ∧
                                                                            ifK (n44 == (0 : Int))
                                                                              (∃ n45,
                                                                                Good PG nG G0 f_meet_Same
                                                                                    [AV.agg [AV.int Go.IntKind.i64 n0, AV.str s1, AV.str s2], AV.agg [AV.int Go.IntKind.i64 n37, AV.str s38, AV.str s39], AV.sl (1 : Nat) b41 none xs42] []
                                                                                    (AV.int Go.IntKind.i64 n45) [] ∧
                                                                                  R (AV.bool (n45 == (0 : Int))) [])
                                                                              (R (AV.bool false) []))
                                                                        (R (AV.bool false) []))
                                                                      (R (AV.bool false) []))))
                                          (ifK ((↑(List.length b0_0) : Int) == (0 : Int)) (R (AV.bool true) [])
                                            (∃ n46,
                                              Good PG nG G0 f_greatseallaw_at [AV.int Go.IntKind.i64 n3, AV.int Go.IntKind.i64 (↑(List.length b0_0) : Int)] [] (AV.int Go.IntKind.i64 n46) [] ∧
                                                (0 : Int) ≤ (0 : Int) ∧
                                                  (0 : Int) ≤ Go.IntKind.wrap Go.IntKind.i64 ((1 : Int) + n46) ∧
                                                    Go.IntKind.wrap Go.IntKind.i64 ((1 : Int) + n46) ≤ (↑(List.length b0_0) : Int) ∧
                                                      ∃ n47 s48 s49 n50,
                                                        Good PG nG G0 f_book_Head [AV.agg [AV.sl (2 : Nat) nlb0_0 none (List.drop (0 : Nat) (List.take (Int.toNat (Go.IntKind.wrap Go.IntKind.i64 ((1 : Int) + n46))) b0_0))]] []
                                                            (AV.tup [AV.agg [AV.int Go.IntKind.i64 n47, AV.str s48, AV.str s49], AV.int Go.IntKind.i64 n50]) [] ∧
                                                          ∃ b51 xs52 n53,
                                                            Good PG nG G0 f_show_Growth [AV.agg [AV.sl (2 : Nat) nlb0_0 none b0_0], AV.int Go.IntKind.i64 (Go.IntKind.wrap Go.IntKind.i64 ((1 : Int) + n46))] []
                                                                (AV.tup [AV.sl (1 : Nat) b51 none xs52, AV.int Go.IntKind.i64 n53]) [] ∧
                                                              ifK (n50 == (0 : Int))
                                                                (ifK (n53 == (0 : Int))
                                                                  (∃ n54,
                                                                    Good PG nG G0 f_meet_Same
                                                                        [AV.agg [AV.int Go.IntKind.i64 n47, AV.str s48, AV.str s49], AV.agg [AV.int Go.IntKind.i64 n0, AV.str s1, AV.str s2], AV.sl (1 : Nat) b51 none xs52] []
                                                                        (AV.int Go.IntKind.i64 n54) [] ∧
                                                                      ifK (n54 == (0 : Int))
                                                                        (∃ n55,
                                                                          Good PG nG G0 f_meet_Same
                                                                              [AV.agg [AV.int Go.IntKind.i64 n0, AV.str s1, AV.str s2], AV.agg [AV.int Go.IntKind.i64 n47, AV.str s48, AV.str s49], AV.sl (1 : Nat) b51 none xs52] []
                                                                              (AV.int Go.IntKind.i64 n55) [] ∧
                                                                            R (AV.bool (n55 == (0 : Int))) [])
                                                                        (R (AV.bool false) []))
                                                                  (R (AV.bool false) []))
                                                                (R (AV.bool false) [])))))))) :
  Hold (runF PG ty nG G0 an_greatseallaw_MeetTrue f_greatseallaw_MeetTrue [AV.agg [AV.sl (2 : Nat) nlb0_0 none b0_0], AV.agg [AV.sl (2 : Nat) nlo1_0 none o1_0], AV.sl (1 : Nat) nll2 none l2, AV.int Go.IntKind.i64 n3] [] R) := kshow h (by kernel_rfl)

end Go.Ab

namespace Go.Ab
open Go.Proofs Go.Gs
variable {G0 : Nat → Option Obj}

def showE (b : Bk) (i : Int) : (En × List (Bool × By)) × Int :=
  if checkB b ≠ 0 then (((0, []), []), checkB b) else if (pathR (textsOf b) i).2 ≠ 0 then (((0, []), []), (pathR (textsOf b) i).2) else ((b.getD i.toNat (0, []), (pathR (textsOf b) i).1), 0)
def showG (b : Bk) (m : Int) : List By × Int := if checkB b ≠ 0 then ([], checkB b) else growR (textsOf b) m
def showV (b : Bk) (k : Int) : (By × Bool × List By) × Int :=
  if checkB b ≠ 0 then (([], false, []), checkB b) else if (pathM (valsOf b) k).2 ≠ 0 then (([], false, []), (pathM (valsOf b) k).2) else (((mGet (valsOf b) k).getD [], (mGet (valsOf b) k).isSome, (pathM (valsOf b) k).1), 0)

theorem pathR_zero {l : List By} {i : Int} (h : (pathR l i).2 = 0) : 0 ≤ i ∧ i < l.length ∧ (rootOf l).2 = 0 := by
  unfold pathR at h
  split at h
  · rename_i h1; exact absurd h h1
  · rename_i h1
    split at h
    · cases h
    · exact ⟨by omega, by omega, by simpa using h1⟩

theorem good_showEntry (hG : GlobOk G0) (b : Bk) (nl : Bool) (i : Int) : Good PG nG G0 f_show_Entry [.agg [.sl 2 nl none (b.map E2)], .int .i64 i] []
    (.tup [.agg [.int .i64 (showE b i).1.1.1, .str (showE b i).1.1.2], .sl 2 (showE b i).1.2.isEmpty none ((showE b i).1.2.map S2), .int .i64 (showE b i).2]) [] := by
  refine good_of_run prOk (by kernel_rfl) (show_Entry_run nl _ i G0 _ ⟨_, good_bookCheck b nl, ?_⟩)
  unfold showE
  refine ifK_ne0 (fun h => ?_) fun h => ?_
  · rw [if_pos h]; exact ⟨rfl, rfl⟩
  · rw [if_neg (by simpa using h)]
    have hb := (checkB_ok h).1
    refine ⟨_, _, good_Texts hG b nl (BkR_of_check h) (by omega), _, _, _, good_pathOf hG _ _ _, ifK_ne0 (fun h2 => ?_) fun h2 => ?_⟩
    · rw [if_pos h2]; exact ⟨rfl, rfl⟩
    · rw [if_neg (by simpa using h2)]
      obtain ⟨h3, h4, _⟩ := pathR_zero h2
      rw [texts_len] at h4
      have hi : i.toNat < b.length := by omega
      refine ⟨h3, _, _, getX hi, ?_⟩
      rw [List.getD_eq_getElem?_getD, List.getElem?_eq_getElem hi]
      exact ⟨rfl, rfl⟩

theorem good_showGrowth (hG : GlobOk G0) (b : Bk) (nl : Bool) (m : Int) : Good PG nG G0 f_show_Growth [.agg [.sl 2 nl none (b.map E2)], .int .i64 m] []
    (.tup [.sl 1 (showG b m).1.isEmpty none ((showG b m).1.map S1), .int .i64 (showG b m).2]) [] := by
  refine good_of_run prOk (by kernel_rfl) (show_Growth_run nl _ m G0 _ ⟨_, good_bookCheck b nl, ?_⟩)
  unfold showG
  refine ifK_ne0 (fun h => ?_) fun h => ?_
  · rw [if_pos h]; exact ⟨rfl, rfl⟩
  · rw [if_neg (by simpa using h)]
    have hb := (checkB_ok h).1
    exact ⟨_, _, good_Texts hG b nl (BkR_of_check h) (by omega), _, _, _, good_growOf hG _ _ _, rfl, rfl⟩

theorem good_showValue (hG : GlobOk G0) (b : Bk) (nl : Bool) (k : Int) : Good PG nG G0 f_show_Value [.agg [.sl 2 nl none (b.map E2)], .int .i64 k] []
    (.tup [.str (showV b k).1.1, .bool (showV b k).1.2.1, .sl 1 (showV b k).1.2.2.isEmpty none ((showV b k).1.2.2.map S1), .int .i64 (showV b k).2]) [] := by
  unfold showV
  by_cases h : checkB b = 0
  · refine good_of_run prOk (by kernel_rfl) (show_Value_run nl _ k G0 _ ⟨_, _, _, good_Values b nl h, ?_⟩)
    rw [if_neg (by simpa using h)]
    simp only [bne_self_eq_false, ifF]
    refine ⟨_, _, _, good_triePath hG _ _ (valsOf_nodup b) k, ifK_ne0 (fun h2 => ?_) fun h2 => ?_⟩
    · rw [if_pos h2]; exact ⟨rfl, trivial⟩
    · rw [if_neg (by simpa using h2)]
      exact ⟨_, _, mlookD_KV _ _, rfl, trivial⟩
  · refine good_of_run prOk (by kernel_rfl) (show_Value_run nl _ k G0 _ ⟨_, _, _, good_Values_bad b nl h, ?_⟩)
    rw [if_pos h]
    exact ifK_ne0 (fun _ => ⟨rfl, rfl⟩) fun h2 => absurd h2 h

theorem good_shown (hG : GlobOk G0) : Good PG nG G0 f_greatseallaw_shown [] [] (.bool true) [] := by
  have ge := good_entries (G0 := G0)
  have g1 := good_showEntry (G0 := G0) hG bk3 false 1
  have g2 := good_showGrowth (G0 := G0) hG bk3 false 2
  have g3 := good_showValue (G0 := G0) hG bk3 false 5
  have g4 := good_showValue (G0 := G0) hG bk3 false 6
  have g5 := good_showEntry (G0 := G0) hG bk3 false 3
  have e1 : (showE bk3 1).2 = 0 := by decide +kernel
  have e1b : (showE bk3 1).1.1 = (9, [121]) := by decide +kernel
  have e1c : ((((showE bk3 1).1.2.map S2).length : Nat) : Int) = 2 := by rw [List.length_map]; decide +kernel
  have e2 : showG bk3 2 = ([[76, 53, 32, 122]], 0) := by decide +kernel
  have e3 : (showV bk3 5).2 = 0 := by decide +kernel
  have e3b : (showV bk3 5).1.1 = [122] := by decide +kernel
  have e3c : (showV bk3 5).1.2.1 = true := by decide +kernel
  have e3d : ((((showV bk3 5).1.2.2.map S1).length : Nat) : Int) = 4 := by rw [List.length_map]; decide +kernel
  have e4 : (showV bk3 6).2 = 0 := by decide +kernel
  have e4b : (showV bk3 6).1.2.1 = false := by decide +kernel
  have e5 : (showE bk3 3).2 = 5 := by decide +kernel
  rw [e1, e1b] at g1
  rw [e2] at g2
  rw [e3, e3b, e3c] at g3
  rw [e4, e4b] at g4
  rw [e5] at g5
  have g6 := good_Equal (G0 := G0) [[76, 53, 32, 122]] [[76, 53, 32, 122]] false false (by decide)
  refine good_of_run prOk (by kernel_rfl) (greatseallaw_shown_run G0 _ ⟨_, _, ge, _, _, _, _, _, g1, _, _, ge, _, _, _, g2, _, _, ge, _, _, _, _, _, g3, _, _, ge, _, _, _, _, _, g4, _, _, ge, _, _, _, _, _, g5, ?_⟩)
  rw [e1c, e3d]
  exact ⟨_, g6, rfl, rfl⟩

theorem book_rooted {b : Bk} (h : checkB b = 0) : (rootOf (textsOf b)).2 = 0 ∧ rootOf (textsOf b) = tRoot (textsOf b) ∧ (textsOf b).length ≤ 24 := by
  have hb := (checkB_ok h).1
  have e1 : rootOf (textsOf b) = tRoot (textsOf b) := by rw [rootOf, if_neg (by rw [texts_len]; omega)]
  exact ⟨by rw [e1]; exact (texts_good h).1, e1, by rw [texts_len]; exact hb⟩

theorem showV_ok {b : Bk} (h : checkB b = 0) {k : Nat} (hk : k < 16) : showV b k = (((mGet (valsOf b) k).getD [], (mGet (valsOf b) k).isSome, triePath (fM (valsOf b)) k 4), 0) := by
  unfold showV
  rw [if_neg (by simpa using h), pathM_ok (valsOf_check h) hk, if_neg (by simp)]

theorem showE_ok {b : Bk} (h : checkB b = 0) {i : Nat} (hi : i < b.length) : showE b i = ((b[i], pathOf (textsOf b) i), 0) := by
  unfold showE
  rw [if_neg (by simpa using h), pathR_ok (book_rooted h).1 (by rw [texts_len]; exact hi), if_neg (by simp), Int.toNat_natCast, List.getD_eq_getElem?_getD, List.getElem?_eq_getElem hi]
  rfl

theorem book_pathShows {b : Bk} (h : checkB b = 0) {i : Nat} (hi : i < b.length) (text : By) (steps : List (Bool × By)) :
    pathShows (tRoot (textsOf b)).1 b.length i text steps = 0 ↔ text = textE b[i] ∧ steps = pathOf (textsOf b) i := by
  obtain ⟨r1, r2, r3⟩ := book_rooted h
  have iff := pathShows_iff r3 (by rw [← r2]; exact r1) (i := i) (by rw [texts_len]; exact hi) text steps
  have e : (textsOf b)[i]'(by rw [texts_len]; exact hi) = textE b[i] := by simp [textsOf]
  rw [e, texts_len] at iff
  exact iff

theorem textsOf_take (b : Bk) (m : Nat) : (textsOf b).take m = textsOf (b.take m) := by rw [textsOf, textsOf, List.map_take]

theorem book_growShows {b : Bk} (h : checkB b = 0) {m : Nat} (h1 : 1 ≤ m) (hm : m ≤ b.length) (old : By) (seals : List By) :
    growShows old m (tRoot (textsOf b)).1 b.length seals = 0 ↔ old = (tRoot (textsOf (b.take m))).1 ∧ seals = growOf (textsOf b) m true := by
  obtain ⟨r1, r2, r3⟩ := book_rooted h
  have iff := growShows_iff r3 (by rw [← r2]; exact r1) h1 (by rw [texts_len]; exact hm) old seals
  rw [texts_len, textsOf_take] at iff
  exact iff

theorem good_ShowTrue (hG : GlobOk G0) (b : Bk) (nl : Bool) (i : Int) (hi : -9223372036854775808 ≤ i ∧ i ≤ 9223372036854775807) (key : Int) (hk : -9223372036854775808 ≤ key ∧ key ≤ 9223372036854775807) :
    Good PG nG G0 f_greatseallaw_ShowTrue [.agg [.sl 2 nl none (b.map E2)], .int .i64 i, .int .i64 key] [] (.bool true) [] := by
  suffices main : ∀ R : AV → List (Option Blk) → Prop, R (.bool true) [] → Hold (runF PG ty nG G0 an_greatseallaw_ShowTrue f_greatseallaw_ShowTrue [.agg [.sl 2 nl none (b.map E2)], .int .i64 i, .int .i64 key] [] R) from
    good_of_run prOk (by kernel_rfl) (main _ ⟨rfl, rfl⟩)
  intro R hR
  have gh := good_Head (G0 := G0) hG b nl
  rw [show (headOf b).2 = checkB b from headOf_code b] at gh
  have sh := good_shown (G0 := G0) hG
  refine greatseallaw_ShowTrue_run nl _ i key G0 R ⟨_, _, _, _, gh, _, sh, ?_⟩
  rw [Bool.not_true, ifF]
  refine ifK_ne0 (fun _ => ⟨_, sh, hR⟩) fun hc => ?_
  have hb := (checkB_ok hc).1
  have hka := atN_lt key (n := 16) (by omega)
  refine ⟨_, good_at' key 16 (by omega) (by omega) hk, ?_⟩
  generalize atN key 16 = k at hka
  have gv := good_showValue (G0 := G0) hG b nl k
  rw [showV_ok hc hka] at gv
  refine ⟨_, _, _, _, _, gv, ?_⟩
  simp only [bne_self_eq_false, ifF]
  have eh := headOf_ok hc
  have gt := good_trieShows (G0 := G0) hG (tTrie (fM (valsOf b)) 4 0).1 k ((mGet (valsOf b) k).getD []) (mGet (valsOf b) k).isSome (triePath (fM (valsOf b)) k 4).isEmpty (triePath (fM (valsOf b)) k 4)
  have z : trieShows (tTrie (fM (valsOf b)) 4 0).1 k ((mGet (valsOf b) k).getD []) (mGet (valsOf b) k).isSome (triePath (fM (valsOf b)) k 4) = 0 := (trieShows_iff (fM_good (valsOf_check hc)) hka _ _ _).2 ⟨rfl, rfl, rfl⟩
  rw [z] at gt
  rw [eh, mapRoot_ok (valsOf_check hc)]
  refine ⟨_, gt, ?_⟩
  simp only [bne_self_eq_false, ifF, List.length_map]
  rw [ifK_iff]
  refine ⟨fun _ => hR, fun h0 => ?_⟩
  have h0 : b.length ≠ 0 := by
    intro e
    rw [e] at h0
    simp at h0
  have hia := atN_lt i (n := b.length) (by omega)
  refine ⟨_, good_atN i b.length (by omega) (by omega) hi, ?_⟩
  generalize atN i b.length = j at hia
  have ge := good_showEntry (G0 := G0) hG b nl j
  rw [showE_ok hc hia] at ge
  refine ⟨_, _, _, _, _, ge, ?_⟩
  simp only [beq_self_eq_true, ifT]
  have gp := good_pathShows (G0 := G0) hG (tRoot (textsOf b)).1 b.length j (textE b[j]) (pathOf (textsOf b) j).isEmpty (pathOf (textsOf b) j)
  rw [(book_pathShows hc hia _ _).2 ⟨rfl, rfl⟩] at gp
  refine ⟨_, good_Text hG _ (BkR_of_check hc _ (List.getElem_mem hia)), _, gp, ?_⟩
  simp only [beq_self_eq_true, ifT]
  refine ⟨by omega, _, _, by rw [Int.toNat_natCast]; exact getX hia, ?_⟩
  rw [eqAll_E2, decide_eq_true rfl]
  exact hR
end Go.Ab

namespace Go.Ab
open Go.Proofs Go.Gs
variable {G0 : Nat → Option Obj}

/-- Two heads, the lesser one first. -/
def meetS (a b : Hd) (l : List By) : Int := if a.n = 0 then (if l = [] then 0 else 7) else if a.n = b.n ∧ a.mp ≠ b.mp then 7 else growShows a.log a.n b.log b.n l
def meetR (a b : Hd) (l : List By) : Int := if checkH a ≠ 0 then checkH a else if checkH b ≠ 0 then checkH b else if b.n < a.n then meetS b a l else meetS a b l

theorem good_Same (hG : GlobOk G0) (a b : Hd) (nl : Bool) (l : List By) (hl : l.length ≤ 1000000000000000000) : Good PG nG G0 f_meet_Same [.agg [.int .i64 a.n, .str a.log, .str a.mp], .agg [.int .i64 b.n, .str b.log, .str b.mp], .sl 1 nl none (l.map S1)] [] (.int .i64 (meetR a b l)) [] := by
  refine good_of_run prOk (by kernel_rfl) (meet_Same_run _ _ _ _ _ _ nl _ G0 _ ⟨_, good_noteCheck a, ?_⟩)
  unfold meetR
  refine ifK_ne0 (fun h => ⟨by rw [if_pos h], rfl⟩) fun h => ?_
  rw [if_neg (by simpa using h)]
  refine ⟨_, good_noteCheck b, ifK_ne0 (fun h2 => ⟨by rw [if_pos h2], rfl⟩) fun h2 => ?_⟩
  rw [if_neg (by simpa using h2)]
  have g1 := good_growShows (G0 := G0) hG b.log b.n a.log a.n nl l hl
  have g2 := good_growShows (G0 := G0) hG a.log a.n b.log b.n nl l hl
  simp only [ifK_iff, decide_eq_true_eq, decide_eq_false_iff_not, beq_iff_eq, beq_eq_false_iff_ne, List.length_map, ne_eq, Bool.not_eq_true', Bool.not_eq_false']
  have hlen : ((l.length : Int) > 0) ↔ l ≠ [] := by
    cases l <;> simp
  unfold meetS
  refine ⟨fun c1 => ⟨fun c2 => ⟨fun c3 => ?_, fun c3 => ⟨fun c4 => ?_, fun c4 => absurd c2 c4⟩⟩, fun c2 => ⟨fun c4 => absurd c4 c2, fun c4 => ⟨fun c5 => ⟨fun c6 => ?_, fun c6 => ?_⟩, fun c5 => ?_⟩⟩⟩,
    fun c1 => ⟨fun c2 => ⟨fun c3 => ?_, fun c3 => ⟨fun c4 => ?_, fun c4 => absurd c2 c4⟩⟩, fun c2 => ⟨fun c4 => absurd c4 c2, fun c4 => ⟨fun c5 => ⟨fun c6 => ?_, fun c6 => ?_⟩, fun c5 => ?_⟩⟩⟩⟩
  · rw [if_pos (by omega), if_pos c2, if_neg (hlen.1 c3)]; exact ⟨rfl, trivial⟩
  · rw [if_pos (by omega), if_pos c2, if_pos (Decidable.not_not.1 fun e => c3 (hlen.2 e))]; exact ⟨rfl, trivial⟩
  · rw [if_pos (by omega), if_neg c2, if_pos ⟨c5, c6⟩]; exact ⟨rfl, trivial⟩
  · rw [if_pos (by omega), if_neg c2, if_neg (by rintro ⟨_, e⟩; exact e c6)]; exact ⟨_, g1, rfl, trivial⟩
  · rw [if_pos (by omega), if_neg c2, if_neg (by rintro ⟨e, _⟩; exact c5 e)]; exact ⟨_, g1, rfl, trivial⟩
  · rw [if_neg (by omega), if_pos c2, if_neg (hlen.1 c3)]; exact ⟨rfl, trivial⟩
  · rw [if_neg (by omega), if_pos c2, if_pos (Decidable.not_not.1 fun e => c3 (hlen.2 e))]; exact ⟨rfl, trivial⟩
  · rw [if_neg (by omega), if_neg c2, if_pos ⟨c5, c6⟩]; exact ⟨rfl, trivial⟩
  · rw [if_neg (by omega), if_neg c2, if_neg (by rintro ⟨_, e⟩; exact e c6)]; exact ⟨_, g2, rfl, trivial⟩
  · rw [if_neg (by omega), if_neg c2, if_neg (by rintro ⟨e, _⟩; exact c5 e)]; exact ⟨_, g2, rfl, trivial⟩

theorem good_Meets (hG : GlobOk G0) (a b : Hd) (ha : a.log.length ≤ 4611686018427387903) (hb : b.log.length ≤ 4611686018427387903) (nl : Bool) (l : List By) (hs : ∀ s ∈ l, s.length ≤ 4611686018427387903) (hl : l.length ≤ 1000000000000000000) : Good PG nG G0 f_greatsealref_Meets [.agg [.int .i64 a.n, .str a.log, .str a.mp], .agg [.int .i64 b.n, .str b.log, .str b.mp], .sl 1 nl none (l.map S1)] [] (.int .i64 (meetR a b l)) [] := by
  refine good_of_run prOk (by kernel_rfl) (greatsealref_Meets_run _ _ _ _ _ _ nl _ G0 _ ⟨_, good_CheckHead a, ?_⟩)
  unfold meetR
  refine ifK_ne0 (fun h => ⟨by rw [if_pos h], rfl⟩) fun h => ?_
  rw [if_neg (by simpa using h)]
  refine ⟨_, good_CheckHead b, ifK_ne0 (fun h2 => ⟨by rw [if_pos h2], rfl⟩) fun h2 => ?_⟩
  rw [if_neg (by simpa using h2)]
  have g1 := good_GrowthShows (G0 := G0) hG b.log hb b.n a.log a.n nl l hs hl
  have g2 := good_GrowthShows (G0 := G0) hG a.log ha a.n b.log b.n nl l hs hl
  simp only [ifK_iff, decide_eq_true_eq, decide_eq_false_iff_not, beq_iff_eq, beq_eq_false_iff_ne, List.length_map, ne_eq, Bool.not_eq_true', Bool.not_eq_false']
  have hlen : ((l.length : Int) > 0) ↔ l ≠ [] := by
    cases l <;> simp
  unfold meetS
  refine ⟨fun c1 => ⟨fun c2 => ⟨fun c3 => ?_, fun c3 => ?_⟩, fun c2 => ⟨fun c5 => ⟨fun c6 => ?_, fun c6 => ?_⟩, fun c5 => ?_⟩⟩,
    fun c1 => ⟨fun c2 => ⟨fun c3 => ?_, fun c3 => ?_⟩, fun c2 => ⟨fun c5 => ⟨fun c6 => ?_, fun c6 => ?_⟩, fun c5 => ?_⟩⟩⟩
  · rw [if_pos c1, if_pos c2, if_neg (hlen.1 c3)]; exact ⟨rfl, trivial⟩
  · rw [if_pos c1, if_pos c2, if_pos (Decidable.not_not.1 fun e => c3 (hlen.2 e))]; exact ⟨rfl, trivial⟩
  · rw [if_pos c1, if_neg c2, if_pos ⟨c5, c6⟩]; exact ⟨rfl, trivial⟩
  · rw [if_pos c1, if_neg c2, if_neg (by rintro ⟨_, e⟩; exact e c6)]; exact ⟨_, g1, rfl, trivial⟩
  · rw [if_pos c1, if_neg c2, if_neg (by rintro ⟨e, _⟩; exact c5 e)]; exact ⟨_, g1, rfl, trivial⟩
  · rw [if_neg c1, if_pos c2, if_neg (hlen.1 c3)]; exact ⟨rfl, trivial⟩
  · rw [if_neg c1, if_pos c2, if_pos (Decidable.not_not.1 fun e => c3 (hlen.2 e))]; exact ⟨rfl, trivial⟩
  · rw [if_neg c1, if_neg c2, if_pos ⟨c5, c6⟩]; exact ⟨rfl, trivial⟩
  · rw [if_neg c1, if_neg c2, if_neg (by rintro ⟨_, e⟩; exact e c6)]; exact ⟨_, g2, rfl, trivial⟩
  · rw [if_neg c1, if_neg c2, if_neg (by rintro ⟨e, _⟩; exact c5 e)]; exact ⟨_, g2, rfl, trivial⟩

theorem good_together (hG : GlobOk G0) : Good PG nG G0 f_greatseallaw_together [] [] (.bool true) [] := by
  have ge := good_entries (G0 := G0)
  have g1 := good_Head (G0 := G0) hG (bk3.take 1) false
  have g2 := good_Head (G0 := G0) hG bk3 false
  have g3 := good_showGrowth (G0 := G0) hG bk3 false 1
  have g4 := good_Head (G0 := G0) hG (bk3.drop 1) false
  have e1 : (headOf (bk3.take 1)).2 = 0 := by decide +kernel
  have e2 : (headOf bk3).2 = 0 := by decide +kernel
  have e3 : (showG bk3 1).2 = 0 := by decide +kernel
  have e4 : (headOf (bk3.drop 1)).2 = 0 := by decide +kernel
  rw [e1] at g1
  rw [e2] at g2
  rw [e3] at g3
  rw [e4] at g4
  have m1 := good_Same (G0 := G0) hG (headOf bk3).1 (headOf (bk3.take 1)).1 (showG bk3 1).1.isEmpty (showG bk3 1).1 (by decide +kernel)
  have m2 := good_Same (G0 := G0) hG (headOf (bk3.take 1)).1 (headOf bk3).1 true [] (by decide)
  have m3 := good_Same (G0 := G0) hG (headOf bk3).1 (headOf bk3).1 true [] (by decide)
  have m4 := good_Same (G0 := G0) hG (headOf (bk3.take 1)).1 (headOf (bk3.drop 1)).1 (showG bk3 1).1.isEmpty (showG bk3 1).1 (by decide +kernel)
  have m5 := good_Same (G0 := G0) hG hd0 (headOf (bk3.drop 1)).1 true [] (by decide)
  rw [show meetR (headOf bk3).1 (headOf (bk3.take 1)).1 (showG bk3 1).1 = 0 by decide +kernel] at m1
  rw [show meetR (headOf (bk3.take 1)).1 (headOf bk3).1 [] = 7 by decide +kernel] at m2
  rw [show meetR (headOf bk3).1 (headOf bk3).1 [] = 0 by decide +kernel] at m3
  rw [show meetR (headOf (bk3.take 1)).1 (headOf (bk3.drop 1)).1 (showG bk3 1).1 = 7 by decide +kernel] at m4
  rw [show meetR hd0 (headOf (bk3.drop 1)).1 [] = 0 by decide +kernel] at m5
  refine good_of_run prOk (by kernel_rfl) (greatseallaw_together_run G0 _ ⟨_, _, ge, by decide, by decide, by decide, _, _, _, _, g1, _, _, ge, _, _, _, _, g2, _, _, ge, _, _, _, g3, _, _, ge, by decide, by decide, by decide, _, _, _, _, g4, ?_⟩)
  exact ⟨_, m1, _, m2, _, m3, _, m4, _, m5, rfl, rfl⟩

theorem good_MeetSays (hG : GlobOk G0) (a b : Hd) (ha : a.log.length ≤ 4611686018427387903) (hb : b.log.length ≤ 4611686018427387903) (nl : Bool) (l : List By) (hs : ∀ s ∈ l, s.length ≤ 4611686018427387903) (hl : l.length ≤ 1000000000000000000) :
    Good PG nG G0 f_greatseallaw_MeetSays [.agg [.int .i64 a.n, .str a.log, .str a.mp], .agg [.int .i64 b.n, .str b.log, .str b.mp], .sl 1 nl none (l.map S1)] [] (.bool true) [] := by
  refine good_of_run prOk (by kernel_rfl) (greatseallaw_MeetSays_run _ _ _ _ _ _ nl _ G0 _ ⟨_, good_together hG, ?_⟩)
  rw [ifT]
  refine ⟨_, good_Same hG a b nl l hl, _, good_Meets hG a b ha hb nl l hs hl, ?_⟩
  rw [beq_self_eq_true]
  exact ⟨rfl, rfl⟩
end Go.Ab

namespace Go.Ab
open Go.Proofs Go.Gs
variable {G0 : Nat → Option Obj}

theorem pathR_bad {l : List By} {i : Int} (h : (pathR l i).2 ≠ 0) : (pathR l i).1 = [] := by
  unfold pathR at h ⊢
  split at h
  · rename_i h1; rw [if_pos h1]
  · rename_i h1
    rw [if_neg h1]
    split at h
    · rename_i h2; rw [if_pos h2]
    · exact absurd rfl h

theorem good_ShowSays (hG : GlobOk G0) (b : Bk) (nl : Bool) (hl : b.length * 24 ≤ 140737488355328) (i key : Int) :
    Good PG nG G0 f_greatseallaw_ShowSays [.agg [.sl 2 nl none (b.map E2)], .int .i64 i, .int .i64 key] [] (.bool true) [] := by
  suffices main : ∀ R : AV → List (Option Blk) → Prop, R (.bool true) [] → Hold (runF PG ty nG G0 an_greatseallaw_ShowSays f_greatseallaw_ShowSays [.agg [.sl 2 nl none (b.map E2)], .int .i64 i, .int .i64 key] [] R) from
    good_of_run prOk (by kernel_rfl) (main _ ⟨rfl, rfl⟩)
  intro R hR
  have sh := good_shown (G0 := G0) hG
  have ge := good_showEntry (G0 := G0) hG b nl i
  have gg := good_showGrowth (G0 := G0) hG b nl i
  have gv := good_showValue (G0 := G0) hG b nl key
  by_cases hc : checkB b = 0
  · have hb := (checkB_ok hc).1
    obtain ⟨r1, r2, r3⟩ := book_rooted hc
    refine greatseallaw_ShowSays_run nl _ i key G0 R ⟨_, _, _, _, _, ge, _, _, _, gg, _, _, _, _, _, gv, _, good_CheckBook b nl, _, sh, ?_⟩
    rw [hc]
    simp only [Bool.not_true, ifF, bne_self_eq_false]
    have gt := good_TextsOf (G0 := G0) hG b nl (BkR_of_check hc) hl
    refine ⟨_, _, gt, _, _, _, good_PathOf hG _ _ _, _, _, gt, _, _, _, good_GrowthOf hG _ _ _, ?_⟩
    have eg : showG b i = growR (textsOf b) i := by rw [showG, if_neg (by simpa using hc)]
    have ec : (showE b i).2 = (pathR (textsOf b) i).2 := by
      unfold showE
      rw [if_neg (by simpa using hc)]
      split
      · rfl
      · rename_i h; simpa using (Eq.symm (Decidable.not_not.1 h))
    have es : (showE b i).1.2 = (pathR (textsOf b) i).1 := by
      unfold showE
      rw [if_neg (by simpa using hc)]
      split
      · rename_i h; exact (pathR_bad h).symm
      · rfl
    rw [ec, es, eg]
    have gq := good_EqualStep (G0 := G0) (pathR (textsOf b) i).1 (pathR (textsOf b) i).1 (pathR (textsOf b) i).1.isEmpty (pathR (textsOf b) i).1.isEmpty (by have := pathR_len (textsOf b) i; omega)
    rw [decide_eq_true rfl] at gq
    simp only [bne_self_eq_false, ifF]
    refine ⟨_, gq, ?_⟩
    simp only [Bool.not_true, ifF]
    have gq2 := good_Equal (G0 := G0) (growR (textsOf b) i).1 (growR (textsOf b) i).1 (growR (textsOf b) i).1.isEmpty (growR (textsOf b) i).1.isEmpty (by have := growR_len (textsOf b) i; omega)
    rw [beq_self_eq_true] at gq2
    -- the rest
    have rest : ∃ b30, Good PG nG G0 f_slices_Equal_string [.sl 1 (growR (textsOf b) i).1.isEmpty none ((growR (textsOf b) i).1.map S1), .sl 1 (growR (textsOf b) i).1.isEmpty none ((growR (textsOf b) i).1.map S1)] [] (.bool b30) [] ∧
        ifK (!b30) (R (.bool false) [])
          (ifK (decide (key < 0))
            (ifK ((showV b key).2 == (5 : Int)) (ifK ((showV b key).1.1 == []) (ifK (!(showV b key).1.2.1) (R (.bool (((((showV b key).1.2.2.map S1).length : Nat) : Int) == 0)) []) (R (.bool false) [])) (R (.bool false) []))
              (R (.bool false) []))
            (ifK (decide (key > 15))
              (ifK ((showV b key).2 == (5 : Int)) (ifK ((showV b key).1.1 == []) (ifK (!(showV b key).1.2.1) (R (.bool (((((showV b key).1.2.2.map S1).length : Nat) : Int) == 0)) []) (R (.bool false) [])) (R (.bool false) []))
                (R (.bool false) []))
              (∃ b31 xs32, Good PG nG G0 f_greatsealref_ValuesOf [.agg [.sl 2 nl none (b.map E2)]] [] (.mp b31 xs32) [] ∧
                ∃ s33 b34, mlookD .i64 key (.str []) xs32 = some (.str s33, b34) ∧
                  ifK ((showV b key).2 == (0 : Int))
                    (ifK ((showV b key).1.1 == s33)
                      (ifK ((showV b key).1.2.1 == b34)
                        (∃ b35 xs36, Good PG nG G0 f_greatsealref_MapPath [.mp b31 xs32, .int .i64 key] [] (.sl 1 b35 none xs36) [] ∧
                          ∃ b37, Good PG nG G0 f_slices_Equal_string [.sl 1 (showV b key).1.2.2.isEmpty none ((showV b key).1.2.2.map S1), .sl 1 b35 none xs36] [] (.bool b37) [] ∧ R (.bool b37) [])
                        (R (.bool false) []))
                      (R (.bool false) []))
                    (R (.bool false) [])))) := by
      refine ⟨_, gq2, ?_⟩
      rw [Bool.not_true, ifF]
      by_cases hk : key < 0 ∨ 16 ≤ key
      · have ev : showV b key = (([], false, []), 5) := by
          unfold showV
          rw [if_neg (by simpa using hc)]
          have : pathM (valsOf b) key = ([], 5) := by unfold pathM; rw [if_neg (by rw [valsOf_check hc]; simp), if_pos hk]
          rw [this, if_pos (by simp)]
        rw [ev]
        have fin : ifK ((5 : Int) == (5 : Int)) (ifK (([] : By) == []) (ifK (!false) (R (.bool ((((([] : List By).map S1).length : Nat) : Int) == 0)) []) (R (.bool false) [])) (R (.bool false) [])) (R (.bool false) []) := hR
        rw [ifK_iff]
        refine ⟨fun _ => fin, fun h => ?_⟩
        rw [ifK_iff]
        refine ⟨fun _ => fin, fun h2 => ?_⟩
        have h : ¬ key < 0 := by simpa using h
        have h2 : ¬ key > 15 := by simpa using h2
        omega
      · obtain ⟨k, rfl⟩ : ∃ k : Nat, key = k := ⟨key.toNat, by omega⟩
        have hk16 : k < 16 := by omega
        rw [decide_eq_false (by omega), ifF, decide_eq_false (by omega), ifF, showV_ok hc hk16]
        refine ⟨_, _, good_ValuesOf b nl (by omega), _, _, mlookD_KV _ _, ?_⟩
        have gm := good_MapPath (G0 := G0) hG (valsRev b) false (valsRev_check hc) k hk16
        rw [valsRev_fM] at gm
        have gq3 := good_Equal (G0 := G0) (triePath (fM (valsOf b)) k 4) (triePath (fM (valsOf b)) k 4) (triePath (fM (valsOf b)) k 4).isEmpty false (by rw [triePath_len]; decide)
        rw [beq_self_eq_true] at gq3
        rw [show mGet (valsRev b) (k : Int) = mGet (valsOf b) k by rw [valsRev_get, valsOf_get]]
        simp only [beq_self_eq_true, ifT]
        exact ⟨_, _, gm, _, gq3, hR⟩
    by_cases hp : (pathR (textsOf b) i).2 = 0
    · obtain ⟨p1, p2, _⟩ := pathR_zero hp
      rw [texts_len] at p2
      have hi : i.toNat < b.length := by omega
      have ee : (showE b i).1.1 = b[i.toNat] := by
        unfold showE
        rw [if_neg (by simpa using hc), if_neg (by simpa using hp), List.getD_eq_getElem?_getD, List.getElem?_eq_getElem hi]
        rfl
      rw [hp, ee]
      simp only [beq_self_eq_true, ifT, bne_self_eq_false, ifF]
      refine ⟨p1, _, _, getX hi, ?_⟩
      rw [eqAll_E2, decide_eq_true rfl]
      simp only [Bool.not_true, ifF]
      exact rest
    · have ee : (showE b i).1.1 = (0, []) := by
        unfold showE
        rw [if_neg (by simpa using hc), if_pos hp]
      have e1 : ((pathR (textsOf b) i).2 == 0) = false := by simpa using hp
      have e2 : ((pathR (textsOf b) i).2 != 0) = true := by simpa using hp
      have e3 : eqAll [.int .i64 0, .str []] [.int .i64 0, .str []] = true := by rfl
      rw [e1, e2, ee]
      simp only [ifT, ifF, e3, Bool.not_true]
      exact rest
  · refine greatseallaw_ShowSays_run nl _ i key G0 R ⟨_, _, _, _, _, ge, _, _, _, gg, _, _, _, _, _, gv, _, good_CheckBook b nl, _, sh, ?_⟩
    have e1 : showE b i = (((0, []), []), checkB b) := by rw [showE, if_pos hc]
    have e2 : showG b i = ([], checkB b) := by rw [showG, if_pos hc]
    have e3 : showV b key = (([], false, []), checkB b) := by rw [showV, if_pos hc]
    have e4 : (checkB b != 0) = true := by simpa using hc
    rw [e1, e2, e3]
    simp only [Bool.not_true, ifF, e4, ifT, beq_self_eq_true]
    exact ⟨_, sh, hR⟩
end Go.Ab

namespace Go.Ab
open Go.Proofs Go.Gs
variable {G0 : Nat → Option Obj}

/-- A client: its head, whether it was fooled. -/
abbrev Cl := Hd × Bool

def followR (c : Cl) (h : Hd) (l : List By) : Cl × Int :=
  if checkH c.1 ≠ 0 then ((hd0, false), checkH c.1) else if checkH h ≠ 0 then ((hd0, false), checkH h) else if h.n < c.1.n then ((hd0, false), 6)
  else if (c.1.n = 0 ∧ l = []) ∨ (0 < c.1.n ∧ growShows c.1.log c.1.n h.log h.n l = 0 ∧ (c.1.n < h.n ∨ h.mp = c.1.mp)) then ((h, c.2), 0) else ((c.1, true), 7)

theorem checkH_ok {h : Hd} (e : checkH h = 0) : 0 ≤ h.n ∧ h.n ≤ 24 ∧ h.log.length ≤ 20000 ∧ h.mp.length ≤ 20000 := by
  unfold checkH at e
  split at e
  · cases e
  · split at e
    · cases e
    · omega

theorem good_Follow (hG : GlobOk G0) (c : Cl) (h : Hd) (nl : Bool) (l : List By) (hl : l.length ≤ 1000000000000000000) :
    Good PG nG G0 f_client_Follow [.agg [.int .i64 c.1.n, .str c.1.log, .str c.1.mp, .bool c.2], .agg [.int .i64 h.n, .str h.log, .str h.mp], .sl 1 nl none (l.map S1)] []
      (.tup [.agg [.int .i64 (followR c h l).1.1.n, .str (followR c h l).1.1.log, .str (followR c h l).1.1.mp, .bool (followR c h l).1.2], .int .i64 (followR c h l).2]) [] := by
  obtain ⟨c, cf⟩ := c
  refine good_of_run prOk (by kernel_rfl) (client_Follow_run _ _ _ _ _ _ _ nl _ G0 _ ⟨_, good_noteCheck c, ?_⟩)
  unfold followR
  simp only
  refine ifK_ne0 (fun h1 => ⟨by rw [if_pos h1]; rfl, trivial⟩) fun h1 => ?_
  rw [if_neg (by simpa using h1)]
  refine ⟨_, good_noteCheck h, ifK_ne0 (fun h2 => ⟨by rw [if_pos h2]; rfl, trivial⟩) fun h2 => ?_⟩
  rw [if_neg (by simpa using h2)]
  have g := good_growShows (G0 := G0) hG c.log c.n h.log h.n nl l hl
  have hc := checkH_ok h1
  simp only [ifK_iff, decide_eq_true_eq, decide_eq_false_iff_not, beq_iff_eq, beq_eq_false_iff_ne, List.length_map, ne_eq, Bool.not_eq_true', Bool.not_eq_false']
  have hlen : ((l.length : Int) = 0) ↔ l = [] := by
    cases l <;> simp; omega
  refine ⟨fun c1 => ⟨by rw [if_pos c1]; rfl, trivial⟩, fun c1 => ?_⟩
  rw [if_neg c1]
  refine ⟨fun c2 => ⟨fun c3 => by omega, fun _ => ⟨fun c4 => ?_, fun c4 => ?_⟩⟩, fun c2 => ⟨fun c3 => ⟨_, g, fun c4 => ⟨fun c5 => ?_, fun c5 => ⟨fun c6 => ?_, fun c6 => ?_⟩⟩, fun c4 => ?_⟩, fun c3 => by omega⟩⟩
  · rw [if_neg (by rintro (⟨_, e⟩ | ⟨e, _⟩); exact c4 (hlen.2 e); omega)]; exact ⟨rfl, trivial⟩
  · rw [if_pos (.inl ⟨c2, hlen.1 c4⟩)]; exact ⟨rfl, trivial⟩
  · rw [if_pos (.inr ⟨c3, c4, .inl c5⟩)]; exact ⟨rfl, trivial⟩
  · rw [if_neg (by rintro (⟨e, _⟩ | ⟨_, _, e | e⟩); exact c2 e; exact c5 e; exact c6 e)]; exact ⟨rfl, trivial⟩
  · rw [if_pos (.inr ⟨c3, c4, .inr c6⟩)]; exact ⟨rfl, trivial⟩
  · rw [if_neg (by rintro (⟨e, _⟩ | ⟨_, e, _⟩); exact c2 e; exact c4 e)]; exact ⟨rfl, trivial⟩

theorem good_Follows (hG : GlobOk G0) (c : Cl) (h : Hd) (nl : Bool) (l : List By) (hs : ∀ s ∈ l, s.length ≤ 4611686018427387903) (hl : l.length ≤ 1000000000000000000) :
    Good PG nG G0 f_greatsealref_Follows [.agg [.int .i64 c.1.n, .str c.1.log, .str c.1.mp, .bool c.2], .agg [.int .i64 h.n, .str h.log, .str h.mp], .sl 1 nl none (l.map S1)] []
      (.tup [.agg [.int .i64 (followR c h l).1.1.n, .str (followR c h l).1.1.log, .str (followR c h l).1.1.mp, .bool (followR c h l).1.2], .int .i64 (followR c h l).2]) [] := by
  obtain ⟨c, cf⟩ := c
  refine good_of_run prOk (by kernel_rfl) (greatsealref_Follows_run _ _ _ _ _ _ _ nl _ G0 _ ⟨_, good_CheckHead c, ?_⟩)
  unfold followR
  simp only
  by_cases h1 : checkH c = 0
  · rw [if_neg (by simpa using h1), h1]
    have hc := checkH_ok h1
    simp only [beq_self_eq_true, ifT]
    refine ⟨_, good_CheckHead h, ?_⟩
    by_cases h2 : checkH h = 0
    · rw [if_neg (by simpa using h2), h2]
      simp only [beq_self_eq_true, ifT, bne_self_eq_false, ifF]
      have g := good_GrowthShows (G0 := G0) hG c.log (by omega) c.n h.log h.n nl l hs hl
      simp only [ifK_iff, decide_eq_true_eq, decide_eq_false_iff_not, beq_iff_eq, beq_eq_false_iff_ne, List.length_map, ne_eq, Bool.not_eq_true', Bool.not_eq_false']
      have hlen : ((l.length : Int) = 0) ↔ l = [] := by
        cases l <;> simp; omega
      refine ⟨fun c1 => ⟨by rw [if_pos c1]; rfl, trivial⟩, fun c1 => ?_⟩
      rw [if_neg c1]
      refine ⟨fun c3 => ⟨_, g, fun c4 => ⟨fun c5 => ⟨fun c6 => ?_, fun c6 => ?_⟩, fun c5 => ?_⟩, fun c4 => ⟨fun c5 => ?_, fun c5 => ?_⟩⟩, fun c3 => ⟨fun c4 => ?_, fun c4 => ?_⟩⟩
      · rw [if_neg (by rintro (⟨e, _⟩ | ⟨_, _, e | e⟩); omega; omega; exact c6 e)]; exact ⟨rfl, trivial⟩
      · rw [if_pos (.inr ⟨c3, c5, .inr c6⟩)]; exact ⟨rfl, trivial⟩
      · rw [if_neg (by rintro (⟨e, _⟩ | ⟨_, e, _⟩); omega; exact c5 e)]; exact ⟨rfl, trivial⟩
      · rw [if_neg (by rintro (⟨e, _⟩ | ⟨_, e, _⟩); omega; exact c5 e)]; exact ⟨rfl, trivial⟩
      · rw [if_pos (.inr ⟨c3, c5, .inl (by omega)⟩)]; exact ⟨rfl, trivial⟩
      · rw [if_neg (by rintro (⟨_, e⟩ | ⟨e, _⟩); exact c4 (hlen.2 e); omega)]; exact ⟨rfl, trivial⟩
      · rw [if_pos (.inl ⟨by omega, hlen.1 c4⟩)]; exact ⟨rfl, trivial⟩
    · have e1 : (checkH h == 0) = false := by simpa using h2
      have e2 : (checkH h != 0) = true := by simpa using h2
      rw [if_pos h2]
      simp only [e1, e2, ifT, ifF]
      exact ⟨rfl, trivial⟩
  · have e1 : (checkH c == 0) = false := by simpa using h1
    have e2 : (checkH c != 0) = true := by simpa using h1
    rw [if_pos h1]
    simp only [e1, e2, ifT, ifF]
    exact ⟨rfl, trivial⟩

def seesR (c : Cl) (i : Int) (x : En) (st : List (Bool × By)) : Int := if checkH c.1 ≠ 0 then checkH c.1 else pathShows c.1.log c.1.n i (textE x) st
def findsR (c : Cl) (k : Int) (v : By) (there : Bool) (l : List By) : Int := if checkH c.1 ≠ 0 then checkH c.1 else trieShows c.1.mp k v there l

theorem good_Sees (hG : GlobOk G0) (c : Cl) (i : Int) (x : En) (hx : (-9223372036854775808 ≤ x.1 ∧ x.1 ≤ 9223372036854775807) ∧ x.2.length ≤ 140737488351232) (nl : Bool) (st : List (Bool × By)) :
    Good PG nG G0 f_client_Sees [.agg [.int .i64 c.1.n, .str c.1.log, .str c.1.mp, .bool c.2], .int .i64 i, .agg [.int .i64 x.1, .str x.2], .sl 2 nl none (st.map S2)] [] (.int .i64 (seesR c i x st)) [] := by
  refine good_of_run prOk (by kernel_rfl) (client_Sees_run _ _ _ _ i _ _ nl _ G0 _ ⟨_, good_noteCheck c.1, ?_⟩)
  unfold seesR
  refine ifK_ne0 (fun h1 => ⟨by rw [if_pos h1], rfl⟩) fun h1 => ?_
  rw [if_neg (by simpa using h1)]
  exact ⟨_, good_Text hG x hx, _, good_pathShows hG _ _ _ _ _ _, rfl, rfl⟩

theorem good_Finds (hG : GlobOk G0) (c : Cl) (k : Int) (v : By) (there nl : Bool) (l : List By) :
    Good PG nG G0 f_client_Finds [.agg [.int .i64 c.1.n, .str c.1.log, .str c.1.mp, .bool c.2], .int .i64 k, .str v, .bool there, .sl 1 nl none (l.map S1)] [] (.int .i64 (findsR c k v there l)) [] := by
  refine good_of_run prOk (by kernel_rfl) (client_Finds_run _ _ _ _ k v there nl _ G0 _ ⟨_, good_noteCheck c.1, ?_⟩)
  unfold findsR
  refine ifK_ne0 (fun h1 => ⟨by rw [if_pos h1], rfl⟩) fun h1 => ?_
  rw [if_neg (by simpa using h1)]
  exact ⟨_, good_trieShows hG _ _ _ _ _ _, rfl, rfl⟩

def cl1 : Cl := ((headOf (bk3.take 1)).1, false)
def cl2 : Cl := ((headOf bk3).1, false)

theorem good_followed (hG : GlobOk G0) : Good PG nG G0 f_greatseallaw_followed [] [] (.bool true) [] := by
  have ge := good_entries (G0 := G0)
  have g1 := good_Head (G0 := G0) hG (bk3.take 1) false
  have g2 := good_Head (G0 := G0) hG bk3 false
  have g3 := good_showGrowth (G0 := G0) hG bk3 false 1
  have g4 := good_showEntry (G0 := G0) hG bk3 false 2
  rw [show (headOf (bk3.take 1)).2 = 0 by decide +kernel] at g1
  rw [show (headOf bk3).2 = 0 by decide +kernel] at g2
  rw [show (showG bk3 1).2 = 0 by decide +kernel] at g3
  rw [show (showE bk3 2).2 = 0 by decide +kernel] at g4
  have f1 := good_Follow (G0 := G0) hG (hd0, false) (headOf (bk3.take 1)).1 true [] (by decide)
  rw [show followR (hd0, false) (headOf (bk3.take 1)).1 [] = (cl1, 0) by decide +kernel] at f1
  have f2 := good_Follow (G0 := G0) hG cl1 (headOf bk3).1 (showG bk3 1).1.isEmpty (showG bk3 1).1 (by decide +kernel)
  rw [show followR cl1 (headOf bk3).1 (showG bk3 1).1 = (cl2, 0) by decide +kernel] at f2
  have f3 := good_Follow (G0 := G0) hG cl1 (headOf bk3).1 true [] (by decide)
  rw [show followR cl1 (headOf bk3).1 [] = ((cl1.1, true), 7) by decide +kernel] at f3
  have f4 := good_Follow (G0 := G0) hG cl2 (headOf (bk3.take 1)).1 true [] (by decide)
  rw [show followR cl2 (headOf (bk3.take 1)).1 [] = ((hd0, false), 6) by decide +kernel] at f4
  have s1 := good_Sees (G0 := G0) hG cl2 2 (5, [122]) (by decide) (showE bk3 2).1.2.isEmpty (showE bk3 2).1.2
  rw [show seesR cl2 2 (5, [122]) (showE bk3 2).1.2 = 0 by decide +kernel] at s1
  have s2 := good_Sees (G0 := G0) hG cl2 2 (5, [120]) (by decide) (showE bk3 2).1.2.isEmpty (showE bk3 2).1.2
  rw [show seesR cl2 2 (5, [120]) (showE bk3 2).1.2 = 7 by decide +kernel] at s2
  refine good_of_run prOk (by kernel_rfl) (greatseallaw_followed_run G0 _ ⟨_, _, ge, by decide, by decide, by decide, _, _, _, _, g1, _, _, ge, _, _, _, _, g2, _, _, ge, _, _, _, g3, _, _, _, _, _, f1, _, _, _, _, _, f2, _, _, _, _, _, f3, _, _, _, _, _, f4, _, _, ge, _, _, _, _, _, g4, ?_⟩)
  rw [eqAll_hd, eqAll_hd, decide_eq_true (show cl2.1 = (headOf bk3).1 from rfl), decide_eq_true (show cl1.1 = (headOf (bk3.take 1)).1 from rfl)]
  exact ⟨_, _, ge, by decide, _, _, rfl, _, s1, _, _, ge, by decide, _, _, rfl, _, s2, rfl, rfl⟩
end Go.Ab

namespace Go.Ab
open Go.Proofs Go.Gs
variable {G0 : Nat → Option Obj}

theorem good_MapShows (hG : GlobOk G0) (all : By) (key : Int) (value : By) (there : Bool) (nl : Bool) (l : List By) (hl : ∀ s ∈ l, s.length ≤ 4611686018427387903) :
    Good PG nG G0 f_greatsealref_MapShows [.str all, .int .i64 key, .str value, .bool there, .sl 1 nl none (l.map S1)] [] (.int .i64 (trieShows all key value there l)) [] := by
  refine good_of_run prOk (by kernel_rfl) (greatsealref_MapShows_run all key value there nl _ G0 _ ⟨_, good_in key 0 15, ?_⟩)
  simp only [ifK_iff, decide_eq_true_eq, decide_eq_false_iff_not, bne_iff_ne, ne_eq, bne_eq_false_iff_eq, Bool.not_eq_true', Bool.not_eq_false', List.length_map]
  refine ⟨fun h => ?_, fun h => ?_⟩
  · rw [trieShows, if_pos (by omega)]; exact ⟨rfl, trivial⟩
  obtain ⟨k, rfl⟩ := Int.eq_ofNat_of_zero_le (show 0 ≤ key by omega)
  have hk : k < 16 := by omega
  have hll := tLeaf_len value
  have start : ∀ (now : By) (e : Int), l.length = 4 → now.length ≤ 4611686018427387903 → trieShows all k value there l = (if e ≠ 0 then e else fin7 all (climb now (bitsOf k 4) (List.zip (bitsOf k 4) l))) →
      Does PG nG G0 (fnOf PG f_greatsealref_MapShows) 0 (lp PG f_greatsealref_MapShows 0)
        (mkT 69 [(0, .str all), (1, .int .i64 k), (11, .str now), (12, .int .i64 e), (34, .sl 1 nl none (l.map S1)), (35, .int .i64 l.length), (36, .int .i64 0)]) []
        fun r' H'' => r' = .int .i64 (trieShows all k value there l) ∧ H'' = [] := by
    intro now e h4 hnow he
    have := mapS_loop (G0 := G0) hG all k hk nl l h4 hl (R := fun r' H'' => r' = .int .i64 (trieShows all k value there l) ∧ H'' = []) 4 0 now e (by omega) (by omega) hnow ⟨by rw [he]; rfl, rfl⟩
    rw [List.length_map] at this
    simpa using this
  refine ⟨fun h3 => ⟨fun h4 => ?_, fun h4 => ⟨fun h5 => ?_, fun h5 => ⟨fun h6 => ?_, fun h6 => ?_⟩⟩⟩, fun h3 => ⟨fun h5 => ?_, fun h5 => ⟨fun h6 => ⟨_, _, good_LeafOf value, ?_⟩, fun h6 => ?_⟩⟩⟩
  · rw [trieShows, if_neg (by omega), if_pos ⟨h3, by intro e; rw [e] at h4; simp at h4⟩]; exact ⟨rfl, trivial⟩
  · have h4 : value = [] := List.eq_nil_of_length_eq_zero (by omega)
    rw [trieShows, if_neg (by omega), if_neg (by simp [h4]), if_pos (by omega)]; exact ⟨rfl, trivial⟩
  · rw [h3] at h6; cases h6
  · have h4 : value = [] := List.eq_nil_of_length_eq_zero (by omega)
    exact start [69] 0 (by omega) (by simp) (by rw [trieShows_fin hk (by simp [h4]) (by omega), h3]; rfl)
  · rw [trieShows, if_neg (by omega), if_neg (by simp [h3]), if_pos (by omega)]; exact ⟨rfl, trivial⟩
  · refine start _ _ (by omega) (by omega) ?_
    rw [trieShows_fin hk (by simp [h3]) (by omega), h3]
    simp only [if_true, tV]
  · rw [h3] at h6; cases h6

end Go.Ab

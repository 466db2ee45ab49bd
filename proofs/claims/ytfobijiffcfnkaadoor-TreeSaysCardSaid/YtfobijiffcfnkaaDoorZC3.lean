/- Contracts: lists held together; the first law; no condition. -/
import Derived.Test.YtfobijiffcfnkaaDoorZC2
namespace Go.Ab
open Go.Proofs Go.Gs
variable {G0 : Nat → Option Obj}

theorem getD_map {l : List By} {i : Nat} (h : i < l.length) : (l.map S1)[i]? = some [AV.str l[i]] := by rw [List.getElem?_map, List.getElem?_eq_getElem h]; rfl

theorem eq_loop (a b : List By) (na nb : Bool) (hl : a.length = b.length) (hb : (a.length : Int) ≤ 9223372036854775806) : ∀ (m i : Nat), a.length - i ≤ m → i ≤ a.length → (∀ j, j < i → a[j]? = b[j]?) →
    Does PG 3 G0 (fnOf PG 20) 0 (lp PG 20 0) (mkT 26 [(0, .sl 1 na none (a.map S1)), (1, .sl 1 nb none (b.map S1)), (12, .int .i64 (a.map S1).length), (13, .int .i64 i)]) [] fun r' H'' => r' = .bool (a == b) ∧ H'' = [] := by
  intro m
  induction m with
  | zero =>
    intro i h1 h2 h3
    refine does_of_run prOk (slices_Equal_string_l0_run G0 na _ nb _ _ _ _ ?_)
    simp only [ifK_iff, decide_eq_true_eq, decide_eq_false_iff_not, List.length_map]
    refine ⟨fun h => by omega, fun h => ⟨?_, trivial⟩⟩
    have : a = b := List.ext_getElem? fun j => by
      rcases Nat.lt_or_ge j i with hj | hj
      · exact h3 j hj
      · rw [List.getElem?_eq_none (by omega), List.getElem?_eq_none (by omega)]
    simp [this]
  | succ m ih =>
    intro i h1 h2 h3
    refine does_of_run prOk (slices_Equal_string_l0_run G0 na _ nb _ _ _ _ ?_)
    simp only [ifK_iff, decide_eq_true_eq, decide_eq_false_iff_not, List.length_map, Int.toNat_natCast, Bool.not_eq_true', Bool.not_eq_false']
    refine ⟨fun h => ⟨by omega, a[i]'(by omega), getD_map (by omega), by omega, b[i]'(by omega), getD_map (by omega), fun h4 => ⟨?_, trivial⟩, fun h4 => ?_⟩, fun h => ⟨?_, trivial⟩⟩
    · have hne : a[i]'(by omega) ≠ b[i]'(by omega) := by simpa using h4
      have : a ≠ b := by rintro rfl; exact hne rfl
      simp [this]
    · have he : a[i]'(by omega) = b[i]'(by omega) := by simpa using h4
      have := ih (i + 1) (by omega) (by omega) fun j hj => by
        rcases Nat.lt_or_ge j i with hj2 | hj2
        · exact h3 j hj2
        · obtain rfl : j = i := by omega
          rw [List.getElem?_eq_getElem (by omega), List.getElem?_eq_getElem (by omega), he]
      rw [wrap64 (by omega) (by omega)]
      rw [List.length_map] at this
      exact this
    · have : a = b := List.ext_getElem? fun j => by
        rcases Nat.lt_or_ge j i with hj | hj
        · exact h3 j hj
        · rw [List.getElem?_eq_none (by omega), List.getElem?_eq_none (by omega)]
      simp [this]

theorem good_Equal (a b : List By) (na nb : Bool) (hb : (a.length : Int) ≤ 9223372036854775806) : Good PG 3 G0 20 [.sl 1 na none (a.map S1), .sl 1 nb none (b.map S1)] [] (.bool (a == b)) [] := by
  refine good_of_run prOk (by kernel_rfl) (slices_Equal_string_run na _ nb _ G0 _ ?_)
  simp only [ifK_iff, bne_iff_ne, ne_eq, List.length_map, bne_eq_false_iff_eq]
  refine ⟨fun h => ⟨?_, trivial⟩, fun h => ?_⟩
  · have : a ≠ b := by rintro rfl; exact h rfl
    simp [this]
  · have := eq_loop (G0 := G0) a b na nb (by omega) hb a.length 0 (by omega) (by omega) (fun j hj => by omega)
    rw [List.length_map] at this
    exact this

theorem good_planted (hG : GlobOk G0) : Good PG 3 G0 18 [] [] (.bool true) [] := by
  refine good_of_run prOk (by kernel_rfl) (greatseallaw_planted_run G0 _ ?_)
  have g1 := good_Root' hG [[97], [98], [99]] false
  have g2 := good_Root' hG [] true
  have e1 : rootOf [[97], [98], [99]] = ([78, 55, 58, 78, 50, 58, 76, 97, 76, 98, 76, 99], 0) := by
    simp [rootOf, tRoot, halfN, tLeaf, tNode, Lib.itoa, Lib.decDigits]
  have e2 : rootOf [] = ([69], 0) := by simp [rootOf, tRoot]
  rw [e1] at g1
  rw [e2] at g2
  have h5 := good_Half (G0 := G0) 5
  have h1 := good_Half (G0 := G0) 1
  have hh : halfN (Int.toNat 5) = 4 := by decide
  rw [hh] at h5
  refine ⟨_, _, g1, _, _, h5, _, _, h1, _, _, g2, ?_⟩
  simp [ifK]

theorem good_TreeSays (hG : GlobOk G0) (l : List By) (nl : Bool) (n : Int) : Good PG 3 G0 3 [.sl 1 nl none (l.map S1), .int .i64 n] [] (.bool true) [] := by
  refine good_of_run prOk (by kernel_rfl) (greatseallaw_TreeSays_run nl _ n G0 _ ?_)
  refine ⟨_, _, good_Root' hG l nl, _, _, good_Half n, _, _, good_RootOf hG l nl, _, good_planted hG, ?_⟩
  simp only [ifK_iff, decide_eq_true_eq, decide_eq_false_iff_not, Bool.not_true, Bool.false_eq_true, false_implies, true_and, true_implies, beq_self_eq_true, bne_self_eq_false]
  refine ⟨fun h => ?_, fun h => ⟨fun h2 => ?_, fun h2 => ?_⟩⟩
  · simp [h]
  · simp [h2]
  · have h3 : ¬ (n < 2 ∨ 24 < n) := by omega
    simp only [if_neg h3]
    refine ⟨fun _ => ⟨_, good_HalfOf n (by omega), ?_⟩, fun h => by simp at h⟩
    simp
end Go.Ab

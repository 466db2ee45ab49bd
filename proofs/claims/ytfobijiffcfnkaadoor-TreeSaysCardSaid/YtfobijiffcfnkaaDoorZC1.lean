/- Contracts: seals, halves, lists; no condition. -/
import Derived.Test.YtfobijiffcfnkaaDoorZC0
import Derived.Test.YtfobijiffcfnkaaDoorZR1
import Derived.Test.YtfobijiffcfnkaaDoorZPl1
namespace Go.Ab
open Go.Proofs Go.Gs

def S1 (s : By) : List AV := [.str s]

theorem wrap64 {n : Int} (h0 : -9223372036854775808 ≤ n) (h1 : n ≤ 9223372036854775807) : IntKind.i64.wrap n = n := by
  rw [IntKind.wrap_i64]; omega

variable {G0 : Nat → Option Obj}

theorem good_None : Good PG 3 G0 44 [] [] (.str [69]) [] := good_of_run prOk (by kernel_rfl) (seal_None_run G0 _ ⟨rfl, rfl⟩)

theorem good_Leaf (s : By) : Good PG 3 G0 45 [.str s] [] (.tup [.str (tLeaf s).1, .int .i64 (tLeaf s).2]) [] := by
  refine good_of_run prOk (by kernel_rfl) (seal_Leaf_run s G0 _ ?_)
  simp only [ifK_iff, decide_eq_true_eq, decide_eq_false_iff_not]
  unfold tLeaf
  refine ⟨fun h => ?_, fun h => ⟨by omega, ?_⟩⟩
  · rw [if_pos (by omega)]; exact ⟨rfl, trivial⟩
  · rw [if_neg (by omega)]; exact ⟨rfl, trivial⟩

theorem good_LeafOf (s : By) : Good PG 3 G0 48 [.str s] [] (.tup [.str (tLeaf s).1, .int .i64 (tLeaf s).2]) [] := by
  refine good_of_run prOk (by kernel_rfl) (greatsealref_LeafOf_run s G0 _ ?_)
  simp only [ifK_iff, decide_eq_true_eq, decide_eq_false_iff_not]
  unfold tLeaf
  refine ⟨fun h => ?_, fun h => ⟨by omega, ?_⟩⟩
  · rw [if_pos (by omega)]; exact ⟨rfl, trivial⟩
  · rw [if_neg (by omega)]; exact ⟨rfl, trivial⟩

theorem good_Node (hG : GlobOk G0) (a b : By) : Good PG 3 G0 46 [.str a, .str b] [] (.tup [.str (tNode a b).1, .int .i64 (tNode a b).2]) [] := by
  refine good_of_run prOk (by kernel_rfl) (seal_Node_run a b G0 _ ?_)
  simp only [ifK_iff, decide_eq_true_eq, decide_eq_false_iff_not]
  unfold tNode
  refine ⟨fun h => ?_, fun h => ⟨fun h2 => ?_, fun h2 => ?_⟩⟩
  · rw [if_pos (by omega)]; exact ⟨rfl, trivial⟩
  · rw [wrap64 (by omega) (by omega)] at h2
    rw [if_pos (by omega)]; exact ⟨rfl, trivial⟩
  · rw [wrap64 (by omega) (by omega)] at h2
    have := itoa_len a.length
    refine ⟨_, good_itoa hG _ (by omega) (by omega), by omega, ?_, ?_, ?_, ?_⟩
    · simp only [List.length_append, List.length_cons, List.length_nil]; omega
    · simp only [List.length_append, List.length_cons, List.length_nil]; omega
    · simp only [List.length_append, List.length_cons, List.length_nil]; omega
    · rw [if_neg (by omega)]; simp

theorem good_NodeOf (hG : GlobOk G0) (a b : By) (ha : a.length ≤ 1000000000) (hb : b.length ≤ 1000000000) : Good PG 3 G0 49 [.str a, .str b] [] (.tup [.str (tNode a b).1, .int .i64 (tNode a b).2]) [] := by
  refine good_of_run prOk (by kernel_rfl) (greatsealref_NodeOf_run a b G0 _ ?_)
  simp only [ifK_iff, decide_eq_true_eq, decide_eq_false_iff_not]
  unfold tNode
  rw [wrap64 (by omega) (by omega)]
  refine ⟨fun h => ?_, fun h => ?_⟩
  · rw [if_pos (by omega)]; exact ⟨rfl, trivial⟩
  · have := itoa_len a.length
    refine ⟨_, good_itoa hG _ (by omega) (by omega), by omega, ?_, ?_, ?_, ?_⟩
    · simp only [List.length_append, List.length_cons, List.length_nil]; omega
    · simp only [List.length_append, List.length_cons, List.length_nil]; omega
    · simp only [List.length_append, List.length_cons, List.length_nil]; omega
    · rw [if_neg (by omega)]; simp

theorem half_loop (n : Int) (R : AV → List (Option Blk) → Prop) (hn : 2 ≤ n) (hn2 : n ≤ 24) (k : Int) (hk : k = 1 ∨ k = 2 ∨ k = 4 ∨ k = 8 ∨ k = 16) (hkn : k < n)
    (hR : R (.tup [.int .i64 (halfN n.toNat), .int .i64 0]) []) : Does PG 3 G0 (fnOf PG 16) 0 (lp PG 16 0) (mkT 18 [(0, .int .i64 n), (4, .int .i64 k)]) [] R := by
  have key : ∀ m : Nat, ∀ k : Int, (k = 1 ∨ k = 2 ∨ k = 4 ∨ k = 8 ∨ k = 16) → k < n → (32 - k).toNat ≤ m → Does PG 3 G0 (fnOf PG 16) 0 (lp PG 16 0) (mkT 18 [(0, .int .i64 n), (4, .int .i64 k)]) [] R := by
    intro m
    induction m with
    | zero => intro k hk _ h; omega
    | succ m ih =>
      intro k hk hkn h
      refine does_of_run prOk (tree_Half_l0_run G0 n k R ?_)
      simp only [ifK_iff, decide_eq_true_eq, decide_eq_false_iff_not]
      rw [wrap64 (by omega) (by omega), wrap64 (by omega) (by omega)]
      refine ⟨fun h2 => ih _ (by omega) (by omega) (by omega), fun h2 => ?_⟩
      have hs := halfN_spec n.toNat
      have : (halfN n.toNat : Int) = k := by omega
      rw [← this]; exact hR
  exact key _ k hk hkn (Nat.le_refl _)

theorem good_Half (n : Int) : Good PG 3 G0 16 [.int .i64 n] [] (.tup [.int .i64 (if n < 2 ∨ 24 < n then 0 else halfN n.toNat), .int .i64 (if n < 2 ∨ 24 < n then 3 else 0)]) [] := by
  refine good_of_run prOk (by kernel_rfl) (tree_Half_run n G0 _ ?_)
  simp only [ifK_iff, decide_eq_true_eq, decide_eq_false_iff_not]
  refine ⟨fun h => ?_, fun h => ⟨fun h2 => ?_, fun h2 => ?_⟩⟩
  · rw [if_pos (.inl h), if_pos (.inl h)]; exact ⟨rfl, trivial⟩
  · rw [if_pos (.inr h2), if_pos (.inr h2)]; exact ⟨rfl, trivial⟩
  · rw [if_neg (by omega), if_neg (by omega)]
    exact half_loop n _ (by omega) (by omega) 1 (.inl rfl) (by omega) ⟨rfl, rfl⟩

theorem good_Half' (n : Nat) (h : 2 ≤ n) (h2 : n ≤ 24) : Good PG 3 G0 16 [.int .i64 n] [] (.tup [.int .i64 (halfN n), .int .i64 0]) [] := by
  have := good_Half (G0 := G0) n
  rw [if_neg (by omega), if_neg (by omega)] at this
  simpa using this

theorem good_HalfOf (n : Int) (h : 2 ≤ n) : Good PG 3 G0 19 [.int .i64 n] [] (.int .i64 (halfN n.toNat)) [] := by
  refine good_of_run prOk (by kernel_rfl) (greatsealref_HalfOf_run n G0 _ ?_)
  have key : ∀ m : Nat, ∀ k : Int, (k = 1 ∨ k = 2 ∨ k = 4 ∨ k = 8 ∨ k = 16) → k.toNat ≤ m → (halfN n.toNat : Int) ≤ k →
      Does PG 3 G0 (fnOf PG 19) 0 (lp PG 19 0) (mkT 10 [(0, .int .i64 n), (3, .int .i64 k)]) [] fun r' H'' => r' = .int .i64 (halfN n.toNat) ∧ H'' = [] := by
    intro m
    induction m with
    | zero => intro k hk h _; omega
    | succ m ih =>
      intro k hk hm hle
      refine does_of_run prOk (greatsealref_HalfOf_l0_run G0 n k _ ?_)
      simp only [ifK_iff, decide_eq_true_eq, decide_eq_false_iff_not]
      have hs := halfN_spec n.toNat
      have hd : Int.tdiv k 2 = k / 2 := by rw [Int.tdiv_eq_ediv_of_nonneg (by omega)]
      rw [hd, wrap64 (by omega) (by omega)]
      refine ⟨fun h2 => ⟨?_, trivial⟩, fun h2 => ⟨by omega, ih _ (by omega) (by omega) (by omega)⟩⟩
      congr 1
      omega
  have hs := halfN_spec n.toNat
  exact key 16 16 (by omega) (by omega) (by omega)
end Go.Ab

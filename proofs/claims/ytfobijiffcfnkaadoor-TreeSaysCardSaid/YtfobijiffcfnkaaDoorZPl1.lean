/- The seals and the lists' seals, in plain words; no condition. -/
import Derived.Lib.ItoaNum
namespace Go.Gs

abbrev By := List UInt8

def tLeaf (s : By) : By × Int := if 20000 < s.length then ([], 2) else (76 :: s, 0)
def tNode (a b : By) : By × Int := if 20000 < a.length + b.length then ([], 2) else (78 :: (Lib.itoa a.length ++ 58 :: (a ++ b)), 0)

def halfN (n : Nat) : Nat := if n ≤ 2 then 1 else if n ≤ 4 then 2 else if n ≤ 8 then 4 else if n ≤ 16 then 8 else 16

theorem halfN_spec (n : Nat) : (halfN n = 1 ∧ n ≤ 2) ∨ (halfN n = 2 ∧ 2 < n ∧ n ≤ 4) ∨ (halfN n = 4 ∧ 4 < n ∧ n ≤ 8) ∨ (halfN n = 8 ∧ 8 < n ∧ n ≤ 16) ∨ (halfN n = 16 ∧ 16 < n) := by
  unfold halfN; split; omega; split; omega; split; omega; split <;> omega

theorem halfN_pos (n : Nat) : 0 < halfN n := by unfold halfN; split; omega; split; omega; split; omega; split <;> omega
theorem halfN_lt {n : Nat} (h : 2 ≤ n) : halfN n < n := by unfold halfN; split; omega; split; omega; split; omega; split <;> omega

/-- The seal of a list of no more than 24. -/
def tRoot (l : List By) : By × Int :=
  if _h0 : l.length = 0 then ([69], 0)
  else if _h1 : l.length = 1 then tLeaf (l.headD [])
  else
    if (tRoot (l.take (halfN l.length))).2 ≠ 0 then ([], (tRoot (l.take (halfN l.length))).2)
    else if (tRoot (l.drop (halfN l.length))).2 ≠ 0 then ([], (tRoot (l.drop (halfN l.length))).2)
    else tNode (tRoot (l.take (halfN l.length))).1 (tRoot (l.drop (halfN l.length))).1
  termination_by l.length
  decreasing_by
  all_goals
    have := halfN_pos l.length
    have := halfN_lt (n := l.length) (by omega)
    simp only [List.length_take, List.length_drop]
    omega

/-- The seal of any list. -/
def rootOf (l : List By) : By × Int := if 24 < l.length then ([], 2) else tRoot l

theorem decDigits_len (u : Nat) : (Lib.decDigits u).length ≤ u + 1 := by
  induction u using Nat.strongRecOn with
  | _ u ih =>
    rw [Lib.decDigits]
    split
    · simp
    · rename_i h
      have := ih (u / 10) (by omega)
      simp only [List.length_append, List.length_cons, List.length_nil]
      omega

theorem itoa_len (n : Nat) : (Lib.itoa n).length ≤ n + 1 := by
  unfold Lib.itoa
  rw [if_neg (by omega)]
  exact decDigits_len n

theorem tNode_len (a b : By) : (tNode a b).1.length ≤ 40100 := by
  unfold tNode
  have := itoa_len a.length
  split
  · simp
  · simp only [List.length_cons, List.length_append]; omega

theorem tRoot_zero {l : List By} (h : l.length = 0) : tRoot l = ([69], 0) := by rw [tRoot, dif_pos h]
theorem tRoot_one {l : List By} (h : l.length = 1) : tRoot l = tLeaf (l.headD []) := by rw [tRoot, dif_neg (by omega), dif_pos h]
theorem tRoot_two {l : List By} (h : 2 ≤ l.length) : tRoot l =
    if (tRoot (l.take (halfN l.length))).2 ≠ 0 then ([], (tRoot (l.take (halfN l.length))).2)
    else if (tRoot (l.drop (halfN l.length))).2 ≠ 0 then ([], (tRoot (l.drop (halfN l.length))).2)
    else tNode (tRoot (l.take (halfN l.length))).1 (tRoot (l.drop (halfN l.length))).1 := by
  rw [tRoot, dif_neg (by omega), dif_neg (by omega)]

theorem tLeaf_len (s : By) : (tLeaf s).1.length ≤ 20001 := by unfold tLeaf; split <;> simp; omega

theorem tRoot_len (l : List By) : (tRoot l).1.length ≤ 40100 := by
  rcases Nat.lt_or_ge l.length 2 with h | h
  · by_cases h0 : l.length = 0
    · rw [tRoot_zero h0]; simp
    · rw [tRoot_one (by omega)]; have := tLeaf_len (l.headD []); omega
  · rw [tRoot_two h]
    split
    · simp
    · split
      · simp
      · exact tNode_len _ _
end Go.Gs

/- Contracts: the seal of a list, by the program and by the document; no condition. -/
import Derived.Test.YtfobijiffcfnkaaDoorZC1
namespace Go.Ab
open Go.Proofs Go.Gs
variable {G0 : Nat → Option Obj}

theorem map_get {l : List By} {i : Nat} {s : By} (h : l[i]? = some s) : (l.map S1)[i]? = some [AV.str s] := by rw [List.getElem?_map, h]; rfl

theorem good_Root (hG : GlobOk G0) : ∀ (m : Nat) (l : List By) (nl : Bool), l.length ≤ m → Good PG 3 G0 15 [.sl 1 nl none (l.map S1)] [] (.tup [.str (rootOf l).1, .int .i64 (rootOf l).2]) [] := by
  intro m
  induction m with
  | zero =>
    intro l nl hm
    refine good_of_run prOk (by kernel_rfl) (tree_Root_run nl _ G0 _ ?_)
    have h0 : l = [] := List.eq_nil_of_length_eq_zero (by omega)
    subst h0
    simp only [ifK_iff, decide_eq_true_eq, decide_eq_false_iff_not, List.map_nil, List.length_nil]
    refine ⟨fun h => by omega, fun _ => ⟨fun _ => ⟨_, good_None, ?_⟩, fun h => by simp at h⟩⟩
    simp [rootOf, tRoot_zero]
  | succ m ih =>
    intro l nl hm
    refine good_of_run prOk (by kernel_rfl) (tree_Root_run nl _ G0 _ ?_)
    simp only [ifK_iff, decide_eq_true_eq, decide_eq_false_iff_not, List.length_map, beq_iff_eq, beq_eq_false_iff_ne]
    refine ⟨fun h => ?_, fun h => ⟨fun h0 => ⟨_, good_None, ?_⟩, fun h0 => ⟨fun h1 => ⟨by omega, ?_⟩, fun h1 => ?_⟩⟩⟩
    · rw [rootOf, if_pos (by omega)]; exact ⟨rfl, trivial⟩
    · rw [rootOf, if_neg (by omega), tRoot_zero (by omega)]; exact ⟨rfl, trivial⟩
    · obtain ⟨s, hs⟩ : ∃ s, l = [s] := List.length_eq_one_iff.1 (by omega)
      subst hs
      refine ⟨s, rfl, _, _, good_Leaf s, ?_⟩
      rw [rootOf, if_neg (by omega), tRoot_one rfl]; exact ⟨rfl, trivial⟩
    · have h2 : 2 ≤ l.length := by omega
      have hk1 := halfN_pos l.length
      have hk2 := halfN_lt h2
      have e1 : List.drop 0 (List.take (Int.toNat (halfN l.length : Int)) (l.map S1)) = (l.take (halfN l.length)).map S1 := by simp
      have e2 : List.drop (Int.toNat (halfN l.length : Int)) (List.take (Int.toNat (l.length : Int)) (l.map S1)) = (l.drop (halfN l.length)).map S1 := by
        simp [List.take_of_length_le]
      have r1 : rootOf (l.take (halfN l.length)) = tRoot (l.take (halfN l.length)) := by rw [rootOf, if_neg (by simp only [List.length_take]; omega)]
      have r2 : rootOf (l.drop (halfN l.length)) = tRoot (l.drop (halfN l.length)) := by rw [rootOf, if_neg (by simp only [List.length_drop]; omega)]
      have r0 : rootOf l = tRoot l := by rw [rootOf, if_neg (by omega)]
      have g1 := ih (l.take (halfN l.length)) nl (by simp only [List.length_take]; omega)
      have g2 := ih (l.drop (halfN l.length)) nl (by simp only [List.length_drop]; omega)
      rw [r1] at g1
      rw [r2] at g2
      refine ⟨_, _, good_Half' l.length h2 (by omega), ?_⟩
      simp only [bne_self_eq_false, Bool.false_eq_true, false_implies, true_and, true_implies]
      refine ⟨by omega, by omega, by omega, _, _, by rw [e1]; exact g1, fun h3 => ?_, fun h3 => ⟨by omega, by omega, Int.le_refl _, _, _, by rw [e2]; exact g2, fun h4 => ?_, fun h4 => ⟨_, _, good_Node hG _ _, ?_⟩⟩⟩
      · have h3 : (tRoot (l.take (halfN l.length))).2 ≠ 0 := by simpa using h3
        rw [r0, tRoot_two h2, if_pos h3]; exact ⟨rfl, trivial⟩
      · have h3 : (tRoot (l.take (halfN l.length))).2 = 0 := by simpa using h3
        have h4 : (tRoot (l.drop (halfN l.length))).2 ≠ 0 := by simpa using h4
        rw [r0, tRoot_two h2, if_neg (by simpa using h3), if_pos h4]; exact ⟨rfl, trivial⟩
      · have h3 : (tRoot (l.take (halfN l.length))).2 = 0 := by simpa using h3
        have h4 : (tRoot (l.drop (halfN l.length))).2 = 0 := by simpa using h4
        rw [r0, tRoot_two h2, if_neg (by simpa using h3), if_neg (by simpa using h4)]; exact ⟨rfl, trivial⟩

theorem good_Root' (hG : GlobOk G0) (l : List By) (nl : Bool) : Good PG 3 G0 15 [.sl 1 nl none (l.map S1)] [] (.tup [.str (rootOf l).1, .int .i64 (rootOf l).2]) [] := good_Root hG _ l nl (Nat.le_refl _)

/-- The heap of the document's own answer: the list, the function that calls itself. -/
def rootH (nl : Bool) (l : List By) : List (Option Blk) := [some (.var [.sl 1 nl none (l.map S1)]), some (.var [.func 47 [.ref 0 0, .ref 1 0]])]

theorem good_RootOf1 (hG : GlobOk G0) (l : List By) (nl : Bool) (hl : l.length ≤ 24) : ∀ (m f t : Nat), f < t → t ≤ l.length → t - f ≤ m →
    Good PG 3 G0 47 [.int .i64 f, .int .i64 t, .ref 0 0, .ref 1 0] (rootH nl l) (.tup [.str (tRoot ((l.drop f).take (t - f))).1, .int .i64 (tRoot ((l.drop f).take (t - f))).2]) (rootH nl l) := by
  intro m
  induction m with
  | zero => intro f t h1 _ h2; omega
  | succ m ih =>
    intro f t hft htl hm
    have hsub : ((l.drop f).take (t - f)).length = t - f := by simp only [List.length_take, List.length_drop]; omega
    refine good_of_run prOk (by kernel_rfl) (greatsealref_RootOf_c1_run f t nl (l.map S1) G0 _ ?_)
    simp only [ifK_iff, beq_iff_eq, beq_eq_false_iff_ne]
    have hw : IntKind.i64.wrap ((t : Int) - f) = ((t - f : Nat) : Int) := by rw [wrap64 (by omega) (by omega)]; omega
    rw [hw]
    refine ⟨fun h1 => ⟨by omega, ?_⟩, fun h1 => ?_⟩
    · obtain ⟨s, hs⟩ : ∃ s, l[f]? = some s := ⟨_, List.getElem?_eq_getElem (by omega)⟩
      have hsub1 : (l.drop f).take (t - f) = [s] := by
        have : t - f = 1 := by omega
        rw [this, List.take_one, List.head?_drop, hs]; rfl
      refine ⟨s, by simpa using map_get hs, _, _, good_LeafOf s, ?_⟩
      rw [tRoot_one (by omega), hsub1]
      exact ⟨rfl, rfl⟩
    · have h2 : 2 ≤ t - f := by omega
      have hk1 := halfN_pos (t - f)
      have hk2 := halfN_lt h2
      have hw2 : IntKind.i64.wrap ((f : Int) + (halfN (t - f) : Nat)) = ((f + halfN (t - f) : Nat) : Int) := by rw [wrap64 (by omega) (by omega)]; omega
      have s1 : ((l.drop f).take (t - f)).take (halfN (t - f)) = (l.drop f).take (f + halfN (t - f) - f) := by
        rw [List.take_take]; congr 1; omega
      have s2 : ((l.drop f).take (t - f)).drop (halfN (t - f)) = (l.drop (f + halfN (t - f))).take (t - (f + halfN (t - f))) := by
        rw [List.drop_take, List.drop_drop]; congr 1; omega
      have g1 := ih f (f + halfN (t - f)) (by omega) (by omega) (by omega)
      have g2 := ih (f + halfN (t - f)) t (by omega) htl (by omega)
      rw [← s1] at g1
      rw [← s2] at g2
      have gh := good_HalfOf (G0 := G0) ((t - f : Nat) : Int) (by omega)
      rw [Int.toNat_natCast] at gh
      have hr := tRoot_two (l := (l.drop f).take (t - f)) (by rw [hsub]; exact h2)
      rw [hsub] at hr
      refine ⟨_, gh, ?_⟩
      rw [hw2]
      refine ⟨_, _, nl, l.map S1, g1, fun h3 => ?_, fun h3 => ⟨_, _, nl, l.map S1, g2, fun h4 => ?_, fun h4 => ⟨_, _, good_NodeOf hG _ _ (by have := tRoot_len (((l.drop f).take (t - f)).take (halfN (t - f))); omega) (by have := tRoot_len (((l.drop f).take (t - f)).drop (halfN (t - f))); omega), ?_⟩⟩⟩
      · have h3 : (tRoot (((l.drop f).take (t - f)).take (halfN (t - f)))).2 ≠ 0 := by simpa using h3
        rw [hr, if_pos h3]; exact ⟨rfl, rfl⟩
      · have h3 : (tRoot (((l.drop f).take (t - f)).take (halfN (t - f)))).2 = 0 := by simpa using h3
        have h4 : (tRoot (((l.drop f).take (t - f)).drop (halfN (t - f)))).2 ≠ 0 := by simpa using h4
        rw [hr, if_neg (by simpa using h3), if_pos h4]; exact ⟨rfl, rfl⟩
      · have h3 : (tRoot (((l.drop f).take (t - f)).take (halfN (t - f)))).2 = 0 := by simpa using h3
        have h4 : (tRoot (((l.drop f).take (t - f)).drop (halfN (t - f)))).2 = 0 := by simpa using h4
        rw [hr, if_neg (by simpa using h3), if_neg (by simpa using h4)]; exact ⟨rfl, rfl⟩

theorem good_RootOf (hG : GlobOk G0) (l : List By) (nl : Bool) : Good PG 3 G0 17 [.sl 1 nl none (l.map S1)] [] (.tup [.str (rootOf l).1, .int .i64 (rootOf l).2]) [] := by
  refine good_of_run prOk (by kernel_rfl) (greatsealref_RootOf_run nl _ G0 _ ?_)
  simp only [ifK_iff, decide_eq_true_eq, decide_eq_false_iff_not, List.length_map, beq_iff_eq, beq_eq_false_iff_ne]
  refine ⟨fun h => ?_, fun h => ⟨fun h0 => ?_, fun h0 => ?_⟩⟩
  · rw [rootOf, if_pos (by omega)]; exact ⟨rfl, trivial⟩
  · rw [rootOf, if_neg (by omega), tRoot_zero (by omega)]; exact ⟨rfl, trivial⟩
  · have g := good_RootOf1 hG l nl (by omega) l.length 0 l.length (by omega) (Nat.le_refl _) (by omega)
    have e : (l.drop 0).take (l.length - 0) = l := by simp
    rw [e] at g
    refine ⟨_, _, nl, l.map S1, g, ?_⟩
    rw [rootOf, if_neg (by omega)]; exact ⟨rfl, trivial⟩
end Go.Ab

/- What the proofs of these laws lean on (6): Spans around a place of a list, in plain words; Contracts: paths up a list; What the runs come to; Books: values told from behind; Contracts: books; Contracts: books' texts, values; Contracts: books put, heads; the closed fact; What the runs come to; Contracts: a book, as the document says: the law; What the runs come to; Contracts: heads checked, found; a book's beginnings: the law; What the runs come to; Contracts: more laws of what keys come to; Contracts: paths, the document's own answers; the closed fact; Contracts: paths, the document's own answers, whole; the closed fact; What the runs come to; Contracts: the laws of paths; What the runs come to; How a list goes on, by spans, in plain; no condition. -/
import Derived.Test.YtdolapjfihjmgaaDoorZAllE
namespace Go.Gs

/-- A part of a list. -/
def sub {α : Type} (l : List α) (f t : Nat) : List α := (l.take t).drop f

theorem sub_all {α : Type} (l : List α) : sub l 0 l.length = l := by simp [sub]
theorem sub_len {α : Type} {l : List α} {f t : Nat} (ht : t ≤ l.length) : (sub l f t).length = t - f := by
  simp only [sub, List.length_drop, List.length_take]; omega
theorem sub_take {α : Type} (l : List α) {f t k : Nat} (h : f + k ≤ t) : (sub l f t).take k = sub l f (f + k) := by
  unfold sub
  rw [List.take_drop, List.take_take, Nat.min_eq_left h]
theorem sub_drop {α : Type} (l : List α) (f t k : Nat) : (sub l f t).drop k = sub l (f + k) t := by
  unfold sub
  rw [List.drop_drop]

/-- Parts around a place, from above, ahead of the last one. -/
def spansF (f t i : Nat) : List (Nat × Nat) :=
  if _h : t - f ≤ 1 then [] else (f, t) :: (if i < f + halfN (t - f) then spansF f (f + halfN (t - f)) i else spansF (f + halfN (t - f)) t i)
  termination_by t - f
  decreasing_by
  all_goals
    have := halfN_pos (t - f)
    have := halfN_lt (n := t - f) (by omega)
    omega

theorem spansF_one {f t i : Nat} (h : t - f ≤ 1) : spansF f t i = [] := by rw [spansF, dif_pos h]
theorem spansF_two {f t i : Nat} (h : ¬ t - f ≤ 1) : spansF f t i = (f, t) :: (if i < f + halfN (t - f) then spansF f (f + halfN (t - f)) i else spansF (f + halfN (t - f)) t i) := by rw [spansF, dif_neg h]

theorem spansF_in : ∀ (n f t i : Nat), t - f ≤ n → ∀ p ∈ spansF f t i, f ≤ p.1 ∧ p.2 ≤ t ∧ 2 ≤ p.2 - p.1 := by
  intro n
  induction n with
  | zero => intro f t i h p hp; rw [spansF_one (by omega)] at hp; cases hp
  | succ n ih =>
    intro f t i h p hp
    by_cases h1 : t - f ≤ 1
    · rw [spansF_one h1] at hp; cases hp
    · have hk1 := halfN_pos (t - f)
      have hk2 := halfN_lt (n := t - f) (by omega)
      rw [spansF_two h1] at hp
      rcases List.mem_cons.1 hp with rfl | hp
      · exact ⟨Nat.le_refl _, Nat.le_refl _, by omega⟩
      · split at hp
        · have := ih f (f + halfN (t - f)) i (by omega) p hp; omega
        · have := ih (f + halfN (t - f)) t i (by omega) p hp; omega

/-- Where a part is parted; whether what stands beside stands left of a place; what stands beside. -/
def midOf (p : Nat × Nat) : Nat := p.1 + halfN (p.2 - p.1)
def sideOf (i : Nat) (p : Nat × Nat) : Bool := decide (midOf p ≤ i)
def besideOf (l : List By) (i : Nat) (p : Nat × Nat) : List By := if midOf p ≤ i then sub l p.1 (midOf p) else sub l (midOf p) p.2
def stepOf (l : List By) (i : Nat) (p : Nat × Nat) : Bool × By := (sideOf i p, (tRoot (besideOf l i p)).1)

theorem spans_turns : ∀ (n f t i : Nat), t - f ≤ n → f ≤ i → (spansF f t i).reverse.map (sideOf i) = turnsN (t - f) (i - f) := by
  intro n
  induction n with
  | zero => intro f t i h hi; rw [spansF_one (by omega), turnsN_one (by omega)]; rfl
  | succ n ih =>
    intro f t i h hi
    by_cases h1 : t - f ≤ 1
    · rw [spansF_one h1, turnsN_one h1]; rfl
    · have hk1 := halfN_pos (t - f)
      have hk2 := halfN_lt (n := t - f) (by omega)
      rw [spansF_two h1, turnsN_two (by omega), List.reverse_cons, List.map_append]
      by_cases hc : i < f + halfN (t - f)
      · rw [if_pos hc, if_pos (by omega), ih f _ i (by omega) hi]
        have e1 : f + halfN (t - f) - f = halfN (t - f) := by omega
        rw [e1]
        have e0 : sideOf i (f, t) = false := decide_eq_false (show ¬ midOf (f, t) ≤ i from Nat.not_le.2 hc)
        simp only [List.map_cons, List.map_nil, e0]
      · rw [if_neg hc, if_neg (by omega), ih _ t i (by omega) (by omega)]
        have e1 : t - (f + halfN (t - f)) = t - f - halfN (t - f) := by omega
        have e2 : i - (f + halfN (t - f)) = i - f - halfN (t - f) := by omega
        rw [e1, e2]
        have e0 : sideOf i (f, t) = true := decide_eq_true (show midOf (f, t) ≤ i from Nat.not_lt.1 hc)
        simp only [List.map_cons, List.map_nil, e0]

theorem spans_path (l : List By) : ∀ (n f t i : Nat), t - f ≤ n → f ≤ i → t ≤ l.length → (spansF f t i).reverse.map (stepOf l i) = pathOf (sub l f t) (i - f) := by
  intro n
  induction n with
  | zero => intro f t i h hi ht; rw [spansF_one (by omega), pathOf_one (by rw [sub_len ht]; omega)]; rfl
  | succ n ih =>
    intro f t i h hi ht
    by_cases h1 : t - f ≤ 1
    · rw [spansF_one h1, pathOf_one (by rw [sub_len ht]; exact h1)]; rfl
    · have hk1 := halfN_pos (t - f)
      have hk2 := halfN_lt (n := t - f) (by omega)
      have hl := sub_len (f := f) ht
      rw [spansF_two h1, pathOf_two (by omega), List.reverse_cons, List.map_append, hl, sub_take l (by omega), sub_drop]
      by_cases hc : i < f + halfN (t - f)
      · rw [if_pos hc, if_pos (by omega), ih f _ i (by omega) hi (by omega)]
        have e0 : sideOf i (f, t) = false := decide_eq_false (show ¬ midOf (f, t) ≤ i from Nat.not_le.2 hc)
        simp only [List.map_cons, List.map_nil, stepOf, e0, besideOf]
        rw [if_neg (show ¬ midOf (f, t) ≤ i from Nat.not_le.2 hc)]
        rfl
      · rw [if_neg hc, if_neg (by omega), ih _ t i (by omega) (by omega) ht]
        have e2 : i - (f + halfN (t - f)) = i - f - halfN (t - f) := by omega
        rw [e2]
        have e0 : sideOf i (f, t) = true := decide_eq_true (show midOf (f, t) ≤ i from Nat.not_lt.1 hc)
        simp only [List.map_cons, List.map_nil, stepOf, e0, besideOf]
        rw [if_pos (show midOf (f, t) ≤ i from Nat.not_lt.1 hc)]
        rfl

theorem tRoot_sub : ∀ (n : Nat) (l : List By) (f t i : Nat), t - f ≤ n → t ≤ l.length → (tRoot (sub l f t)).2 = 0 → ∀ p ∈ spansF f t i, (tRoot (besideOf l i p)).2 = 0 ∧ (tRoot (sub l p.1 (midOf p))).2 = 0 ∧ (tRoot (sub l (midOf p) p.2)).2 = 0 := by
  intro n
  induction n with
  | zero => intro l f t i h _ _ p hp; rw [spansF_one (by omega)] at hp; cases hp
  | succ n ih =>
    intro l f t i h ht hr p hp
    by_cases h1 : t - f ≤ 1
    · rw [spansF_one h1] at hp; cases hp
    · have hk1 := halfN_pos (t - f)
      have hk2 := halfN_lt (n := t - f) (by omega)
      have hl := sub_len (f := f) ht
      obtain ⟨r1, r2, _⟩ := tRoot_split hr (by omega)
      rw [hl, sub_take l (by omega)] at r1
      rw [hl, sub_drop] at r2
      rw [spansF_two h1] at hp
      rcases List.mem_cons.1 hp with rfl | hp
      · refine ⟨?_, r1, r2⟩
        unfold besideOf
        split
        · exact r1
        · exact r2
      · split at hp
        · exact ih l f _ i (by omega) (by omega) r1 p hp
        · exact ih l _ t i (by omega) ht r2 p hp

theorem spansF_len : ∀ (n f t i : Nat), t - f ≤ n → (spansF f t i).length ≤ t - f := by
  intro n
  induction n with
  | zero => intro f t i h; rw [spansF_one (by omega)]; simp
  | succ n ih =>
    intro f t i h
    by_cases h1 : t - f ≤ 1
    · rw [spansF_one h1]; simp
    · have hk1 := halfN_pos (t - f)
      have hk2 := halfN_lt (n := t - f) (by omega)
      rw [spansF_two h1, List.length_cons]
      split
      · have := ih f (f + halfN (t - f)) i (by omega); omega
      · have := ih (f + halfN (t - f)) t i (by omega); omega

/-- The path of a place, or what is wrong. -/
def rootOf2 (l : List By) : By × Int := rootOf l
def pathR (l : List By) (i : Int) : List (Bool × By) × Int := if (rootOf l).2 ≠ 0 then ([], (rootOf l).2) else if i < 0 ∨ l.length ≤ i then ([], 5) else (pathOf l i.toNat, 0)
end Go.Gs

namespace Go.Ab
open Go.Proofs Go.Gs
variable {G0 : Nat → Option Obj}

theorem getX {α : Type} {X : α → List AV} {l : List α} {i : Nat} (h : i < l.length) : (l.map X)[i]? = some (X l[i]) := by rw [List.getElem?_map, List.getElem?_eq_getElem h]; rfl

theorem wrapI {n : Int} (h0 : 0 ≤ n) (h1 : n ≤ 9223372036854775807) : IntKind.i64.wrap n = n := wrap64 (by omega) h1

/-- Lists held together, place by place. -/
theorem eq_gen {α : Type} [DecidableEq α] {D : Nat → Prop} {Q : Bool → Prop} (a b : List α) (hl : a.length = b.length)
    (hstep : ∀ i, (h : i < a.length) → (a[i] ≠ b[i] → Q false) → (a[i] = b[i] → D (i + 1)) → D i) (hend : Q true → D a.length) (hQ : Q (decide (a = b))) : D 0 := by
  have key : ∀ (m i : Nat), a.length - i ≤ m → i ≤ a.length → (∀ j, j < i → a[j]? = b[j]?) → D i := by
    intro m
    induction m with
    | zero =>
      intro i h1 h2 h3
      obtain rfl : i = a.length := by omega
      have : a = b := List.ext_getElem? fun j => by
        rcases Nat.lt_or_ge j a.length with hj | hj
        · exact h3 j hj
        · rw [List.getElem?_eq_none (by omega), List.getElem?_eq_none (by omega)]
      rw [decide_eq_true this] at hQ
      exact hend hQ
    | succ m ih =>
      intro i h1 h2 h3
      by_cases hi : i = a.length
      · exact ih i (by omega) h2 h3
      · refine hstep i (by omega) (fun h => ?_) fun h => ih (i + 1) (by omega) (by omega) fun j hj => ?_
        · have : a ≠ b := by
            intro e
            apply h
            have h5 := congrArg (fun l => l[i]?) e
            rw [List.getElem?_eq_getElem (by omega), List.getElem?_eq_getElem (by omega)] at h5
            exact Option.some.inj h5
          rw [decide_eq_false this] at hQ
          exact hQ
        · rcases Nat.lt_or_ge j i with hj2 | hj2
          · exact h3 j hj2
          · obtain rfl : j = i := by omega
            rw [List.getElem?_eq_getElem (by omega), List.getElem?_eq_getElem (by omega), h]
  exact key a.length 0 (by omega) (by omega) fun j hj => by omega

theorem rootOf_ok' {l : List By} (h : (rootOf l).2 = 0) : l.length ≤ 24 ∧ rootOf l = tRoot l := by
  unfold rootOf at h ⊢
  split
  · rename_i hc; rw [if_pos hc] at h; cases h
  · exact ⟨by omega, rfl⟩

end Go.Ab

namespace Go.Ab
open Go.Proofs
set_option maxRecDepth 100000

def an_book_Check : FAnn := ⟨[], [(0, [10, 11, 12], [])], none, []⟩
def an_book_Text : FAnn := ⟨[], [], none, []⟩
def an_book_Texts : FAnn := ⟨[], [(0, [3, 7, 8, 9], [3])], none, []⟩
def an_book_Values : FAnn := ⟨[], [(0, [5, 15, 16, 17], [])], none, []⟩
def an_book_Put : FAnn := ⟨[(4, 2, ⟨[], [0], []⟩)], [], none, []⟩
def an_book_Head : FAnn := ⟨[], [], none, []⟩
def an_slices_Clone_Entry : FAnn := ⟨[], [], some [2], []⟩
def an_slices_Equal_Entry : FAnn := ⟨[], [(0, [0, 1, 12, 13], [])], none, []⟩
def an_greatsealref_CheckBook : FAnn := ⟨[], [(0, [10, 11, 12], [])], none, []⟩
def an_greatsealref_TextOf : FAnn := ⟨[], [], none, []⟩
def an_greatsealref_TextsOf : FAnn := ⟨[], [(0, [3, 11, 12, 13], [])], none, []⟩
def an_greatsealref_ValuesOf : FAnn := ⟨[], [(0, [1, 3, 4], [])], none, []⟩
def an_greatsealref_HeadOf : FAnn := ⟨[], [], none, []⟩

theorem book_Check_run (nlb0_0 : Bool) (b0_0 : List (List AV)) (G0 : Nat → Option Go.Obj) (R : AV → List (Option Blk) → Prop) (h :
  ifK (decide ((↑(List.length b0_0) : Int) > (24 : Int))) (R (AV.int Go.IntKind.i64 (2 : Int)) [])
  (Does PG nG G0 (fnOf PG f_book_Check) (0 : Nat) (lp PG f_book_Check (0 : Nat))
    (mkT (29 : Nat) [((10 : Nat), AV.sl (2 : Nat) nlb0_0 none b0_0), ((11 : Nat), AV.int Go.IntKind.i64 (↑(List.length b0_0) : Int)), ((12 : Nat), AV.int Go.IntKind.i64 (0 : Int))]) [] R)) :
  Hold (runF PG ty nG G0 an_book_Check f_book_Check [AV.agg [AV.sl (2 : Nat) nlb0_0 none b0_0]] [] R) := kshow h (by kernel_rfl)

theorem book_Check_l0_run (G0 : Nat → Option Obj) (b0 : Bool) (xs1 : List (List AV)) (n2 : Int) (n3 : Int) (R : AV → List (Option Blk) → Prop) (h :
  ifK (decide (n3 < n2))
  ((0 : Int) ≤ n3 ∧
    ∃ n4 s5,
      xs1[Int.toNat n3]? = some [AV.int Go.IntKind.i64 n4, AV.str s5] ∧
        ifK (decide (n4 < (0 : Int))) (R (AV.int Go.IntKind.i64 (5 : Int)) [])
          (ifK (decide (n4 ≥ (16 : Int))) (R (AV.int Go.IntKind.i64 (5 : Int)) [])
            (ifK (decide ((↑(List.length s5) : Int) > (12 : Int))) (R (AV.int Go.IntKind.i64 (2 : Int)) [])
              (Does PG nG G0 (fnOf PG f_book_Check) (0 : Nat) (lp PG f_book_Check (0 : Nat))
                (mkT (29 : Nat) [((10 : Nat), AV.sl (2 : Nat) b0 none xs1), ((11 : Nat), AV.int Go.IntKind.i64 n2), ((12 : Nat), AV.int Go.IntKind.i64 (Go.IntKind.wrap Go.IntKind.i64 (n3 + (1 : Int))))]) [] R))))
  (R (AV.int Go.IntKind.i64 (0 : Int)) [])) :
  Hold (runL PG ty nG G0 an_book_Check f_book_Check (0 : Nat) (0 : Nat) (mkT (29 : Nat) [((10 : Nat), AV.sl (2 : Nat) b0 none xs1), ((11 : Nat), AV.int Go.IntKind.i64 n2), ((12 : Nat), AV.int Go.IntKind.i64 n3)]) [] R) := kshow h (by kernel_rfl)

theorem book_Text_run (e0_0 : Int) (e0_1 : List UInt8) (G0 : Nat → Option Go.Obj) (R : AV → List (Option Blk) → Prop) (h :
  ∃ s0,
  Good PG nG G0 f_strconv_Itoa [AV.int Go.IntKind.i64 e0_0] [] (AV.str s0) [] ∧
    List.length s0 + (1 : Nat) ≤ (9223372036854775807 : Nat) ∧ List.length (s0 ++ [(32 : UInt8)]) + List.length e0_1 ≤ (9223372036854775807 : Nat) ∧ R (AV.str (s0 ++ [(32 : UInt8)] ++ e0_1)) []) :
  Hold (runF PG ty nG G0 an_book_Text f_book_Text [AV.agg [AV.int Go.IntKind.i64 e0_0, AV.str e0_1]] [] R) := kshow h (by kernel_rfl)

theorem book_Texts_run (nlb0_0 : Bool) (b0_0 : List (List AV)) (G0 : Nat → Option Go.Obj) (R : AV → List (Option Blk) → Prop) (h :
  Does PG nG G0 (fnOf PG f_book_Texts) (0 : Nat) (lp PG f_book_Texts (0 : Nat))
  (mkT (20 : Nat) [((3 : Nat), AV.sl (1 : Nat) true (some (0 : Nat)) []), ((7 : Nat), AV.sl (2 : Nat) nlb0_0 none b0_0), ((8 : Nat), AV.int Go.IntKind.i64 (↑(List.length b0_0) : Int)), ((9 : Nat), AV.int Go.IntKind.i64 (0 : Int))])
  [some (Blk.grow (1 : Nat) (0 : Nat))] R) :
  Hold (runF PG ty nG G0 an_book_Texts f_book_Texts [AV.agg [AV.sl (2 : Nat) nlb0_0 none b0_0]] [] R) := kshow h (by kernel_rfl)

theorem book_Texts_l0_run (G0 : Nat → Option Obj) (b0 : Bool) (xs1 : List (List AV)) (b2 : Bool) (xs3 : List (List AV)) (n4 : Int) (n5 : Int) (m6 : Nat) (R : AV → List (Option Blk) → Prop) (h :
  ifK (decide (n5 < n4))
  ((0 : Int) ≤ n5 ∧
    ∃ n7 s8,
      xs3[Int.toNat n5]? = some [AV.int Go.IntKind.i64 n7, AV.str s8] ∧
        ∃ s9,
          Good PG nG G0 f_book_Text [AV.agg [AV.int Go.IntKind.i64 n7, AV.str s8]] [] (AV.str s9) [] ∧
            (List.length xs1 + List.length [[AV.str s9]]) * (16 : Nat) ≤ (140737488355328 : Nat) ∧
              List.length xs1 = m6 ∧
                Does PG nG G0 (fnOf PG f_book_Texts) (0 : Nat) (lp PG f_book_Texts (0 : Nat))
                  (mkT (20 : Nat)
                    [((3 : Nat), AV.sl (1 : Nat) (b0 && List.isEmpty [[AV.str s9]]) (some (0 : Nat)) (xs1 ++ [[AV.str s9]])), ((7 : Nat), AV.sl (2 : Nat) b2 none xs3), ((8 : Nat), AV.int Go.IntKind.i64 n4),
                      ((9 : Nat), AV.int Go.IntKind.i64 (Go.IntKind.wrap Go.IntKind.i64 (n5 + (1 : Int))))])
                  [some (Blk.grow (1 : Nat) (m6 + List.length [[AV.str s9]]))] R)
  (R (AV.sl (1 : Nat) b0 none xs1) [])) :
  Hold (runL PG ty nG G0 an_book_Texts f_book_Texts (0 : Nat) (0 : Nat)
  (mkT (20 : Nat) [((3 : Nat), AV.sl (1 : Nat) b0 (some (0 : Nat)) xs1), ((7 : Nat), AV.sl (2 : Nat) b2 none xs3), ((8 : Nat), AV.int Go.IntKind.i64 n4), ((9 : Nat), AV.int Go.IntKind.i64 n5)]) [some (Blk.grow (1 : Nat) m6)] R) := kshow h (by kernel_rfl)

theorem book_Values_run (nlb0_0 : Bool) (b0_0 : List (List AV)) (G0 : Nat → Option Go.Obj) (R : AV → List (Option Blk) → Prop) (h :
  ∃ n0,
  Good PG nG G0 f_book_Check [AV.agg [AV.sl (2 : Nat) nlb0_0 none b0_0]] [] (AV.int Go.IntKind.i64 n0) [] ∧
    ifK (n0 != (0 : Int)) (R (AV.tup [AV.mp true [], AV.int Go.IntKind.i64 n0]) [])
      (Does PG nG G0 (fnOf PG f_book_Values) (0 : Nat) (lp PG f_book_Values (0 : Nat))
        (mkT (28 : Nat) [((5 : Nat), AV.rmp (0 : Nat)), ((15 : Nat), AV.sl (2 : Nat) nlb0_0 none b0_0), ((16 : Nat), AV.int Go.IntKind.i64 (↑(List.length b0_0) : Int)), ((17 : Nat), AV.int Go.IntKind.i64 (0 : Int))]) [some (Blk.mp [])] R)) :
  Hold (runF PG ty nG G0 an_book_Values f_book_Values [AV.agg [AV.sl (2 : Nat) nlb0_0 none b0_0]] [] R) := kshow h (by kernel_rfl)

theorem book_Values_l0_run (G0 : Nat → Option Obj) (b1 : Bool) (xs2 : List (List AV)) (n3 : Int) (n4 : Int) (es5 : List (AV × AV)) (R : AV → List (Option Blk) → Prop) (h :
  ifK (decide (n4 < n3))
  ((0 : Int) ≤ n4 ∧
    ∃ n6 s7,
      xs2[Int.toNat n4]? = some [AV.int Go.IntKind.i64 n6, AV.str s7] ∧
        ∃ xs8,
          mupd Go.IntKind.i64 n6 (AV.str s7) es5 = some xs8 ∧
            Does PG nG G0 (fnOf PG f_book_Values) (0 : Nat) (lp PG f_book_Values (0 : Nat))
              (mkT (28 : Nat) [((5 : Nat), AV.rmp (0 : Nat)), ((15 : Nat), AV.sl (2 : Nat) b1 none xs2), ((16 : Nat), AV.int Go.IntKind.i64 n3), ((17 : Nat), AV.int Go.IntKind.i64 (Go.IntKind.wrap Go.IntKind.i64 (n4 + (1 : Int))))])
              [some (Blk.mp xs8)] R)
  (R (AV.tup [AV.mp false es5, AV.int Go.IntKind.i64 (0 : Int)]) [])) :
  Hold (runL PG ty nG G0 an_book_Values f_book_Values (0 : Nat) (0 : Nat)
  (mkT (28 : Nat) [((5 : Nat), AV.rmp (0 : Nat)), ((15 : Nat), AV.sl (2 : Nat) b1 none xs2), ((16 : Nat), AV.int Go.IntKind.i64 n3), ((17 : Nat), AV.int Go.IntKind.i64 n4)]) [some (Blk.mp es5)] R) := kshow h (by kernel_rfl)

theorem book_Put_run (nlb0_0 : Bool) (b0_0 : List (List AV)) (e1_0 : Int) (e1_1 : List UInt8) (G0 : Nat → Option Go.Obj) (R : AV → List (Option Blk) → Prop) (h :
  ∃ n0,
  Good PG nG G0 f_book_Check [AV.agg [AV.sl (2 : Nat) nlb0_0 none b0_0]] [] (AV.int Go.IntKind.i64 n0) [] ∧
    ifK (n0 != (0 : Int)) (R (AV.tup [AV.agg [AV.sl (2 : Nat) true none []], AV.int Go.IntKind.i64 n0]) [])
      (∃ b1 xs2,
        Good PG nG G0 f_slices_Clone_Entry [AV.sl (2 : Nat) nlb0_0 none b0_0] [] (AV.sl (2 : Nat) b1 (some (0 : Nat)) xs2) [some (Blk.grow (2 : Nat) (List.length xs2))] ∧
          (List.length xs2 + List.length [[AV.int Go.IntKind.i64 e1_0, AV.str e1_1]]) * (24 : Nat) ≤ (140737488355328 : Nat) ∧
            List.length xs2 = List.length xs2 ∧
              ∃ n3,
                Good PG nG G0 f_book_Check [AV.agg [AV.sl (2 : Nat) (b1 && List.isEmpty [[AV.int Go.IntKind.i64 e1_0, AV.str e1_1]]) none (xs2 ++ [[AV.int Go.IntKind.i64 e1_0, AV.str e1_1]])]] [] (AV.int Go.IntKind.i64 n3) [] ∧
                  ifK (n3 != (0 : Int)) (R (AV.tup [AV.agg [AV.sl (2 : Nat) true none []], AV.int Go.IntKind.i64 n3]) [])
                    (R (AV.tup [AV.agg [AV.sl (2 : Nat) (b1 && List.isEmpty [[AV.int Go.IntKind.i64 e1_0, AV.str e1_1]]) none (xs2 ++ [[AV.int Go.IntKind.i64 e1_0, AV.str e1_1]])], AV.int Go.IntKind.i64 (0 : Int)]) []))) :
  Hold (runF PG ty nG G0 an_book_Put f_book_Put [AV.agg [AV.sl (2 : Nat) nlb0_0 none b0_0], AV.agg [AV.int Go.IntKind.i64 e1_0, AV.str e1_1]] [] R) := kshow h (by kernel_rfl)

theorem book_Head_run (nlb0_0 : Bool) (b0_0 : List (List AV)) (G0 : Nat → Option Go.Obj) (R : AV → List (Option Blk) → Prop) (h :
  ∃ b0 xs1 n2,
  Good PG nG G0 f_book_Values [AV.agg [AV.sl (2 : Nat) nlb0_0 none b0_0]] [] (AV.tup [AV.mp b0 xs1, AV.int Go.IntKind.i64 n2]) [] ∧
    ifK (n2 != (0 : Int)) (R (AV.tup [AV.agg [AV.int Go.IntKind.i64 (0 : Int), AV.str [], AV.str []], AV.int Go.IntKind.i64 n2]) [])
      (∃ b3 xs4,
        Good PG nG G0 f_book_Texts [AV.agg [AV.sl (2 : Nat) nlb0_0 none b0_0]] [] (AV.sl (1 : Nat) b3 none xs4) [] ∧
          ∃ s5 n6,
            Good PG nG G0 f_tree_Root [AV.sl (1 : Nat) b3 none xs4] [] (AV.tup [AV.str s5, AV.int Go.IntKind.i64 n6]) [] ∧
              ifK (n6 != (0 : Int)) (R (AV.tup [AV.agg [AV.int Go.IntKind.i64 (0 : Int), AV.str [], AV.str []], AV.int Go.IntKind.i64 n6]) [])
                (∃ s7 n8,
                  Good PG nG G0 f_trie_Root [AV.mp b0 xs1] [] (AV.tup [AV.str s7, AV.int Go.IntKind.i64 n8]) [] ∧
                    ifK (n8 != (0 : Int)) (R (AV.tup [AV.agg [AV.int Go.IntKind.i64 (0 : Int), AV.str [], AV.str []], AV.int Go.IntKind.i64 n8]) [])
                      (R (AV.tup [AV.agg [AV.int Go.IntKind.i64 (↑(List.length b0_0) : Int), AV.str s5, AV.str s7], AV.int Go.IntKind.i64 (0 : Int)]) [])))) :
  Hold (runF PG ty nG G0 an_book_Head f_book_Head [AV.agg [AV.sl (2 : Nat) nlb0_0 none b0_0]] [] R) := kshow h (by kernel_rfl)

theorem slices_Clone_Entry_run (nls0 : Bool) (s0 : List (List AV)) (G0 : Nat → Option Go.Obj) (R : AV → List (Option Blk) → Prop) (h :
  ifK nls0 (R (AV.sl (2 : Nat) true (some (0 : Nat)) []) [some (Blk.grow (2 : Nat) (0 : Nat))])
  (((0 : Nat) + List.length s0) * (24 : Nat) ≤ (140737488355328 : Nat) ∧ (0 : Nat) = (0 : Nat) ∧ R (AV.sl (2 : Nat) (false && List.isEmpty s0) (some (0 : Nat)) ([] ++ s0)) [some (Blk.grow (2 : Nat) ((0 : Nat) + List.length s0))])) :
  Hold (runF PG ty nG G0 an_slices_Clone_Entry f_slices_Clone_Entry [AV.sl (2 : Nat) nls0 none s0] [] R) := kshow h (by kernel_rfl)

theorem slices_Equal_Entry_run (nls10 : Bool) (s10 : List (List AV)) (nls21 : Bool) (s21 : List (List AV)) (G0 : Nat → Option Go.Obj) (R : AV → List (Option Blk) → Prop) (h :
  ifK ((↑(List.length s10) : Int) != (↑(List.length s21) : Int)) (R (AV.bool false) [])
  (Does PG nG G0 (fnOf PG f_slices_Equal_Entry) (0 : Nat) (lp PG f_slices_Equal_Entry (0 : Nat))
    (mkT (26 : Nat) [((0 : Nat), AV.sl (2 : Nat) nls10 none s10), ((1 : Nat), AV.sl (2 : Nat) nls21 none s21), ((12 : Nat), AV.int Go.IntKind.i64 (↑(List.length s10) : Int)), ((13 : Nat), AV.int Go.IntKind.i64 (0 : Int))]) [] R)) :
  Hold (runF PG ty nG G0 an_slices_Equal_Entry f_slices_Equal_Entry [AV.sl (2 : Nat) nls10 none s10, AV.sl (2 : Nat) nls21 none s21] [] R) := kshow h (by kernel_rfl)

theorem slices_Equal_Entry_l0_run (G0 : Nat → Option Obj) (b0 : Bool) (xs1 : List (List AV)) (b2 : Bool) (xs3 : List (List AV)) (n4 : Int) (n5 : Int) (R : AV → List (Option Blk) → Prop) (h :
  ifK (decide (n5 < n4))
  ((0 : Int) ≤ n5 ∧
    ∃ n6 s7,
      xs1[Int.toNat n5]? = some [AV.int Go.IntKind.i64 n6, AV.str s7] ∧
        (0 : Int) ≤ n5 ∧
          ∃ n8 s9,
            xs3[Int.toNat n5]? = some [AV.int Go.IntKind.i64 n8, AV.str s9] ∧
              ifK (!eqAll [AV.int Go.IntKind.i64 n6, AV.str s7] [AV.int Go.IntKind.i64 n8, AV.str s9]) (R (AV.bool false) [])
                (Does PG nG G0 (fnOf PG f_slices_Equal_Entry) (0 : Nat) (lp PG f_slices_Equal_Entry (0 : Nat))
                  (mkT (26 : Nat)
                    [((0 : Nat), AV.sl (2 : Nat) b0 none xs1), ((1 : Nat), AV.sl (2 : Nat) b2 none xs3), ((12 : Nat), AV.int Go.IntKind.i64 n4), ((13 : Nat), AV.int Go.IntKind.i64 (Go.IntKind.wrap Go.IntKind.i64 (n5 + (1 : Int))))])
                  [] R))
  (R (AV.bool true) [])) :
  Hold (runL PG ty nG G0 an_slices_Equal_Entry f_slices_Equal_Entry (0 : Nat) (0 : Nat)
  (mkT (26 : Nat) [((0 : Nat), AV.sl (2 : Nat) b0 none xs1), ((1 : Nat), AV.sl (2 : Nat) b2 none xs3), ((12 : Nat), AV.int Go.IntKind.i64 n4), ((13 : Nat), AV.int Go.IntKind.i64 n5)]) [] R) := kshow h (by kernel_rfl)

theorem greatsealref_CheckBook_run (nlb0_0 : Bool) (b0_0 : List (List AV)) (G0 : Nat → Option Go.Obj) (R : AV → List (Option Blk) → Prop) (h :
  ifK (decide ((↑(List.length b0_0) : Int) > (24 : Int))) (R (AV.int Go.IntKind.i64 (2 : Int)) [])
  (Does PG nG G0 (fnOf PG f_greatsealref_CheckBook) (0 : Nat) (lp PG f_greatsealref_CheckBook (0 : Nat))
    (mkT (27 : Nat) [((10 : Nat), AV.sl (2 : Nat) nlb0_0 none b0_0), ((11 : Nat), AV.int Go.IntKind.i64 (↑(List.length b0_0) : Int)), ((12 : Nat), AV.int Go.IntKind.i64 (0 : Int))]) [] R)) :
  Hold (runF PG ty nG G0 an_greatsealref_CheckBook f_greatsealref_CheckBook [AV.agg [AV.sl (2 : Nat) nlb0_0 none b0_0]] [] R) := kshow h (by kernel_rfl)

theorem greatsealref_CheckBook_l0_run (G0 : Nat → Option Obj) (b0 : Bool) (xs1 : List (List AV)) (n2 : Int) (n3 : Int) (R : AV → List (Option Blk) → Prop) (h :
  ifK (decide (n3 < n2))
  ((0 : Int) ≤ n3 ∧
    ∃ n4 s5,
      xs1[Int.toNat n3]? = some [AV.int Go.IntKind.i64 n4, AV.str s5] ∧
        ∃ b6,
          Good PG nG G0 f_greatsealref_in [AV.int Go.IntKind.i64 n4, AV.int Go.IntKind.i64 (0 : Int), AV.int Go.IntKind.i64 (15 : Int)] [] (AV.bool b6) [] ∧
            ifK (!b6) (R (AV.int Go.IntKind.i64 (5 : Int)) [])
              (ifK (decide ((↑(List.length s5) : Int) > (12 : Int))) (R (AV.int Go.IntKind.i64 (2 : Int)) [])
                (Does PG nG G0 (fnOf PG f_greatsealref_CheckBook) (0 : Nat) (lp PG f_greatsealref_CheckBook (0 : Nat))
                  (mkT (27 : Nat) [((10 : Nat), AV.sl (2 : Nat) b0 none xs1), ((11 : Nat), AV.int Go.IntKind.i64 n2), ((12 : Nat), AV.int Go.IntKind.i64 (Go.IntKind.wrap Go.IntKind.i64 (n3 + (1 : Int))))]) [] R)))
  (R (AV.int Go.IntKind.i64 (0 : Int)) [])) :
  Hold (runL PG ty nG G0 an_greatsealref_CheckBook f_greatsealref_CheckBook (0 : Nat) (0 : Nat) (mkT (27 : Nat) [((10 : Nat), AV.sl (2 : Nat) b0 none xs1), ((11 : Nat), AV.int Go.IntKind.i64 n2), ((12 : Nat), AV.int Go.IntKind.i64 n3)]) [] R) := kshow h (by kernel_rfl)

theorem greatsealref_TextOf_run (e0_0 : Int) (e0_1 : List UInt8) (G0 : Nat → Option Go.Obj) (R : AV → List (Option Blk) → Prop) (h :
  ∃ s0,
  Good PG nG G0 f_strconv_Itoa [AV.int Go.IntKind.i64 e0_0] [] (AV.str s0) [] ∧
    List.length s0 + (1 : Nat) ≤ (9223372036854775807 : Nat) ∧ List.length (s0 ++ [(32 : UInt8)]) + List.length e0_1 ≤ (9223372036854775807 : Nat) ∧ R (AV.str (s0 ++ [(32 : UInt8)] ++ e0_1)) []) :
  Hold (runF PG ty nG G0 an_greatsealref_TextOf f_greatsealref_TextOf [AV.agg [AV.int Go.IntKind.i64 e0_0, AV.str e0_1]] [] R) := kshow h (by kernel_rfl)

theorem greatsealref_TextsOf_run (nlb0_0 : Bool) (b0_0 : List (List AV)) (G0 : Nat → Option Go.Obj) (R : AV → List (Option Blk) → Prop) (h :
  (↑(List.length b0_0) : Int) = (↑(List.length b0_0) : Int) ∧
  (0 : Int) ≤ (↑(List.length b0_0) : Int) ∧
    (16 : Int) * (↑(List.length b0_0) : Int) ≤ (281474976710656 : Int) ∧
      (↑(List.length b0_0) : Int) ≤ (9223372036854775807 : Int) ∧
        Does PG nG G0 (fnOf PG f_greatsealref_TextsOf) (0 : Nat) (lp PG f_greatsealref_TextsOf (0 : Nat))
          (mkT (25 : Nat)
            [((3 : Nat), AV.rsl (1 : Nat) (0 : Nat) (0 : Nat) (Int.toNat (↑(List.length b0_0) : Int))), ((11 : Nat), AV.sl (2 : Nat) nlb0_0 none b0_0), ((12 : Nat), AV.int Go.IntKind.i64 (↑(List.length b0_0) : Int)),
              ((13 : Nat), AV.int Go.IntKind.i64 (0 : Int))])
          [some (Blk.arr (1 : Nat) (List.replicate (Int.toNat (↑(List.length b0_0) : Int)) [AV.str []]))] R) :
  Hold (runF PG ty nG G0 an_greatsealref_TextsOf f_greatsealref_TextsOf [AV.agg [AV.sl (2 : Nat) nlb0_0 none b0_0]] [] R) := kshow h (by kernel_rfl)

theorem greatsealref_TextsOf_l0_run (G0 : Nat → Option Obj) (m0 : Nat) (m1 : Nat) (b2 : Bool) (xs3 : List (List AV)) (n4 : Int) (n5 : Int) (xs6 : List (List AV)) (R : AV → List (Option Blk) → Prop) (h :
  ifK (decide (n5 < n4))
  ((0 : Int) ≤ n5 ∧
    ∃ n7 s8,
      xs3[Int.toNat n5]? = some [AV.int Go.IntKind.i64 n7, AV.str s8] ∧
        ∃ s9,
          Good PG nG G0 f_greatsealref_TextOf [AV.agg [AV.int Go.IntKind.i64 n7, AV.str s8]] [] (AV.str s9) [] ∧
            (0 : Int) ≤ n5 ∧
              n5 < (↑m1 : Int) ∧
                Does PG nG G0 (fnOf PG f_greatsealref_TextsOf) (0 : Nat) (lp PG f_greatsealref_TextsOf (0 : Nat))
                  (mkT (25 : Nat)
                    [((3 : Nat), AV.rsl (1 : Nat) (0 : Nat) m0 m1), ((11 : Nat), AV.sl (2 : Nat) b2 none xs3), ((12 : Nat), AV.int Go.IntKind.i64 n4), ((13 : Nat), AV.int Go.IntKind.i64 (Go.IntKind.wrap Go.IntKind.i64 (n5 + (1 : Int))))])
                  [some (Blk.arr (1 : Nat) (List.set xs6 (m0 + Int.toNat n5) (setR (List.getD xs6 (m0 + Int.toNat n5) []) (0 : Nat) [AV.str s9])))] R)
  (R (AV.sl (1 : Nat) false none (List.take m1 (List.drop m0 xs6))) [])) :
  Hold (runL PG ty nG G0 an_greatsealref_TextsOf f_greatsealref_TextsOf (0 : Nat) (0 : Nat)
  (mkT (25 : Nat) [((3 : Nat), AV.rsl (1 : Nat) (0 : Nat) m0 m1), ((11 : Nat), AV.sl (2 : Nat) b2 none xs3), ((12 : Nat), AV.int Go.IntKind.i64 n4), ((13 : Nat), AV.int Go.IntKind.i64 n5)]) [some (Blk.arr (1 : Nat) xs6)] R) := kshow h (by kernel_rfl)

theorem greatsealref_ValuesOf_run (nlb0_0 : Bool) (b0_0 : List (List AV)) (G0 : Nat → Option Go.Obj) (R : AV → List (Option Blk) → Prop) (h :
  Does PG nG G0 (fnOf PG f_greatsealref_ValuesOf) (0 : Nat) (lp PG f_greatsealref_ValuesOf (0 : Nat))
  (mkT (43 : Nat) [((1 : Nat), AV.ref (0 : Nat) (0 : Nat)), ((3 : Nat), AV.rmp (1 : Nat)), ((4 : Nat), AV.int Go.IntKind.i64 (Go.IntKind.wrap Go.IntKind.i64 ((↑(List.length b0_0) : Int) - (1 : Int))))])
  [some (Blk.var [AV.sl (2 : Nat) nlb0_0 none b0_0]), some (Blk.mp [])] R) :
  Hold (runF PG ty nG G0 an_greatsealref_ValuesOf f_greatsealref_ValuesOf [AV.agg [AV.sl (2 : Nat) nlb0_0 none b0_0]] [] R) := kshow h (by kernel_rfl)

theorem greatsealref_ValuesOf_l0_run (G0 : Nat → Option Obj) (n0 : Int) (b1 : Bool) (xs2 : List (List AV)) (es3 : List (AV × AV)) (R : AV → List (Option Blk) → Prop) (h :
  ifK (decide (n0 ≥ (0 : Int)))
  ((0 : Int) ≤ n0 ∧
    ∃ n4 s5,
      xs2[Int.toNat n0]? = some [AV.int Go.IntKind.i64 n4, AV.str s5] ∧
        ∃ s6 b7,
          mlookD Go.IntKind.i64 n4 (AV.str []) es3 = some (AV.str s6, b7) ∧
            ifK (!b7)
              ((0 : Int) ≤ n0 ∧
                ∃ n8 s9,
                  xs2[Int.toNat n0]? = some [AV.int Go.IntKind.i64 n8, AV.str s9] ∧
                    (0 : Int) ≤ n0 ∧
                      ∃ n10 s11,
                        xs2[Int.toNat n0]? = some [AV.int Go.IntKind.i64 n10, AV.str s11] ∧
                          ∃ xs12,
                            mupd Go.IntKind.i64 n8 (AV.str s11) es3 = some xs12 ∧
                              Does PG nG G0 (fnOf PG f_greatsealref_ValuesOf) (0 : Nat) (lp PG f_greatsealref_ValuesOf (0 : Nat))
                                (mkT (43 : Nat) [((1 : Nat), AV.ref (0 : Nat) (0 : Nat)), ((3 : Nat), AV.rmp (1 : Nat)), ((4 : Nat), AV.int Go.IntKind.i64 (Go.IntKind.wrap Go.IntKind.i64 (n0 - (1 : Int))))])
                                [some (Blk.var [AV.sl (2 : Nat) b1 none xs2]), some (Blk.mp xs12)] R)
              (Does PG nG G0 (fnOf PG f_greatsealref_ValuesOf) (0 : Nat) (lp PG f_greatsealref_ValuesOf (0 : Nat))
                (mkT (43 : Nat) [((1 : Nat), AV.ref (0 : Nat) (0 : Nat)), ((3 : Nat), AV.rmp (1 : Nat)), ((4 : Nat), AV.int Go.IntKind.i64 (Go.IntKind.wrap Go.IntKind.i64 (n0 - (1 : Int))))])
                [some (Blk.var [AV.sl (2 : Nat) b1 none xs2]), some (Blk.mp es3)] R))
  (R (AV.mp false es3) [])) :
  Hold (runL PG ty nG G0 an_greatsealref_ValuesOf f_greatsealref_ValuesOf (0 : Nat) (0 : Nat) (mkT (43 : Nat) [((1 : Nat), AV.ref (0 : Nat) (0 : Nat)), ((3 : Nat), AV.rmp (1 : Nat)), ((4 : Nat), AV.int Go.IntKind.i64 n0)])
  [some (Blk.var [AV.sl (2 : Nat) b1 none xs2]), some (Blk.mp es3)] R) := kshow h (by kernel_rfl)

theorem greatsealref_HeadOf_run (nlb0_0 : Bool) (b0_0 : List (List AV)) (G0 : Nat → Option Go.Obj) (R : AV → List (Option Blk) → Prop) (h :
  ∃ n0,
  Good PG nG G0 f_greatsealref_CheckBook [AV.agg [AV.sl (2 : Nat) nlb0_0 none b0_0]] [] (AV.int Go.IntKind.i64 n0) [] ∧
    ifK (n0 != (0 : Int)) (R (AV.tup [AV.agg [AV.int Go.IntKind.i64 (0 : Int), AV.str [], AV.str []], AV.int Go.IntKind.i64 n0]) [])
      (∃ b1 xs2,
        Good PG nG G0 f_greatsealref_TextsOf [AV.agg [AV.sl (2 : Nat) nlb0_0 none b0_0]] [] (AV.sl (1 : Nat) b1 none xs2) [] ∧
          ∃ s3 n4,
            Good PG nG G0 f_greatsealref_RootOf [AV.sl (1 : Nat) b1 none xs2] [] (AV.tup [AV.str s3, AV.int Go.IntKind.i64 n4]) [] ∧
              ∃ b5 xs6,
                Good PG nG G0 f_greatsealref_ValuesOf [AV.agg [AV.sl (2 : Nat) nlb0_0 none b0_0]] [] (AV.mp b5 xs6) [] ∧
                  ∃ b7 xs8,
                    Good PG nG G0 f_greatsealref_MapRoots [AV.mp b5 xs6] [] (AV.sl (1 : Nat) b7 none xs8) [] ∧
                      (0 : Int) ≤ (4 : Int) ∧
                        ∃ b9 xs10,
                          xs8[(4 : Nat)]? = some [AV.sl (1 : Nat) b9 none xs10] ∧
                            (0 : Int) ≤ (0 : Int) ∧ ∃ s11, xs10[(0 : Nat)]? = some [AV.str s11] ∧ R (AV.tup [AV.agg [AV.int Go.IntKind.i64 (↑(List.length b0_0) : Int), AV.str s3, AV.str s11], AV.int Go.IntKind.i64 (0 : Int)]) [])) :
  Hold (runF PG ty nG G0 an_greatsealref_HeadOf f_greatsealref_HeadOf [AV.agg [AV.sl (2 : Nat) nlb0_0 none b0_0]] [] R) := kshow h (by kernel_rfl)

end Go.Ab

namespace Go.Gs

/-- The last value of a key. -/
def lastG : Bk → Int → Option By
  | [], _ => none
  | e :: r, k => match lastG r k with
    | some v => some v
    | none => if k = e.1 then some e.2 else none

/-- Values, told from behind. -/
def valsRev : Bk → Mp
  | [] => []
  | e :: r => if (mGet (valsRev r) e.1).isSome then valsRev r else mPut (valsRev r) e.1 e.2

theorem valsRev_get (b : Bk) (k : Int) : mGet (valsRev b) k = lastG b k := by
  induction b with
  | nil => rfl
  | cons e r ih =>
    unfold valsRev lastG
    split
    · rename_i h
      rw [ih]
      cases hl : lastG r k with
      | some v => rfl
      | none =>
        simp only
        rw [if_neg]
        rintro rfl
        rw [ih, hl] at h
        cases h
    · rename_i h
      rw [mGet_put, ih]
      split
      · rename_i h1
        subst h1
        have : lastG r e.1 = none := by
          rw [← ih]; simpa using h
        rw [this]
      · cases lastG r k <;> rfl

theorem foldl_get (b : Bk) : ∀ (m : Mp) (k : Int), mGet (b.foldl (fun m e => mPut m e.1 e.2) m) k = match lastG b k with | some v => some v | none => mGet m k := by
  induction b with
  | nil => intro m k; rfl
  | cons e r ih =>
    intro m k
    rw [List.foldl_cons, ih, mGet_put]
    rw [lastG]
    cases lastG r k with
    | some v => rfl
    | none =>
      simp only
      split <;> rfl

theorem valsOf_get (b : Bk) (k : Int) : mGet (valsOf b) k = lastG b k := by
  unfold valsOf
  rw [foldl_get]
  cases lastG b k <;> rfl

theorem valsRev_nodup (b : Bk) : ((valsRev b).map (·.1)).Nodup := by
  induction b with
  | nil => simp [valsRev]
  | cons e r ih =>
    unfold valsRev
    split
    · exact ih
    · exact mPut_nodup ih _ _

theorem valsRev_fM (b : Bk) : fM (valsRev b) = fM (valsOf b) := by
  funext k
  unfold fM
  rw [valsRev_get, valsOf_get]

theorem vals_eq (b : Bk) : mEq (valsOf b) (valsRev b) = true := (mEq_iff (valsOf_nodup b) (valsRev_nodup b)).2 fun k => by rw [valsRev_get, valsOf_get]

theorem valsRev_mem {b : Bk} {p : Int × By} (h : p ∈ valsRev b) : p ∈ b := by
  induction b with
  | nil => cases h
  | cons e r ih =>
    unfold valsRev at h
    split at h
    · exact List.mem_cons_of_mem _ (ih h)
    · rcases mPut_mem h with rfl | h
      · exact List.mem_cons_self
      · exact List.mem_cons_of_mem _ (ih h)

theorem valsRev_check {b : Bk} (h : checkB b = 0) : checkM (valsRev b) = 0 := checkM_mk fun p hp => (checkB_ok h).2 p (valsRev_mem hp)

theorem decDigits_pow : ∀ (k u : Nat), u < 10 ^ (k + 1) → (Lib.decDigits u).length ≤ k + 1 := by
  intro k
  induction k with
  | zero =>
    intro u h
    rw [Lib.decDigits, dif_pos (by simpa using h)]
    simp
  | succ k ih =>
    intro u h
    rw [Lib.decDigits]
    split
    · simp
    · have := ih (u / 10) (by rw [Nat.pow_succ] at h; omega)
      simp only [List.length_append, List.length_cons, List.length_nil]; omega

theorem itoa_len20 {n : Int} (h0 : -9223372036854775808 ≤ n) (h1 : n ≤ 9223372036854775807) : (Lib.itoa n).length ≤ 20 := by
  have := decDigits_pow 18 n.natAbs (by omega)
  have := decDigits_pow 18 n.toNat (by omega)
  unfold Lib.itoa
  split
  · simp only [List.length_cons]; omega
  · omega

theorem loop_down {D : Nat → Prop} (n : Nat) (hend : D n) (hstep : ∀ i, i < n → D (i + 1) → D i) : D 0 := by
  have key : ∀ m i, n - i ≤ m → i ≤ n → D i := by
    intro m
    induction m with
    | zero => intro i h1 h2; obtain rfl : i = n := by omega
              exact hend
    | succ m ih =>
      intro i h1 h2
      rcases Nat.lt_or_ge i n with h | h
      · exact hstep i h (ih (i + 1) (by omega) (by omega))
      · obtain rfl : i = n := by omega
        exact hend
  exact key n 0 (by omega) (by omega)

theorem firstBad_drop {b : Bk} {i : Nat} (h : i < b.length) : firstBad (b.drop i) = if badE b[i] ≠ 0 then badE b[i] else firstBad (b.drop (i + 1)) := by
  rw [List.drop_eq_getElem_cons h]
  rfl
end Go.Gs

namespace Go.Ab
open Go.Proofs Go.Gs
variable {G0 : Nat → Option Obj}

theorem good_bookCheck (b : Bk) (nl : Bool) : Good PG nG G0 f_book_Check [.agg [.sl 2 nl none (b.map E2)]] [] (.int .i64 (checkB b)) [] := by
  suffices main : ∀ R : AV → List (Option Blk) → Prop, R (.int .i64 (checkB b)) [] → Hold (runF PG ty nG G0 an_book_Check f_book_Check [.agg [.sl 2 nl none (b.map E2)]] [] R) from
    good_of_run prOk (by kernel_rfl) (main _ ⟨rfl, rfl⟩)
  intro R hR
  refine book_Check_run nl _ G0 R ?_
  simp only [ifK_iff, decide_eq_true_eq, decide_eq_false_iff_not, List.length_map]
  unfold checkB at hR
  refine ⟨fun h => by rw [if_pos (by omega)] at hR; exact hR, fun h => ?_⟩
  rw [if_neg (by omega)] at hR
  refine loop_down (D := fun i : Nat => firstBad (b.drop i) = firstBad b → Does PG nG G0 (fnOf PG f_book_Check) 0 (lp PG f_book_Check 0) (mkT 29 [(10, .sl 2 nl none (b.map E2)), (11, .int .i64 b.length), (12, .int .i64 i)]) [] R) b.length (fun h1 => ?_) (fun i hi ih h1 => ?_) rfl
  · refine does_of_run prOk (book_Check_l0_run G0 _ _ _ _ R ?_)
    simp only [ifK_iff, decide_eq_true_eq, decide_eq_false_iff_not]
    refine ⟨fun h => by omega, fun _ => ?_⟩
    rw [← h1, List.drop_length] at hR
    exact hR
  · refine does_of_run prOk (book_Check_l0_run G0 _ _ _ _ R ?_)
    simp only [ifK_iff, decide_eq_true_eq, decide_eq_false_iff_not, Int.toNat_natCast]
    rw [wrapI (by omega) (by omega)]
    rw [firstBad_drop hi] at h1
    refine ⟨fun _ => ⟨by omega, _, _, getX hi, ?_⟩, fun h => by omega⟩
    unfold badE at h1
    refine ⟨fun h2 => ?_, fun h2 => ⟨fun h3 => ?_, fun h3 => ⟨fun h4 => ?_, fun h4 => ?_⟩⟩⟩
    · rw [if_pos (by rw [if_pos (.inl h2)]; decide), if_pos (.inl h2)] at h1
      rw [← h1] at hR; exact hR
    · rw [if_pos (by rw [if_pos (.inr h3)]; decide), if_pos (.inr h3)] at h1
      rw [← h1] at hR; exact hR
    · rw [if_neg (show ¬ (b[i].1 < 0 ∨ 16 ≤ b[i].1) by omega), if_pos (show 12 < b[i].2.length by omega)] at h1
      rw [← h1] at hR; exact hR
    · rw [if_neg (show ¬ (b[i].1 < 0 ∨ 16 ≤ b[i].1) by omega), if_neg (show ¬ 12 < b[i].2.length by omega)] at h1
      exact ih h1

theorem good_CheckBook (b : Bk) (nl : Bool) : Good PG nG G0 f_greatsealref_CheckBook [.agg [.sl 2 nl none (b.map E2)]] [] (.int .i64 (checkB b)) [] := by
  suffices main : ∀ R : AV → List (Option Blk) → Prop, R (.int .i64 (checkB b)) [] → Hold (runF PG ty nG G0 an_greatsealref_CheckBook f_greatsealref_CheckBook [.agg [.sl 2 nl none (b.map E2)]] [] R) from
    good_of_run prOk (by kernel_rfl) (main _ ⟨rfl, rfl⟩)
  intro R hR
  refine greatsealref_CheckBook_run nl _ G0 R ?_
  simp only [ifK_iff, decide_eq_true_eq, decide_eq_false_iff_not, List.length_map]
  unfold checkB at hR
  refine ⟨fun h => by rw [if_pos (by omega)] at hR; exact hR, fun h => ?_⟩
  rw [if_neg (by omega)] at hR
  refine loop_down (D := fun i : Nat => firstBad (b.drop i) = firstBad b → Does PG nG G0 (fnOf PG f_greatsealref_CheckBook) 0 (lp PG f_greatsealref_CheckBook 0) (mkT 27 [(10, .sl 2 nl none (b.map E2)), (11, .int .i64 b.length), (12, .int .i64 i)]) [] R) b.length (fun h1 => ?_) (fun i hi ih h1 => ?_) rfl
  · refine does_of_run prOk (greatsealref_CheckBook_l0_run G0 _ _ _ _ R ?_)
    simp only [ifK_iff, decide_eq_true_eq, decide_eq_false_iff_not]
    refine ⟨fun h => by omega, fun _ => ?_⟩
    rw [← h1, List.drop_length] at hR
    exact hR
  · refine does_of_run prOk (greatsealref_CheckBook_l0_run G0 _ _ _ _ R ?_)
    simp only [ifK_iff, decide_eq_true_eq, decide_eq_false_iff_not, Int.toNat_natCast]
    rw [wrapI (by omega) (by omega)]
    rw [firstBad_drop hi] at h1
    refine ⟨fun _ => ⟨by omega, _, _, getX hi, _, good_in _ _ _, ?_⟩, fun h => by omega⟩
    unfold badE at h1
    simp only [Bool.not_eq_true', Bool.not_eq_false', decide_eq_true_eq, decide_eq_false_iff_not]
    refine ⟨fun h2 => ?_, fun h2 => ⟨fun h4 => ?_, fun h4 => ?_⟩⟩
    · rw [if_pos (by rw [if_pos (by omega)]; decide), if_pos (by omega)] at h1
      rw [← h1] at hR; exact hR
    · rw [if_neg (show ¬ (b[i].1 < 0 ∨ 16 ≤ b[i].1) by omega), if_pos (show 12 < b[i].2.length by omega)] at h1
      rw [← h1] at hR; exact hR
    · rw [if_neg (show ¬ (b[i].1 < 0 ∨ 16 ≤ b[i].1) by omega), if_neg (show ¬ 12 < b[i].2.length by omega)] at h1
      exact ih h1
end Go.Ab

namespace Go.Ab
open Go.Proofs Go.Gs
variable {G0 : Nat → Option Obj}

/-- A book as an argument can be. -/
def BkR (b : Bk) : Prop := ∀ e ∈ b, (-9223372036854775808 ≤ e.1 ∧ e.1 ≤ 9223372036854775807) ∧ e.2.length ≤ 140737488351232

theorem BkR_of_check {b : Bk} (h : checkB b = 0) : BkR b := fun e he => by
  have := (checkB_ok h).2 e he
  exact ⟨⟨by omega, by omega⟩, by omega⟩

theorem good_Text (hG : GlobOk G0) (e : En) (h : (-9223372036854775808 ≤ e.1 ∧ e.1 ≤ 9223372036854775807) ∧ e.2.length ≤ 140737488351232) : Good PG nG G0 f_book_Text [.agg [.int .i64 e.1, .str e.2]] [] (.str (textE e)) [] := by
  refine good_of_run prOk (by kernel_rfl) (book_Text_run _ _ G0 _ ⟨_, good_itoa hG _ h.1.1 h.1.2, ?_⟩)
  have := itoa_len20 h.1.1 h.1.2
  refine ⟨by omega, by simp only [List.length_append, List.length_cons, List.length_nil]; omega, ?_, rfl⟩
  unfold textE
  rw [List.append_assoc]; rfl

theorem good_TextOf (hG : GlobOk G0) (e : En) (h : (-9223372036854775808 ≤ e.1 ∧ e.1 ≤ 9223372036854775807) ∧ e.2.length ≤ 140737488351232) : Good PG nG G0 f_greatsealref_TextOf [.agg [.int .i64 e.1, .str e.2]] [] (.str (textE e)) [] := by
  refine good_of_run prOk (by kernel_rfl) (greatsealref_TextOf_run _ _ G0 _ ⟨_, good_itoa hG _ h.1.1 h.1.2, ?_⟩)
  have := itoa_len20 h.1.1 h.1.2
  refine ⟨by omega, by simp only [List.length_append, List.length_cons, List.length_nil]; omega, ?_, rfl⟩
  unfold textE
  rw [List.append_assoc]; rfl

theorem take_snoc {α : Type} {l : List α} {i : Nat} (h : i < l.length) : l.take (i + 1) = l.take i ++ [l[i]] := by
  rw [List.take_add_one, List.getElem?_eq_getElem h]; rfl

theorem good_Texts (hG : GlobOk G0) (b : Bk) (nl : Bool) (hb : BkR b) (hl : b.length * 24 ≤ 140737488355328) : Good PG nG G0 f_book_Texts [.agg [.sl 2 nl none (b.map E2)]] [] (.sl 1 b.isEmpty none ((textsOf b).map S1)) [] := by
  suffices main : ∀ R : AV → List (Option Blk) → Prop, R (.sl 1 b.isEmpty none ((textsOf b).map S1)) [] → Hold (runF PG ty nG G0 an_book_Texts f_book_Texts [.agg [.sl 2 nl none (b.map E2)]] [] R) from
    good_of_run prOk (by kernel_rfl) (main _ ⟨rfl, rfl⟩)
  intro R hR
  refine book_Texts_run nl _ G0 R ?_
  rw [List.length_map]
  refine loop_down (D := fun i : Nat => Does PG nG G0 (fnOf PG f_book_Texts) 0 (lp PG f_book_Texts 0) (mkT 20 [(3, .sl 1 (b.take i).isEmpty (some 0) ((textsOf (b.take i)).map S1)), (7, .sl 2 nl none (b.map E2)), (8, .int .i64 b.length), (9, .int .i64 i)]) [some (.grow 1 (b.take i).length)] R) b.length ?_ (fun i hi ih => ?_)
  · refine does_of_run prOk (book_Texts_l0_run G0 _ _ _ _ _ _ _ R ?_)
    simp only [ifK_iff, decide_eq_true_eq, decide_eq_false_iff_not, List.take_length]
    exact ⟨fun h => by omega, fun _ => hR⟩
  · refine does_of_run prOk (book_Texts_l0_run G0 _ _ _ _ _ _ _ R ?_)
    simp only [ifK_iff, decide_eq_true_eq, decide_eq_false_iff_not, Int.toNat_natCast]
    rw [wrapI (by omega) (by omega)]
    rw [take_snoc hi] at ih
    refine ⟨fun _ => ⟨by omega, _, _, getX hi, _, good_Text hG _ (hb _ (List.getElem_mem hi)), ?_, ?_, ?_⟩, fun h => by omega⟩
    · simp only [List.length_map, textsOf, List.length_take, List.length_cons, List.length_nil]; omega
    · simp only [List.length_map, textsOf]
    · have e1 : textsOf (b.take i ++ [b[i]]) = textsOf (b.take i) ++ [textE b[i]] := by rw [textsOf, List.map_append]; rfl
      have e2 : (b.take i ++ [b[i]]).isEmpty = ((b.take i).isEmpty && List.isEmpty [[AV.str (textE b[i])]]) := by cases b.take i <;> rfl
      rw [e1, e2, List.map_append, List.length_append] at ih
      exact ih

theorem setR_one (y : List AV) (a : AV) (h : y.length = 1) : setR y 0 [a] = [a] := by
  match y, h with
  | [c], _ => rfl

theorem good_TextsOf (hG : GlobOk G0) (b : Bk) (nl : Bool) (hb : BkR b) (hl : b.length * 24 ≤ 140737488355328) : Good PG nG G0 f_greatsealref_TextsOf [.agg [.sl 2 nl none (b.map E2)]] [] (.sl 1 false none ((textsOf b).map S1)) [] := by
  suffices main : ∀ R : AV → List (Option Blk) → Prop, R (.sl 1 false none ((textsOf b).map S1)) [] → Hold (runF PG ty nG G0 an_greatsealref_TextsOf f_greatsealref_TextsOf [.agg [.sl 2 nl none (b.map E2)]] [] R) from
    good_of_run prOk (by kernel_rfl) (main _ ⟨rfl, rfl⟩)
  intro R hR
  refine greatsealref_TextsOf_run nl _ G0 R ?_
  rw [List.length_map, Int.toNat_natCast]
  refine ⟨rfl, by omega, by omega, by omega, ?_⟩
  have st := loop_down (D := fun i : Nat => ∀ s : List By, s.length = b.length → s.take i = textsOf (b.take i) → Does PG nG G0 (fnOf PG f_greatsealref_TextsOf) 0 (lp PG f_greatsealref_TextsOf 0) (mkT 25 [(3, .rsl 1 0 0 b.length), (11, .sl 2 nl none (b.map E2)), (12, .int .i64 b.length), (13, .int .i64 i)]) [some (.arr 1 (s.map S1))] R) b.length (fun s h1 h2 => ?_) (fun i hi ih s h1 h2 => ?_)
  · have := st (List.replicate b.length []) (by simp) rfl
    rw [List.map_replicate] at this
    exact this
  · refine does_of_run prOk (greatsealref_TextsOf_l0_run G0 _ _ _ _ _ _ _ R ?_)
    simp only [ifK_iff, decide_eq_true_eq, decide_eq_false_iff_not, List.drop_zero]
    refine ⟨fun h => by omega, fun _ => ?_⟩
    rw [← List.map_take, h2, List.take_length]
    exact hR
  · refine does_of_run prOk (greatsealref_TextsOf_l0_run G0 _ _ _ _ _ _ _ R ?_)
    simp only [ifK_iff, decide_eq_true_eq, decide_eq_false_iff_not, Int.toNat_natCast, Nat.zero_add]
    rw [wrapI (by omega) (by omega)]
    refine ⟨fun _ => ⟨by omega, _, _, getX hi, _, good_TextOf hG _ (hb _ (List.getElem_mem hi)), by omega, by omega, ?_⟩, fun h => by omega⟩
    have e1 : (s.map S1).getD i [] = S1 (s[i]'(by omega)) := by rw [List.getD_eq_getElem?_getD, getX (by omega)]; rfl
    rw [e1, setR_one _ _ rfl]
    have := ih (s.set i (textE b[i])) (by simpa using h1) (by
      rw [take_snoc hi, take_snoc (by simpa using (show i < s.length by omega)), List.take_set_of_le (Nat.le_refl i), h2, List.getElem_set_self]
      rw [textsOf, textsOf, List.map_append]; rfl)
    rw [List.map_set] at this
    exact this

theorem good_Values (b : Bk) (nl : Bool) (hc : checkB b = 0) : Good PG nG G0 f_book_Values [.agg [.sl 2 nl none (b.map E2)]] [] (.tup [.mp false ((valsOf b).map KV), .int .i64 0]) [] := by
  suffices main : ∀ R : AV → List (Option Blk) → Prop, R (.tup [.mp false ((valsOf b).map KV), .int .i64 0]) [] → Hold (runF PG ty nG G0 an_book_Values f_book_Values [.agg [.sl 2 nl none (b.map E2)]] [] R) from
    good_of_run prOk (by kernel_rfl) (main _ ⟨rfl, rfl⟩)
  intro R hR
  refine book_Values_run nl _ G0 R ⟨_, good_bookCheck b nl, ?_⟩
  have e : (checkB b != 0) = false := by rw [hc]; rfl
  rw [e, ifF, List.length_map]
  have hb := (checkB_ok hc).1
  refine loop_down (D := fun i : Nat => Does PG nG G0 (fnOf PG f_book_Values) 0 (lp PG f_book_Values 0) (mkT 28 [(5, .rmp 0), (15, .sl 2 nl none (b.map E2)), (16, .int .i64 b.length), (17, .int .i64 i)]) [some (.mp ((valsOf (b.take i)).map KV))] R) b.length ?_ (fun i hi ih => ?_)
  · refine does_of_run prOk (book_Values_l0_run G0 _ _ _ _ _ R ?_)
    simp only [ifK_iff, decide_eq_true_eq, decide_eq_false_iff_not, List.take_length]
    exact ⟨fun h => by omega, fun _ => hR⟩
  · refine does_of_run prOk (book_Values_l0_run G0 _ _ _ _ _ R ?_)
    simp only [ifK_iff, decide_eq_true_eq, decide_eq_false_iff_not, Int.toNat_natCast]
    rw [wrapI (by omega) (by omega)]
    rw [take_snoc hi, valsOf_snoc] at ih
    exact ⟨fun _ => ⟨by omega, _, _, getX hi, _, mupd_KV _ _ _, ih⟩, fun h => by omega⟩

theorem good_Values_bad (b : Bk) (nl : Bool) (hc : checkB b ≠ 0) : Good PG nG G0 f_book_Values [.agg [.sl 2 nl none (b.map E2)]] [] (.tup [.mp true [], .int .i64 (checkB b)]) [] := by
  refine good_of_run prOk (by kernel_rfl) (book_Values_run nl _ G0 _ ⟨_, good_bookCheck b nl, ?_⟩)
  have e : (checkB b != 0) = true := by simpa using hc
  rw [e, ifT]
  exact ⟨rfl, rfl⟩

theorem good_ValuesOf (b : Bk) (nl : Bool) (hl : b.length ≤ 1000000) : Good PG nG G0 f_greatsealref_ValuesOf [.agg [.sl 2 nl none (b.map E2)]] [] (.mp false ((valsRev b).map KV)) [] := by
  suffices main : ∀ R : AV → List (Option Blk) → Prop, R (.mp false ((valsRev b).map KV)) [] → Hold (runF PG ty nG G0 an_greatsealref_ValuesOf f_greatsealref_ValuesOf [.agg [.sl 2 nl none (b.map E2)]] [] R) from
    good_of_run prOk (by kernel_rfl) (main _ ⟨rfl, rfl⟩)
  intro R hR
  refine greatsealref_ValuesOf_run nl _ G0 R ?_
  rw [List.length_map, wrap64 (by omega) (by omega)]
  have st : ∀ i : Nat, i ≤ b.length → Does PG nG G0 (fnOf PG f_greatsealref_ValuesOf) 0 (lp PG f_greatsealref_ValuesOf 0) (mkT 43 [(1, .ref 0 0), (3, .rmp 1), (4, .int .i64 ((i : Int) - 1))]) [some (.var [.sl 2 nl none (b.map E2)]), some (.mp ((valsRev (b.drop i)).map KV))] R := by
    intro i
    induction i with
    | zero =>
      intro _
      refine does_of_run prOk (greatsealref_ValuesOf_l0_run G0 _ _ _ _ R ?_)
      simp only [ifK_iff, decide_eq_true_eq, decide_eq_false_iff_not]
      exact ⟨fun h => absurd h (by decide), fun _ => hR⟩
    | succ i ih =>
      intro hi
      have ih := ih (by omega)
      rw [List.drop_eq_getElem_cons (show i < b.length by omega)] at ih
      unfold valsRev at ih
      have e0 : ((i + 1 : Nat) : Int) - 1 = (i : Int) := by omega
      rw [e0]
      refine does_of_run prOk (greatsealref_ValuesOf_l0_run G0 _ _ _ _ R ?_)
      simp only [ifK_iff, decide_eq_true_eq, decide_eq_false_iff_not, Int.toNat_natCast]
      rw [wrap64 (by omega) (by omega)]
      refine ⟨fun _ => ⟨by omega, _, _, getX (by omega), _, _, mlookD_KV _ _, fun h => ?_, fun h => ?_⟩, fun h => by omega⟩
      · rw [if_neg (by simpa using h)] at ih
        exact ⟨by omega, _, _, getX (by omega), by omega, _, _, getX (by omega), _, mupd_KV _ _ _, ih⟩
      · rw [if_pos (by simpa using h)] at ih
        exact ih
  have := st b.length (Nat.le_refl _)
  rw [List.drop_length] at this
  exact this
end Go.Ab

namespace Go.Ab
open Go.Proofs Go.Gs
variable {G0 : Nat → Option Obj}

theorem good_CloneEntry (b : Bk) (nl : Bool) (hnl : nl = true → b = []) (hl : b.length * 24 ≤ 140737488355328) : Good PG nG G0 f_slices_Clone_Entry [.sl 2 nl none (b.map E2)] [] (.sl 2 nl (some 0) (b.map E2)) [some (.grow 2 (b.map E2).length)] := by
  refine good_of_run prOk (by kernel_rfl) (slices_Clone_Entry_run nl _ G0 _ ?_)
  simp only [ifK_iff, List.length_map, Nat.zero_add, List.nil_append, Bool.false_and]
  refine ⟨fun h => ?_, fun h => ⟨hl, trivial, ?_⟩⟩
  · have := hnl h
    subst this; subst h
    exact ⟨rfl, rfl⟩
  · subst h; exact ⟨rfl, trivial⟩

theorem eqAll_E2 (p q : En) : eqAll [.int .i64 p.1, .str p.2] [.int .i64 q.1, .str q.2] = decide (p = q) := by
  obtain ⟨a, b⟩ := p
  obtain ⟨c, d⟩ := q
  by_cases h1 : a = c <;> by_cases h2 : b = d <;> simp [eqAll, eqC, h1, h2]

theorem good_EqualEntry (a b : Bk) (na nb : Bool) (hb : (a.length : Int) ≤ 9223372036854775806) : Good PG nG G0 f_slices_Equal_Entry [.sl 2 na none (a.map E2), .sl 2 nb none (b.map E2)] [] (.bool (decide (a = b))) [] := by
  refine good_of_run prOk (by kernel_rfl) (slices_Equal_Entry_run na _ nb _ G0 _ ?_)
  simp only [ifK_iff, bne_iff_ne, ne_eq, List.length_map, bne_eq_false_iff_eq]
  refine ⟨fun h => ⟨?_, trivial⟩, fun h => ?_⟩
  · have : a ≠ b := by rintro rfl; exact h rfl
    simp [this]
  · refine eq_gen (D := fun i : Nat => Does PG nG G0 (fnOf PG f_slices_Equal_Entry) 0 (lp PG f_slices_Equal_Entry 0) (mkT 26 [(0, .sl 2 na none (a.map E2)), (1, .sl 2 nb none (b.map E2)), (12, .int .i64 a.length), (13, .int .i64 i)]) [] fun r' H'' => r' = .bool (decide (a = b)) ∧ H'' = [])
      (Q := fun c => c = decide (a = b)) a b (by omega) (fun i hi h1 h2 => ?_) (fun h1 => ?_) rfl
    · refine does_of_run prOk (slices_Equal_Entry_l0_run G0 na _ nb _ _ _ _ ?_)
      simp only [ifK_iff, decide_eq_true_eq, decide_eq_false_iff_not, Int.toNat_natCast]
      rw [wrapI (by omega) (by omega)]
      refine ⟨fun _ => ⟨by omega, _, _, getX hi, by omega, _, _, getX (by omega), fun h4 => ?_, fun h4 => ?_⟩, fun h => by omega⟩
      · rw [eqAll_E2] at h4
        exact ⟨by rw [← h1 (by simpa using h4)], trivial⟩
      · rw [eqAll_E2] at h4
        exact h2 (by simpa using h4)
    · refine does_of_run prOk (slices_Equal_Entry_l0_run G0 na _ nb _ _ _ _ ?_)
      simp only [ifK_iff, decide_eq_true_eq, decide_eq_false_iff_not]
      exact ⟨fun h => by omega, fun _ => ⟨by rw [← h1], trivial⟩⟩

theorem ifK_ne0 {n : Int} {A B : Prop} (h : n ≠ 0 → A) (h0 : n = 0 → B) : ifK (n != 0) A B := by
  rw [ifK_iff]
  exact ⟨fun e => h (by simpa using e), fun e => h0 (by simpa using e)⟩

theorem good_Put (b : Bk) (nl : Bool) (hnl : nl = true → b = []) (e : En) : Good PG nG G0 f_book_Put [.agg [.sl 2 nl none (b.map E2)], .agg [.int .i64 e.1, .str e.2]] []
    (.tup [.agg [.sl 2 (decide ((putBk b e).2 ≠ 0)) none ((putBk b e).1.map E2)], .int .i64 (putBk b e).2]) [] := by
  refine good_of_run prOk (by kernel_rfl) (book_Put_run nl _ _ _ G0 _ ⟨_, good_bookCheck b nl, ?_⟩)
  have done : ∀ x : Bk × Int, x = putBk b e → AV.tup [.agg [.sl 2 (decide (x.2 ≠ 0)) none (x.1.map E2)], .int .i64 x.2] = .tup [.agg [.sl 2 (decide ((putBk b e).2 ≠ 0)) none ((putBk b e).1.map E2)], .int .i64 (putBk b e).2] := by rintro x rfl; rfl
  refine ifK_ne0 (fun h => ⟨?_, rfl⟩) fun h => ?_
  · rw [← done ([], checkB b) (by rw [putBk, if_pos h]), decide_eq_true h]; rfl
  · have hb := (checkB_ok h).1
    have gc := good_bookCheck (G0 := G0) (b ++ [e]) false
    rw [List.map_append] at gc
    refine ⟨_, _, good_CloneEntry b nl hnl (by omega), by simp only [List.length_map, List.length_cons, List.length_nil]; omega, rfl, ?_⟩
    have e0 : ∀ x : List AV, (nl && List.isEmpty [x]) = false := fun x => by cases nl <;> rfl
    rw [e0]
    refine ⟨_, gc, ifK_ne0 (fun h2 => ⟨?_, rfl⟩) fun h2 => ⟨?_, rfl⟩⟩
    · rw [← done ([], checkB (b ++ [e])) (by rw [putBk, if_neg (by simpa using h), if_pos h2]), decide_eq_true h2]; rfl
    · rw [← done (b ++ [e], 0) (by rw [putBk, if_neg (by simpa using h), if_neg (by simpa using h2)]), List.map_append]; rfl

def hdV (h : Hd) : AV := .agg [.int .i64 h.n, .str h.log, .str h.mp]

theorem texts_len (b : Bk) : (textsOf b).length = b.length := by simp [textsOf]

theorem good_Head (hG : GlobOk G0) (b : Bk) (nl : Bool) : Good PG nG G0 f_book_Head [.agg [.sl 2 nl none (b.map E2)]] [] (.tup [hdV (headOf b).1, .int .i64 (headOf b).2]) [] := by
  by_cases hc : checkB b = 0
  · refine good_of_run prOk (by kernel_rfl) (book_Head_run nl _ G0 _ ⟨_, _, _, good_Values b nl hc, ?_⟩)
    have hb := (checkB_ok hc).1
    refine ⟨_, _, good_Texts hG b nl (BkR_of_check hc) (by omega), _, _, good_Root' hG _ _, ?_⟩
    have h1 := (texts_good hc).1
    have e1 : rootOf (textsOf b) = tRoot (textsOf b) := by rw [rootOf, if_neg (by rw [texts_len]; omega)]
    rw [e1, h1]
    refine ⟨_, _, good_trieRoot hG _ _ (valsOf_nodup b), ?_⟩
    rw [mapRoot_code, valsOf_check hc, headOf_ok hc, List.length_map]
    exact ⟨rfl, rfl⟩
  · refine good_of_run prOk (by kernel_rfl) (book_Head_run nl _ G0 _ ⟨_, _, _, good_Values_bad b nl hc, ?_⟩)
    refine ifK_ne0 (fun h => ⟨?_, rfl⟩) fun h => absurd h hc
    rw [headOf, if_pos hc]; rfl

theorem good_HeadOf (hG : GlobOk G0) (b : Bk) (nl : Bool) : Good PG nG G0 f_greatsealref_HeadOf [.agg [.sl 2 nl none (b.map E2)]] [] (.tup [hdV (headOf b).1, .int .i64 (headOf b).2]) [] := by
  refine good_of_run prOk (by kernel_rfl) (greatsealref_HeadOf_run nl _ G0 _ ⟨_, good_CheckBook b nl, ?_⟩)
  refine ifK_ne0 (fun hc => ⟨?_, rfl⟩) fun hc => ?_
  · rw [headOf, if_pos hc]; rfl
  · have hb := (checkB_ok hc).1
    refine ⟨_, _, good_TextsOf hG b nl (BkR_of_check hc) (by omega), _, _, good_RootOf hG _ _, _, _, good_ValuesOf b nl (by omega), _, _, good_MapRoots hG _ _ (valsRev_check hc), (by decide), _, _, rfl, Int.le_refl _, _, rfl, ?_⟩
    have e1 : rootOf (textsOf b) = tRoot (textsOf b) := by rw [rootOf, if_neg (by rw [texts_len]; omega)]
    rw [e1, headOf_ok hc, List.length_map, mapRoot_ok (valsOf_check hc), valsRev_fM]
    exact ⟨rfl, rfl⟩

end Go.Ab

namespace Go.Ab
open Go.Proofs
set_option maxRecDepth 100000



end Go.Ab

namespace Go.Ab
open Go.Proofs Go.Gs
variable {G0 : Nat → Option Obj}

theorem eqAll_hd (h k : Hd) : eqAll [.int .i64 h.n, .str h.log, .str h.mp] [.int .i64 k.n, .str k.log, .str k.mp] = decide (h = k) := by
  obtain ⟨a, b, c⟩ := h
  obtain ⟨d, e, f⟩ := k
  by_cases h1 : a = d <;> by_cases h2 : b = e <;> by_cases h3 : c = f <;> simp [eqAll, eqC, h1, h2, h3]

end Go.Ab

namespace Go.Ab
open Go.Proofs
set_option maxRecDepth 100000

def an_note_Check : FAnn := ⟨[], [], none, []⟩
def an_greatsealref_CheckHead : FAnn := ⟨[], [], none, []⟩
def an_show_Growth : FAnn := ⟨[], [], none, []⟩
def an_show_Value : FAnn := ⟨[], [], none, []⟩
def an_meet_Same : FAnn := ⟨[], [], none, []⟩
def an_greatsealref_Meets : FAnn := ⟨[], [], none, []⟩
def an_client_Follow : FAnn := ⟨[], [], none, []⟩
def an_greatsealref_Follows : FAnn := ⟨[], [], none, []⟩
def an_client_Finds : FAnn := ⟨[], [], none, []⟩

theorem note_Check_run (h0_0 : Int) (h0_1 : List UInt8) (h0_2 : List UInt8) (G0 : Nat → Option Go.Obj) (R : AV → List (Option Blk) → Prop) (h :
  ifK (decide (h0_0 < (0 : Int))) (R (AV.int Go.IntKind.i64 (3 : Int)) [])
  (ifK (decide (h0_0 > (24 : Int))) (R (AV.int Go.IntKind.i64 (3 : Int)) [])
    (ifK (decide ((↑(List.length h0_1) : Int) > (20000 : Int))) (R (AV.int Go.IntKind.i64 (2 : Int)) [])
      (ifK (decide ((↑(List.length h0_2) : Int) > (20000 : Int))) (R (AV.int Go.IntKind.i64 (2 : Int)) []) (R (AV.int Go.IntKind.i64 (0 : Int)) []))))) :
  Hold (runF PG ty nG G0 an_note_Check f_note_Check [AV.agg [AV.int Go.IntKind.i64 h0_0, AV.str h0_1, AV.str h0_2]] [] R) := kshow h (by kernel_rfl)

theorem greatsealref_CheckHead_run (h0_0 : Int) (h0_1 : List UInt8) (h0_2 : List UInt8) (G0 : Nat → Option Go.Obj) (R : AV → List (Option Blk) → Prop) (h :
  ∃ b0,
  Good PG nG G0 f_greatsealref_in [AV.int Go.IntKind.i64 h0_0, AV.int Go.IntKind.i64 (0 : Int), AV.int Go.IntKind.i64 (24 : Int)] [] (AV.bool b0) [] ∧
    ifK (!b0) (R (AV.int Go.IntKind.i64 (3 : Int)) [])
      (ifK (decide ((if (↑(List.length h0_2) : Int) > (↑(List.length h0_1) : Int) then (↑(List.length h0_2) : Int) else (↑(List.length h0_1) : Int)) > (20000 : Int))) (R (AV.int Go.IntKind.i64 (2 : Int)) [])
        (R (AV.int Go.IntKind.i64 (0 : Int)) []))) :
  Hold (runF PG ty nG G0 an_greatsealref_CheckHead f_greatsealref_CheckHead [AV.agg [AV.int Go.IntKind.i64 h0_0, AV.str h0_1, AV.str h0_2]] [] R) := kshow h (by kernel_rfl)

theorem show_Growth_run (nlb0_0 : Bool) (b0_0 : List (List AV)) (m1 : Int) (G0 : Nat → Option Go.Obj) (R : AV → List (Option Blk) → Prop) (h :
  ∃ n0,
  Good PG nG G0 f_book_Check [AV.agg [AV.sl (2 : Nat) nlb0_0 none b0_0]] [] (AV.int Go.IntKind.i64 n0) [] ∧
    ifK (n0 != (0 : Int)) (R (AV.tup [AV.sl (1 : Nat) true none [], AV.int Go.IntKind.i64 n0]) [])
      (∃ b1 xs2,
        Good PG nG G0 f_book_Texts [AV.agg [AV.sl (2 : Nat) nlb0_0 none b0_0]] [] (AV.sl (1 : Nat) b1 none xs2) [] ∧
          ∃ b3 xs4 n5,
            Good PG nG G0 f_grow_Of [AV.sl (1 : Nat) b1 none xs2, AV.int Go.IntKind.i64 m1] [] (AV.tup [AV.sl (1 : Nat) b3 none xs4, AV.int Go.IntKind.i64 n5]) [] ∧
              R (AV.tup [AV.sl (1 : Nat) b3 none xs4, AV.int Go.IntKind.i64 n5]) [])) :
  Hold (runF PG ty nG G0 an_show_Growth f_show_Growth [AV.agg [AV.sl (2 : Nat) nlb0_0 none b0_0], AV.int Go.IntKind.i64 m1] [] R) := kshow h (by kernel_rfl)

theorem show_Value_run (nlb0_0 : Bool) (b0_0 : List (List AV)) (key1 : Int) (G0 : Nat → Option Go.Obj) (R : AV → List (Option Blk) → Prop) (h :
  ∃ b0 xs1 n2,
  Good PG nG G0 f_book_Values [AV.agg [AV.sl (2 : Nat) nlb0_0 none b0_0]] [] (AV.tup [AV.mp b0 xs1, AV.int Go.IntKind.i64 n2]) [] ∧
    ifK (n2 != (0 : Int)) (R (AV.tup [AV.str [], AV.bool false, AV.sl (1 : Nat) true none [], AV.int Go.IntKind.i64 n2]) [])
      (∃ b3 xs4 n5,
        Good PG nG G0 f_trie_Path [AV.mp b0 xs1, AV.int Go.IntKind.i64 key1] [] (AV.tup [AV.sl (1 : Nat) b3 none xs4, AV.int Go.IntKind.i64 n5]) [] ∧
          ifK (n5 != (0 : Int)) (R (AV.tup [AV.str [], AV.bool false, AV.sl (1 : Nat) true none [], AV.int Go.IntKind.i64 n5]) [])
            (∃ s6 b7, mlookD Go.IntKind.i64 key1 (AV.str []) xs1 = some (AV.str s6, b7) ∧ R (AV.tup [AV.str s6, AV.bool b7, AV.sl (1 : Nat) b3 none xs4, AV.int Go.IntKind.i64 (0 : Int)]) []))) :
  Hold (runF PG ty nG G0 an_show_Value f_show_Value [AV.agg [AV.sl (2 : Nat) nlb0_0 none b0_0], AV.int Go.IntKind.i64 key1] [] R) := kshow h (by kernel_rfl)

theorem meet_Same_run (a0_0 : Int) (a0_1 : List UInt8) (a0_2 : List UInt8) (b1_0 : Int) (b1_1 : List UInt8) (b1_2 : List UInt8) (nll2 : Bool) (l2 : List (List AV)) (G0 : Nat → Option Go.Obj) (R : AV → List (Option Blk) → Prop) (h :
  ∃ n0,
  Good PG nG G0 f_note_Check [AV.agg [AV.int Go.IntKind.i64 a0_0, AV.str a0_1, AV.str a0_2]] [] (AV.int Go.IntKind.i64 n0) [] ∧
    ifK (n0 != (0 : Int)) (R (AV.int Go.IntKind.i64 n0) [])
      (∃ n1,
        Good PG nG G0 f_note_Check [AV.agg [AV.int Go.IntKind.i64 b1_0, AV.str b1_1, AV.str b1_2]] [] (AV.int Go.IntKind.i64 n1) [] ∧
          ifK (n1 != (0 : Int)) (R (AV.int Go.IntKind.i64 n1) [])
            (ifK (decide (a0_0 > b1_0))
              (ifK (b1_0 == (0 : Int))
                (ifK (decide ((↑(List.length l2) : Int) > (0 : Int))) (R (AV.int Go.IntKind.i64 (7 : Int)) [])
                  (ifK (b1_0 == (0 : Int)) (R (AV.int Go.IntKind.i64 (0 : Int)) [])
                    (ifK (b1_0 == a0_0)
                      (ifK (!b1_2 == a0_2) (R (AV.int Go.IntKind.i64 (7 : Int)) [])
                        (∃ n2,
                          Good PG nG G0 f_grow_Shows [AV.str b1_1, AV.int Go.IntKind.i64 b1_0, AV.str a0_1, AV.int Go.IntKind.i64 a0_0, AV.sl (1 : Nat) nll2 none l2] [] (AV.int Go.IntKind.i64 n2) [] ∧ R (AV.int Go.IntKind.i64 n2) []))
                      (∃ n3,
                        Good PG nG G0 f_grow_Shows [AV.str b1_1, AV.int Go.IntKind.i64 b1_0, AV.str a0_1, AV.int Go.IntKind.i64 a0_0, AV.sl (1 : Nat) nll2 none l2] [] (AV.int Go.IntKind.i64 n3) [] ∧ R (AV.int Go.IntKind.i64 n3) []))))
                (ifK (b1_0 == (0 : Int)) (R (AV.int Go.IntKind.i64 (0 : Int)) [])
                  (ifK (b1_0 == a0_0)
                    (ifK (!b1_2 == a0_2) (R (AV.int Go.IntKind.i64 (7 : Int)) [])
                      (∃ n4,
                        Good PG nG G0 f_grow_Shows [AV.str b1_1, AV.int Go.IntKind.i64 b1_0, AV.str a0_1, AV.int Go.IntKind.i64 a0_0, AV.sl (1 : Nat) nll2 none l2] [] (AV.int Go.IntKind.i64 n4) [] ∧ R (AV.int Go.IntKind.i64 n4) []))
                    (∃ n5,
                      Good PG nG G0 f_grow_Shows [AV.str b1_1, AV.int Go.IntKind.i64 b1_0, AV.str a0_1, AV.int Go.IntKind.i64 a0_0, AV.sl (1 : Nat) nll2 none l2] [] (AV.int Go.IntKind.i64 n5) [] ∧ R (AV.int Go.IntKind.i64 n5) []))))
              (ifK (a0_0 == (0 : Int))
                (ifK (decide ((↑(List.length l2) : Int) > (0 : Int))) (R (AV.int Go.IntKind.i64 (7 : Int)) [])
                  (ifK (a0_0 == (0 : Int)) (R (AV.int Go.IntKind.i64 (0 : Int)) [])
                    (ifK (a0_0 == b1_0)
                      (ifK (!a0_2 == b1_2) (R (AV.int Go.IntKind.i64 (7 : Int)) [])
                        (∃ n6,
                          Good PG nG G0 f_grow_Shows [AV.str a0_1, AV.int Go.IntKind.i64 a0_0, AV.str b1_1, AV.int Go.IntKind.i64 b1_0, AV.sl (1 : Nat) nll2 none l2] [] (AV.int Go.IntKind.i64 n6) [] ∧ R (AV.int Go.IntKind.i64 n6) []))
                      (∃ n7,
                        Good PG nG G0 f_grow_Shows [AV.str a0_1, AV.int Go.IntKind.i64 a0_0, AV.str b1_1, AV.int Go.IntKind.i64 b1_0, AV.sl (1 : Nat) nll2 none l2] [] (AV.int Go.IntKind.i64 n7) [] ∧ R (AV.int Go.IntKind.i64 n7) []))))
                (ifK (a0_0 == (0 : Int)) (R (AV.int Go.IntKind.i64 (0 : Int)) [])
                  (ifK (a0_0 == b1_0)
                    (ifK (!a0_2 == b1_2) (R (AV.int Go.IntKind.i64 (7 : Int)) [])
                      (∃ n8,
                        Good PG nG G0 f_grow_Shows [AV.str a0_1, AV.int Go.IntKind.i64 a0_0, AV.str b1_1, AV.int Go.IntKind.i64 b1_0, AV.sl (1 : Nat) nll2 none l2] [] (AV.int Go.IntKind.i64 n8) [] ∧ R (AV.int Go.IntKind.i64 n8) []))
                    (∃ n9,
                      Good PG nG G0 f_grow_Shows [AV.str a0_1, AV.int Go.IntKind.i64 a0_0, AV.str b1_1, AV.int Go.IntKind.i64 b1_0, AV.sl (1 : Nat) nll2 none l2] [] (AV.int Go.IntKind.i64 n9) [] ∧ R (AV.int Go.IntKind.i64 n9) []))))))) :
  Hold (runF PG ty nG G0 an_meet_Same f_meet_Same [AV.agg [AV.int Go.IntKind.i64 a0_0, AV.str a0_1, AV.str a0_2], AV.agg [AV.int Go.IntKind.i64 b1_0, AV.str b1_1, AV.str b1_2], AV.sl (1 : Nat) nll2 none l2] [] R) := kshow h (by kernel_rfl)

theorem greatsealref_Meets_run (a0_0 : Int) (a0_1 : List UInt8) (a0_2 : List UInt8) (b1_0 : Int) (b1_1 : List UInt8) (b1_2 : List UInt8) (nll2 : Bool) (l2 : List (List AV)) (G0 : Nat → Option Go.Obj) (R : AV → List (Option Blk) → Prop) (h :
  ∃ n0,
  Good PG nG G0 f_greatsealref_CheckHead [AV.agg [AV.int Go.IntKind.i64 a0_0, AV.str a0_1, AV.str a0_2]] [] (AV.int Go.IntKind.i64 n0) [] ∧
    ifK (n0 != (0 : Int)) (R (AV.int Go.IntKind.i64 n0) [])
      (∃ n1,
        Good PG nG G0 f_greatsealref_CheckHead [AV.agg [AV.int Go.IntKind.i64 b1_0, AV.str b1_1, AV.str b1_2]] [] (AV.int Go.IntKind.i64 n1) [] ∧
          ifK (n1 != (0 : Int)) (R (AV.int Go.IntKind.i64 n1) [])
            (ifK (decide (b1_0 < a0_0))
              (ifK (b1_0 == (0 : Int)) (ifK (decide ((↑(List.length l2) : Int) > (0 : Int))) (R (AV.int Go.IntKind.i64 (7 : Int)) []) (R (AV.int Go.IntKind.i64 (0 : Int)) []))
                (ifK (b1_0 == a0_0)
                  (ifK (!b1_2 == a0_2) (R (AV.int Go.IntKind.i64 (7 : Int)) [])
                    (∃ n2, Good PG nG G0 f_greatsealref_GrowthShows [AV.str b1_1, AV.int Go.IntKind.i64 b1_0, AV.str a0_1, AV.int Go.IntKind.i64 a0_0, AV.sl (1 : Nat) nll2 none l2] [] (AV.int Go.IntKind.i64 n2) [] ∧ R (AV.int Go.IntKind.i64 n2) []))
                  (∃ n3, Good PG nG G0 f_greatsealref_GrowthShows [AV.str b1_1, AV.int Go.IntKind.i64 b1_0, AV.str a0_1, AV.int Go.IntKind.i64 a0_0, AV.sl (1 : Nat) nll2 none l2] [] (AV.int Go.IntKind.i64 n3) [] ∧ R (AV.int Go.IntKind.i64 n3) [])))
              (ifK (a0_0 == (0 : Int)) (ifK (decide ((↑(List.length l2) : Int) > (0 : Int))) (R (AV.int Go.IntKind.i64 (7 : Int)) []) (R (AV.int Go.IntKind.i64 (0 : Int)) []))
                (ifK (a0_0 == b1_0)
                  (ifK (!a0_2 == b1_2) (R (AV.int Go.IntKind.i64 (7 : Int)) [])
                    (∃ n4, Good PG nG G0 f_greatsealref_GrowthShows [AV.str a0_1, AV.int Go.IntKind.i64 a0_0, AV.str b1_1, AV.int Go.IntKind.i64 b1_0, AV.sl (1 : Nat) nll2 none l2] [] (AV.int Go.IntKind.i64 n4) [] ∧ R (AV.int Go.IntKind.i64 n4) []))
                  (∃ n5,
                    Good PG nG G0 f_greatsealref_GrowthShows [AV.str a0_1, AV.int Go.IntKind.i64 a0_0, AV.str b1_1, AV.int Go.IntKind.i64 b1_0, AV.sl (1 : Nat) nll2 none l2] [] (AV.int Go.IntKind.i64 n5) [] ∧ R (AV.int Go.IntKind.i64 n5) [])))))) :
  Hold (runF PG ty nG G0 an_greatsealref_Meets f_greatsealref_Meets [AV.agg [AV.int Go.IntKind.i64 a0_0, AV.str a0_1, AV.str a0_2], AV.agg [AV.int Go.IntKind.i64 b1_0, AV.str b1_1, AV.str b1_2], AV.sl (1 : Nat) nll2 none l2] [] R) := kshow h (by kernel_rfl)

theorem client_Follow_run (c0_0 : Int) (c0_1 : List UInt8) (c0_2 : List UInt8) (c0_3 : Bool) (h1_0 : Int) (h1_1 : List UInt8) (h1_2 : List UInt8) (nll2 : Bool) (l2 : List (List AV)) (G0 : Nat → Option Go.Obj) (R : AV → List (Option Blk) → Prop) (h :
  ∃ n0,
  Good PG nG G0 f_note_Check [AV.agg [AV.int Go.IntKind.i64 c0_0, AV.str c0_1, AV.str c0_2]] [] (AV.int Go.IntKind.i64 n0) [] ∧
    ifK (n0 != (0 : Int)) (R (AV.tup [AV.agg [AV.int Go.IntKind.i64 (0 : Int), AV.str [], AV.str [], AV.bool false], AV.int Go.IntKind.i64 n0]) [])
      (∃ n1,
        Good PG nG G0 f_note_Check [AV.agg [AV.int Go.IntKind.i64 h1_0, AV.str h1_1, AV.str h1_2]] [] (AV.int Go.IntKind.i64 n1) [] ∧
          ifK (n1 != (0 : Int)) (R (AV.tup [AV.agg [AV.int Go.IntKind.i64 (0 : Int), AV.str [], AV.str [], AV.bool false], AV.int Go.IntKind.i64 n1]) [])
            (ifK (decide (h1_0 < c0_0)) (R (AV.tup [AV.agg [AV.int Go.IntKind.i64 (0 : Int), AV.str [], AV.str [], AV.bool false], AV.int Go.IntKind.i64 (6 : Int)]) [])
              (ifK (c0_0 == (0 : Int))
                (ifK (decide (c0_0 > (0 : Int)))
                  (∃ n2,
                    Good PG nG G0 f_grow_Shows [AV.str c0_1, AV.int Go.IntKind.i64 c0_0, AV.str h1_1, AV.int Go.IntKind.i64 h1_0, AV.sl (1 : Nat) nll2 none l2] [] (AV.int Go.IntKind.i64 n2) [] ∧
                      ifK (n2 == (0 : Int))
                        (ifK (decide (h1_0 > c0_0)) (R (AV.tup [AV.agg [AV.int Go.IntKind.i64 h1_0, AV.str h1_1, AV.str h1_2, AV.bool c0_3], AV.int Go.IntKind.i64 (0 : Int)]) [])
                          (ifK (!h1_2 == c0_2) (R (AV.tup [AV.agg [AV.int Go.IntKind.i64 c0_0, AV.str c0_1, AV.str c0_2, AV.bool true], AV.int Go.IntKind.i64 (7 : Int)]) [])
                            (R (AV.tup [AV.agg [AV.int Go.IntKind.i64 h1_0, AV.str h1_1, AV.str h1_2, AV.bool c0_3], AV.int Go.IntKind.i64 (0 : Int)]) [])))
                        (R (AV.tup [AV.agg [AV.int Go.IntKind.i64 c0_0, AV.str c0_1, AV.str c0_2, AV.bool true], AV.int Go.IntKind.i64 (7 : Int)]) []))
                  (ifK (!(↑(List.length l2) : Int) == (0 : Int)) (R (AV.tup [AV.agg [AV.int Go.IntKind.i64 c0_0, AV.str c0_1, AV.str c0_2, AV.bool true], AV.int Go.IntKind.i64 (7 : Int)]) [])
                    (R (AV.tup [AV.agg [AV.int Go.IntKind.i64 h1_0, AV.str h1_1, AV.str h1_2, AV.bool c0_3], AV.int Go.IntKind.i64 (0 : Int)]) [])))
                (ifK (decide (c0_0 > (0 : Int)))
                  (∃ n3,
                    Good PG nG G0 f_grow_Shows [AV.str c0_1, AV.int Go.IntKind.i64 c0_0, AV.str h1_1, AV.int Go.IntKind.i64 h1_0, AV.sl (1 : Nat) nll2 none l2] [] (AV.int Go.IntKind.i64 n3) [] ∧
                      ifK (n3 == (0 : Int))
                        (ifK (decide (h1_0 > c0_0)) (R (AV.tup [AV.agg [AV.int Go.IntKind.i64 h1_0, AV.str h1_1, AV.str h1_2, AV.bool c0_3], AV.int Go.IntKind.i64 (0 : Int)]) [])
                          (ifK (!h1_2 == c0_2) (R (AV.tup [AV.agg [AV.int Go.IntKind.i64 c0_0, AV.str c0_1, AV.str c0_2, AV.bool true], AV.int Go.IntKind.i64 (7 : Int)]) [])
                            (R (AV.tup [AV.agg [AV.int Go.IntKind.i64 h1_0, AV.str h1_1, AV.str h1_2, AV.bool c0_3], AV.int Go.IntKind.i64 (0 : Int)]) [])))
                        (R (AV.tup [AV.agg [AV.int Go.IntKind.i64 c0_0, AV.str c0_1, AV.str c0_2, AV.bool true], AV.int Go.IntKind.i64 (7 : Int)]) []))
                  (R (AV.tup [AV.agg [AV.int Go.IntKind.i64 c0_0, AV.str c0_1, AV.str c0_2, AV.bool true], AV.int Go.IntKind.i64 (7 : Int)]) [])))))) :
  Hold (runF PG ty nG G0 an_client_Follow f_client_Follow [AV.agg [AV.int Go.IntKind.i64 c0_0, AV.str c0_1, AV.str c0_2, AV.bool c0_3], AV.agg [AV.int Go.IntKind.i64 h1_0, AV.str h1_1, AV.str h1_2], AV.sl (1 : Nat) nll2 none l2] [] R) := kshow h (by kernel_rfl)

theorem greatsealref_Follows_run (c0_0 : Int) (c0_1 : List UInt8) (c0_2 : List UInt8) (c0_3 : Bool) (h1_0 : Int) (h1_1 : List UInt8) (h1_2 : List UInt8) (nll2 : Bool) (l2 : List (List AV)) (G0 : Nat → Option Go.Obj) (R : AV → List (Option Blk) → Prop) (h :
  ∃ n0,
  Good PG nG G0 f_greatsealref_CheckHead [AV.agg [AV.int Go.IntKind.i64 c0_0, AV.str c0_1, AV.str c0_2]] [] (AV.int Go.IntKind.i64 n0) [] ∧
    ifK (n0 == (0 : Int))
      (∃ n1,
        Good PG nG G0 f_greatsealref_CheckHead [AV.agg [AV.int Go.IntKind.i64 h1_0, AV.str h1_1, AV.str h1_2]] [] (AV.int Go.IntKind.i64 n1) [] ∧
          ifK (n1 == (0 : Int))
            (ifK (decide (h1_0 < c0_0)) (R (AV.tup [AV.agg [AV.int Go.IntKind.i64 (0 : Int), AV.str [], AV.str [], AV.bool false], AV.int Go.IntKind.i64 (6 : Int)]) [])
              (ifK (n1 != (0 : Int)) (R (AV.tup [AV.agg [AV.int Go.IntKind.i64 (0 : Int), AV.str [], AV.str [], AV.bool false], AV.int Go.IntKind.i64 n1]) [])
                (ifK (decide (c0_0 > (0 : Int)))
                  (∃ n2,
                    Good PG nG G0 f_greatsealref_GrowthShows [AV.str c0_1, AV.int Go.IntKind.i64 c0_0, AV.str h1_1, AV.int Go.IntKind.i64 h1_0, AV.sl (1 : Nat) nll2 none l2] [] (AV.int Go.IntKind.i64 n2) [] ∧
                      ifK (h1_0 == c0_0)
                        (ifK (n2 == (0 : Int))
                          (ifK (!h1_2 == c0_2) (R (AV.tup [AV.agg [AV.int Go.IntKind.i64 c0_0, AV.str c0_1, AV.str c0_2, AV.bool true], AV.int Go.IntKind.i64 (7 : Int)]) [])
                            (R (AV.tup [AV.agg [AV.int Go.IntKind.i64 h1_0, AV.str h1_1, AV.str h1_2, AV.bool c0_3], AV.int Go.IntKind.i64 (0 : Int)]) []))
                          (R (AV.tup [AV.agg [AV.int Go.IntKind.i64 c0_0, AV.str c0_1, AV.str c0_2, AV.bool true], AV.int Go.IntKind.i64 (7 : Int)]) []))
                        (ifK (!n2 == (0 : Int)) (R (AV.tup [AV.agg [AV.int Go.IntKind.i64 c0_0, AV.str c0_1, AV.str c0_2, AV.bool true], AV.int Go.IntKind.i64 (7 : Int)]) [])
                          (R (AV.tup [AV.agg [AV.int Go.IntKind.i64 h1_0, AV.str h1_1, AV.str h1_2, AV.bool c0_3], AV.int Go.IntKind.i64 (0 : Int)]) [])))
                  (ifK (!(↑(List.length l2) : Int) == (0 : Int)) (R (AV.tup [AV.agg [AV.int Go.IntKind.i64 c0_0, AV.str c0_1, AV.str c0_2, AV.bool true], AV.int Go.IntKind.i64 (7 : Int)]) [])
                    (R (AV.tup [AV.agg [AV.int Go.IntKind.i64 h1_0, AV.str h1_1, AV.str h1_2, AV.bool c0_3], AV.int Go.IntKind.i64 (0 : Int)]) [])))))
            (ifK (n1 != (0 : Int)) (R (AV.tup [AV.agg [AV.int Go.IntKind.i64 (0 : Int), AV.str [], AV.str [], AV.bool false], AV.int Go.IntKind.i64 n1]) [])
              (ifK (decide (c0_0 > (0 : Int)))
                (∃ n3,
                  Good PG nG G0 f_greatsealref_GrowthShows [AV.str c0_1, AV.int Go.IntKind.i64 c0_0, AV.str h1_1, AV.int Go.IntKind.i64 h1_0, AV.sl (1 : Nat) nll2 none l2] [] (AV.int Go.IntKind.i64 n3) [] ∧
                    ifK (h1_0 == c0_0)
                      (ifK (n3 == (0 : Int))
                        (ifK (!h1_2 == c0_2) (R (AV.tup [AV.agg [AV.int Go.IntKind.i64 c0_0, AV.str c0_1, AV.str c0_2, AV.bool true], AV.int Go.IntKind.i64 (7 : Int)]) [])
                          (R (AV.tup [AV.agg [AV.int Go.IntKind.i64 h1_0, AV.str h1_1, AV.str h1_2, AV.bool c0_3], AV.int Go.IntKind.i64 (0 : Int)]) []))
                        (R (AV.tup [AV.agg [AV.int Go.IntKind.i64 c0_0, AV.str c0_1, AV.str c0_2, AV.bool true], AV.int Go.IntKind.i64 (7 : Int)]) []))
                      (ifK (!n3 == (0 : Int)) (R (AV.tup [AV.agg [AV.int Go.IntKind.i64 c0_0, AV.str c0_1, AV.str c0_2, AV.bool true], AV.int Go.IntKind.i64 (7 : Int)]) [])
                        (R (AV.tup [AV.agg [AV.int Go.IntKind.i64 h1_0, AV.str h1_1, AV.str h1_2, AV.bool c0_3], AV.int Go.IntKind.i64 (0 : Int)]) [])))
                (ifK (!(↑(List.length l2) : Int) == (0 : Int)) (R (AV.tup [AV.agg [AV.int Go.IntKind.i64 c0_0, AV.str c0_1, AV.str c0_2, AV.bool true], AV.int Go.IntKind.i64 (7 : Int)]) [])
                  (R (AV.tup [AV.agg [AV.int Go.IntKind.i64 h1_0, AV.str h1_1, AV.str h1_2, AV.bool c0_3], AV.int Go.IntKind.i64 (0 : Int)]) [])))))
      (ifK (n0 == (0 : Int))
        (ifK (decide (h1_0 < c0_0)) (R (AV.tup [AV.agg [AV.int Go.IntKind.i64 (0 : Int), AV.str [], AV.str [], AV.bool false], AV.int Go.IntKind.i64 (6 : Int)]) [])
          (ifK (n0 != (0 : Int)) (R (AV.tup [AV.agg [AV.int Go.IntKind.i64 (0 : Int), AV.str [], AV.str [], AV.bool false], AV.int Go.IntKind.i64 n0]) [])
            (ifK (decide (c0_0 > (0 : Int)))
              (∃ n4,
                Good PG nG G0 f_greatsealref_GrowthShows [AV.str c0_1, AV.int Go.IntKind.i64 c0_0, AV.str h1_1, AV.int Go.IntKind.i64 h1_0, AV.sl (1 : Nat) nll2 none l2] [] (AV.int Go.IntKind.i64 n4) [] ∧
                  ifK (h1_0 == c0_0)
                    (ifK (n4 == (0 : Int))
                      (ifK (!h1_2 == c0_2) (R (AV.tup [AV.agg [AV.int Go.IntKind.i64 c0_0, AV.str c0_1, AV.str c0_2, AV.bool true], AV.int Go.IntKind.i64 (7 : Int)]) [])
                        (R (AV.tup [AV.agg [AV.int Go.IntKind.i64 h1_0, AV.str h1_1, AV.str h1_2, AV.bool c0_3], AV.int Go.IntKind.i64 (0 : Int)]) []))
                      (R (AV.tup [AV.agg [AV.int Go.IntKind.i64 c0_0, AV.str c0_1, AV.str c0_2, AV.bool true], AV.int Go.IntKind.i64 (7 : Int)]) []))
                    (ifK (!n4 == (0 : Int)) (R (AV.tup [AV.agg [AV.int Go.IntKind.i64 c0_0, AV.str c0_1, AV.str c0_2, AV.bool true], AV.int Go.IntKind.i64 (7 : Int)]) [])
                      (R (AV.tup [AV.agg [AV.int Go.IntKind.i64 h1_0, AV.str h1_1, AV.str h1_2, AV.bool c0_3], AV.int Go.IntKind.i64 (0 : Int)]) [])))
              (ifK (!(↑(List.length l2) : Int) == (0 : Int)) (R (AV.tup [AV.agg [AV.int Go.IntKind.i64 c0_0, AV.str c0_1, AV.str c0_2, AV.bool true], AV.int Go.IntKind.i64 (7 : Int)]) [])
                (R (AV.tup [AV.agg [AV.int Go.IntKind.i64 h1_0, AV.str h1_1, AV.str h1_2, AV.bool c0_3], AV.int Go.IntKind.i64 (0 : Int)]) [])))))
        (ifK (n0 != (0 : Int)) (R (AV.tup [AV.agg [AV.int Go.IntKind.i64 (0 : Int), AV.str [], AV.str [], AV.bool false], AV.int Go.IntKind.i64 n0]) [])
          (ifK (decide (c0_0 > (0 : Int)))
            (∃ n5,
              Good PG nG G0 f_greatsealref_GrowthShows [AV.str c0_1, AV.int Go.IntKind.i64 c0_0, AV.str h1_1, AV.int Go.IntKind.i64 h1_0, AV.sl (1 : Nat) nll2 none l2] [] (AV.int Go.IntKind.i64 n5) [] ∧
                ifK (h1_0 == c0_0)
                  (ifK (n5 == (0 : Int))
                    (ifK (!h1_2 == c0_2) (R (AV.tup [AV.agg [AV.int Go.IntKind.i64 c0_0, AV.str c0_1, AV.str c0_2, AV.bool true], AV.int Go.IntKind.i64 (7 : Int)]) [])
                      (R (AV.tup [AV.agg [AV.int Go.IntKind.i64 h1_0, AV.str h1_1, AV.str h1_2, AV.bool c0_3], AV.int Go.IntKind.i64 (0 : Int)]) []))
                    (R (AV.tup [AV.agg [AV.int Go.IntKind.i64 c0_0, AV.str c0_1, AV.str c0_2, AV.bool true], AV.int Go.IntKind.i64 (7 : Int)]) []))
                  (ifK (!n5 == (0 : Int)) (R (AV.tup [AV.agg [AV.int Go.IntKind.i64 c0_0, AV.str c0_1, AV.str c0_2, AV.bool true], AV.int Go.IntKind.i64 (7 : Int)]) [])
                    (R (AV.tup [AV.agg [AV.int Go.IntKind.i64 h1_0, AV.str h1_1, AV.str h1_2, AV.bool c0_3], AV.int Go.IntKind.i64 (0 : Int)]) [])))
            (ifK (!(↑(List.length l2) : Int) == (0 : Int)) (R (AV.tup [AV.agg [AV.int Go.IntKind.i64 c0_0, AV.str c0_1, AV.str c0_2, AV.bool true], AV.int Go.IntKind.i64 (7 : Int)]) [])
              (R (AV.tup [AV.agg [AV.int Go.IntKind.i64 h1_0, AV.str h1_1, AV.str h1_2, AV.bool c0_3], AV.int Go.IntKind.i64 (0 : Int)]) [])))))) :
  Hold (runF PG ty nG G0 an_greatsealref_Follows f_greatsealref_Follows [AV.agg [AV.int Go.IntKind.i64 c0_0, AV.str c0_1, AV.str c0_2, AV.bool c0_3], AV.agg [AV.int Go.IntKind.i64 h1_0, AV.str h1_1, AV.str h1_2], AV.sl (1 : Nat) nll2 none l2] [] R) := kshow h (by kernel_rfl)

theorem client_Finds_run (c0_0 : Int) (c0_1 : List UInt8) (c0_2 : List UInt8) (c0_3 : Bool) (key1 : Int) (value2 : List UInt8) (there3 : Bool) (nll4 : Bool) (l4 : List (List AV)) (G0 : Nat → Option Go.Obj) (R : AV → List (Option Blk) → Prop) (h :
  ∃ n0,
  Good PG nG G0 f_note_Check [AV.agg [AV.int Go.IntKind.i64 c0_0, AV.str c0_1, AV.str c0_2]] [] (AV.int Go.IntKind.i64 n0) [] ∧
    ifK (n0 != (0 : Int)) (R (AV.int Go.IntKind.i64 n0) [])
      (∃ n1, Good PG nG G0 f_trie_Shows [AV.str c0_2, AV.int Go.IntKind.i64 key1, AV.str value2, AV.bool there3, AV.sl (1 : Nat) nll4 none l4] [] (AV.int Go.IntKind.i64 n1) [] ∧ R (AV.int Go.IntKind.i64 n1) [])) :
  Hold (runF PG ty nG G0 an_client_Finds f_client_Finds [AV.agg [AV.int Go.IntKind.i64 c0_0, AV.str c0_1, AV.str c0_2, AV.bool c0_3], AV.int Go.IntKind.i64 key1, AV.str value2, AV.bool there3, AV.sl (1 : Nat) nll4 none l4] [] R) := kshow h (by kernel_rfl)

end Go.Ab

namespace Go.Ab
open Go.Proofs Go.Gs
variable {G0 : Nat → Option Obj}

theorem good_noteCheck (h : Hd) : Good PG nG G0 f_note_Check [.agg [.int .i64 h.n, .str h.log, .str h.mp]] [] (.int .i64 (checkH h)) [] := by
  refine good_of_run prOk (by kernel_rfl) (note_Check_run _ _ _ G0 _ ?_)
  simp only [ifK_iff, decide_eq_true_eq, decide_eq_false_iff_not]
  unfold checkH
  refine ⟨fun h1 => ⟨by rw [if_pos (by omega)], trivial⟩, fun h1 => ⟨fun h2 => ⟨by rw [if_pos (by omega)], trivial⟩, fun h2 => ?_⟩⟩
  rw [if_neg (show ¬ (h.n < 0 ∨ 24 < h.n) by omega)]
  exact ⟨fun h3 => ⟨by rw [if_pos (by omega)], trivial⟩, fun h3 => ⟨fun h4 => ⟨by rw [if_pos (by omega)], trivial⟩, fun h4 => ⟨by rw [if_neg (by omega)], trivial⟩⟩⟩

theorem good_CheckHead (h : Hd) : Good PG nG G0 f_greatsealref_CheckHead [.agg [.int .i64 h.n, .str h.log, .str h.mp]] [] (.int .i64 (checkH h)) [] := by
  refine good_of_run prOk (by kernel_rfl) (greatsealref_CheckHead_run _ _ _ G0 _ ⟨_, good_in _ _ _, ?_⟩)
  simp only [ifK_iff, Bool.not_eq_true', Bool.not_eq_false', decide_eq_true_eq, decide_eq_false_iff_not]
  unfold checkH
  refine ⟨fun h1 => ⟨by rw [if_pos (by omega)], trivial⟩, fun h1 => ?_⟩
  rw [if_neg (show ¬ (h.n < 0 ∨ 24 < h.n) by omega)]
  refine ⟨fun h3 => ⟨by rw [if_pos (by split at h3 <;> omega)], trivial⟩, fun h3 => ⟨by rw [if_neg (by split at h3 <;> omega)], trivial⟩⟩

theorem headOf_n {b : Bk} (h : checkB b = 0) : (headOf b).1.n = b.length := by rw [headOf_ok h]
theorem take_E2 (b : Bk) (i : Nat) : List.drop 0 ((b.map E2).take i) = (b.take i).map E2 := by rw [List.drop_zero, List.map_take]

end Go.Ab

namespace Go.Ab
open Go.Proofs
set_option maxRecDepth 100000



end Go.Ab

namespace Go.Ab
open Go.Proofs Go.Gs
variable {G0 : Nat → Option Obj}

theorem pathM_ok {m : Mp} {k : Nat} (h : checkM m = 0) (hk : k < 16) : pathM m k = (triePath (fM m) k 4, 0) := by rw [pathM, if_neg (by simpa using h), if_neg (by omega), Int.toNat_natCast]

end Go.Ab

namespace Go.Ab
open Go.Proofs Go.Gs
variable {G0 : Nat → Option Obj}

theorem plain_P2 (l : List (Nat × Nat)) : plainXs (l.map P2) := by
  intro x hx y hy
  obtain ⟨s, _, rfl⟩ := List.mem_map.1 hx
  simp [P2] at hy
  rcases hy with rfl | rfl <;> rfl

theorem good_Reverse_nil : Good PG nG G0 f_slices_Reverse_pair [.sl 2 true none []] [] (.tup []) [] := by
  refine good_of_run prOk (by kernel_rfl) (slices_Reverse_pair_nil_run G0 _ ?_)
  refine does_of_run prOk (slices_Reverse_pair_nil_l0_run G0 _ _ _ _ _ ?_)
  simp only [ifK_iff, decide_eq_true_eq, decide_eq_false_iff_not]
  exact ⟨fun h => absurd h (by decide), fun _ => ⟨trivial, trivial⟩⟩

theorem setR_two (y : List AV) (a b : AV) (h : y.length = 2) : setR y 0 [a, b] = [a, b] := by
  match y, h with
  | [c, d], _ => rfl

theorem good_Reverse (l : List (Nat × Nat)) (hl : l.length ≤ 1000) : Good PG nG G0 f_slices_Reverse_pair [.rsl 2 0 0 (l.map P2).length] [some (.arr 2 (l.map P2))] (.tup []) [some (.arr 2 (l.reverse.map P2))] := by
  refine good_of_run prOk (by kernel_rfl) (slices_Reverse_pair_run _ _ G0 _ ?_)
  rw [List.length_map]
  suffices main : ∀ R : AV → List (Option Blk) → Prop, R (.tup []) [some (.arr 2 (l.reverse.map P2))] → ∀ (m i : Nat) (s : List (Nat × Nat)), l.length - 2 * i ≤ m → 2 * i ≤ l.length + 1 → s.length = l.length → (∀ k, k < l.length → s[k]? = if k < i ∨ l.length - i ≤ k then l[l.length - 1 - k]? else l[k]?) →
      Does PG nG G0 (fnOf PG f_slices_Reverse_pair) 1 (lp PG f_slices_Reverse_pair 0) (mkT 28 [(0, .rsl 2 0 0 l.length), (2, .int .i64 i), (3, .int .i64 ((l.length : Int) - 1 - i))]) [some (.arr 2 (s.map P2))] R by
    have := main (fun r' H'' => r' = .tup [] ∧ H'' = [some (.arr 2 (l.reverse.map P2))]) ⟨rfl, rfl⟩ l.length 0 l (by omega) (by omega) rfl (fun k hk => by rw [if_neg (by omega)])
    rw [wrap64 (by omega) (by omega)]
    simpa using this
  intro R hR m
  have last : ∀ (i : Nat) (s : List (Nat × Nat)), l.length ≤ 2 * i + 1 → 2 * i ≤ l.length + 1 → s.length = l.length → (∀ k, k < l.length → s[k]? = if k < i ∨ l.length - i ≤ k then l[l.length - 1 - k]? else l[k]?) →
      Does PG nG G0 (fnOf PG f_slices_Reverse_pair) 1 (lp PG f_slices_Reverse_pair 0) (mkT 28 [(0, .rsl 2 0 0 l.length), (2, .int .i64 i), (3, .int .i64 ((l.length : Int) - 1 - i))]) [some (.arr 2 (s.map P2))] R := by
    intro i s h1 h2 h3 h4
    refine does_of_run prOk (slices_Reverse_pair_l0_run G0 _ _ _ _ _ R ?_)
    simp only [ifK_iff, decide_eq_true_eq, decide_eq_false_iff_not]
    refine ⟨fun h => absurd h (by omega), fun _ => ?_⟩
    have : s = l.reverse := List.ext_getElem? fun k => by
      rcases Nat.lt_or_ge k l.length with hk | hk
      · rw [h4 k hk, List.getElem?_reverse hk]
        split
        · rfl
        · congr 1; omega
      · rw [List.getElem?_eq_none (by omega), List.getElem?_eq_none (by simpa using hk)]
    rw [this]; exact hR
  induction m with
  | zero => intro i s h1 h2 h3 h4; exact last i s (by omega) h2 h3 h4
  | succ m ih =>
    intro i s h1 h2 h3 h4
    by_cases hc : l.length ≤ 2 * i + 1
    · exact last i s hc h2 h3 h4
    · have hj : ((l.length : Int) - 1 - i) = ((l.length - 1 - i : Nat) : Int) := by omega
      have hil : i < s.length := by omega
      have hjl : l.length - 1 - i < s.length := by omega
      refine does_of_run prOk (slices_Reverse_pair_l0_run G0 _ _ _ _ _ R ?_)
      rw [hj]
      simp only [ifK_iff, decide_eq_true_eq, decide_eq_false_iff_not, Int.toNat_natCast, Nat.zero_add]
      rw [wrapI (by omega) (by omega), wrap64 (by omega) (by omega)]
      have gi : (s.map P2)[i]? = some (P2 s[i]) := getX hil
      have gj : (s.map P2)[l.length - 1 - i]? = some (P2 s[l.length - 1 - i]) := getX hjl
      refine ⟨fun _ => ⟨by omega, by omega, _, _, ⟨_, gj, rfl⟩, by omega, by omega, _, _, ⟨_, gi, rfl⟩, by omega, by omega, by omega, by omega, ?_⟩, fun h => absurd (show (i : Int) < ((l.length - 1 - i : Nat) : Int) by omega) h⟩
      have s1 : setR ((s.map P2).getD i []) 0 [.int .i64 s[l.length - 1 - i].1, .int .i64 s[l.length - 1 - i].2] = P2 s[l.length - 1 - i] := by
        rw [List.getD_eq_getElem?_getD, gi]; exact setR_two _ _ _ rfl
      rw [s1]
      have gj2 : ((s.map P2).set i (P2 s[l.length - 1 - i]))[l.length - 1 - i]? = some (P2 s[l.length - 1 - i]) := by
        rw [List.getElem?_set, if_neg (by omega)]; exact gj
      have s2 : setR (((s.map P2).set i (P2 s[l.length - 1 - i])).getD (l.length - 1 - i) []) 0 [.int .i64 s[i].1, .int .i64 s[i].2] = P2 s[i] := by
        rw [List.getD_eq_getElem?_getD, gj2]; exact setR_two _ _ _ rfl
      rw [s2]
      have hm : ((s.map P2).set i (P2 s[l.length - 1 - i])).set (l.length - 1 - i) (P2 s[i]) = (((s.set i s[l.length - 1 - i]).set (l.length - 1 - i) s[i])).map P2 := by
        rw [List.map_set, List.map_set]
      rw [hm]
      have := ih (i + 1) ((s.set i s[l.length - 1 - i]).set (l.length - 1 - i) s[i]) (by omega) (by omega) (by simpa using h3) (fun k hk => ?_)
      · have e3 : ((l.length : Int) - 1 - ((i + 1 : Nat) : Int)) = ((l.length - 1 - i : Nat) : Int) - 1 := by omega
        rw [e3] at this
        exact this
      · have vi : s[i] = l[i] := by
          have := h4 i (by omega)
          rw [if_neg (by omega), List.getElem?_eq_getElem hil, List.getElem?_eq_getElem (by omega)] at this
          exact Option.some.inj this
        have vj : s[l.length - 1 - i] = l[l.length - 1 - i] := by
          have := h4 (l.length - 1 - i) (by omega)
          rw [if_neg (by omega), List.getElem?_eq_getElem hjl, List.getElem?_eq_getElem (by omega)] at this
          exact Option.some.inj this
        rw [List.getElem?_set, List.getElem?_set]
        by_cases hkj : l.length - 1 - i = k
        · subst hkj
          rw [if_pos rfl, if_pos (by simpa using hjl), if_pos (.inr (by omega)), vi]
          have : l.length - 1 - (l.length - 1 - i) = i := by omega
          rw [this, List.getElem?_eq_getElem (by omega)]
        · rw [if_neg hkj]
          by_cases hki : i = k
          · subst hki
            rw [if_pos rfl, if_pos hil, if_pos (.inl (by omega)), vj, List.getElem?_eq_getElem (by omega)]
          · rw [if_neg hki, h4 k hk]
            by_cases hb : k < i ∨ l.length - i ≤ k
            · rw [if_pos hb, if_pos (by omega)]
            · rw [if_neg hb, if_neg (by omega)]

theorem sub_map {l : List By} (f t : Nat) : List.drop f (List.take t (l.map S1)) = (sub l f t).map S1 := by simp [sub]

end Go.Ab

namespace Go.Ab
open Go.Proofs Go.Gs
variable {G0 : Nat → Option Obj}

end Go.Ab

namespace Go.Ab
open Go.Proofs
set_option maxRecDepth 100000



end Go.Ab

namespace Go.Ab
open Go.Proofs Go.Gs
variable {G0 : Nat → Option Obj}

end Go.Ab

namespace Go.Ab
open Go.Proofs
set_option maxRecDepth 100000

def an_greatseal_grow_shower_last : FAnn := ⟨[], [], none, []⟩
def an_greatseal_grow_shower_node : FAnn := ⟨[], [], none, []⟩
def an_greatseal_grow_shower_both : FAnn := ⟨[(4, 1, ⟨[0], [], []⟩), (7, 1, ⟨[0], [], []⟩), (9, 5, ⟨[0], [], []⟩), (10, 4, ⟨[0], [], []⟩), (11, 8, ⟨[0], [], []⟩), (12, 3, ⟨[0], [], []⟩), (12, 7, ⟨[0], [], []⟩)], [], none, []⟩
def an_grow_Shows : FAnn := ⟨[(4, 4, ⟨[0], [], []⟩)], [], none, []⟩
def an_grow_of : FAnn := ⟨[(10, 3, ⟨[], [0], []⟩)], [], some [6], []⟩
def an_grow_Of : FAnn := ⟨[(6, 2, ⟨[], [0], []⟩)], [], none, []⟩
def an_greatsealref_parts : FAnn := ⟨[], [(0, [0, 4, 5, 6, 7, 8], [4])], some [4], []⟩
def an_greatsealref_GrowthOf : FAnn := ⟨[(6, 3, ⟨[], [], [0]⟩), (11, 1, ⟨[0], [], []⟩)], [(0, [0, 11, 57, 58, 59], [11])], none, [(12, [0])]⟩
def an_greatsealref_GrowthShows : FAnn := ⟨[(3, 2, ⟨[], [], [0]⟩), (13, 1, ⟨[0], [], []⟩)], [(0, [0, 2, 4, 12, 15, 16, 59, 60, 61], [])], none, [(14, [0])]⟩

theorem greatseal_grow_shower_last_run (nl : Bool) (l : List (List AV)) (bad : Bool) (G0 : Nat → Option Go.Obj) (R : AV → List (Option Blk) → Prop) (h :
  ifK ((↑(List.length l) : Int) == (0 : Int)) (R (AV.str []) [some (Blk.var [AV.sl (1 : Nat) nl none l, AV.bool true])])
  ((0 : Int) ≤ Go.IntKind.wrap Go.IntKind.i64 ((↑(List.length l) : Int) - (1 : Int)) ∧
    ∃ s0,
      l[Int.toNat (Go.IntKind.wrap Go.IntKind.i64 ((↑(List.length l) : Int) - (1 : Int)))]? = some [AV.str s0] ∧
        (0 : Int) ≤ (0 : Int) ∧
          (0 : Int) ≤ Go.IntKind.wrap Go.IntKind.i64 ((↑(List.length l) : Int) - (1 : Int)) ∧
            Go.IntKind.wrap Go.IntKind.i64 ((↑(List.length l) : Int) - (1 : Int)) ≤ (↑(List.length l) : Int) ∧
              R (AV.str s0) [some (Blk.var [AV.sl (1 : Nat) nl none (List.drop (0 : Nat) (List.take (Int.toNat (Go.IntKind.wrap Go.IntKind.i64 ((↑(List.length l) : Int) - (1 : Int)))) l)), AV.bool bad])])) :
  Hold (runF PG ty nG G0 an_greatseal_grow_shower_last f_greatseal_grow_shower_last [AV.ref (0 : Nat) (0 : Nat)] [some (Blk.var [AV.sl (1 : Nat) nl none l, AV.bool bad])] R) := kshow h (by kernel_rfl)

theorem greatseal_grow_shower_node_run (nl : Bool) (l : List (List AV)) (bad : Bool) (a : List UInt8) (b : List UInt8) (G0 : Nat → Option Go.Obj) (R : AV → List (Option Blk) → Prop) (h :
  ∃ s0 n1,
  Good PG nG G0 f_seal_Node [AV.str a, AV.str b] [] (AV.tup [AV.str s0, AV.int Go.IntKind.i64 n1]) [] ∧
    ifK bad (R (AV.str s0) [some (Blk.var [AV.sl (1 : Nat) nl none l, AV.bool true])]) (R (AV.str s0) [some (Blk.var [AV.sl (1 : Nat) nl none l, AV.bool (n1 != (0 : Int))])])) :
  Hold (runF PG ty nG G0 an_greatseal_grow_shower_node f_greatseal_grow_shower_node [AV.ref (0 : Nat) (0 : Nat), AV.str a, AV.str b] [some (Blk.var [AV.sl (1 : Nat) nl none l, AV.bool bad])] R) := kshow h (by kernel_rfl)

theorem greatseal_grow_shower_both_run (nl : Bool) (l : List (List AV)) (bad : Bool) (m : Int) (n : Int) (old : List UInt8) (known : Bool) (G0 : Nat → Option Go.Obj) (R : AV → List (Option Blk) → Prop) (h :
  ifK (m == n)
  (ifK known (R (AV.tup [AV.str old, AV.str old]) [some (Blk.var [AV.sl (1 : Nat) nl none l, AV.bool bad])])
    (∃ s0 b1 xs2 b3,
      Good PG nG G0 f_greatseal_grow_shower_last [AV.ref (0 : Nat) (0 : Nat)] [some (Blk.var [AV.sl (1 : Nat) nl none l, AV.bool bad])] (AV.str s0) [some (Blk.var [AV.sl (1 : Nat) b1 none xs2, AV.bool b3])] ∧
        R (AV.tup [AV.str s0, AV.str s0]) [some (Blk.var [AV.sl (1 : Nat) b1 none xs2, AV.bool b3])]))
  (∃ n4 n5,
    Good PG nG G0 f_tree_Half [AV.int Go.IntKind.i64 n] [] (AV.tup [AV.int Go.IntKind.i64 n4, AV.int Go.IntKind.i64 n5]) [] ∧
      ∃ s6 b7 xs8 b9,
        Good PG nG G0 f_greatseal_grow_shower_last [AV.ref (0 : Nat) (0 : Nat)] [some (Blk.var [AV.sl (1 : Nat) nl none l, AV.bool bad])] (AV.str s6) [some (Blk.var [AV.sl (1 : Nat) b7 none xs8, AV.bool b9])] ∧
          ifK (decide (m ≤ n4))
            (∃ s10 s11 b12 xs13 b14,
              Good PG nG G0 f_greatseal_grow_shower_both [AV.ref (0 : Nat) (0 : Nat), AV.int Go.IntKind.i64 m, AV.int Go.IntKind.i64 n4, AV.str old, AV.bool known] [some (Blk.var [AV.sl (1 : Nat) b7 none xs8, AV.bool b9])]
                  (AV.tup [AV.str s10, AV.str s11]) [some (Blk.var [AV.sl (1 : Nat) b12 none xs13, AV.bool b14])] ∧
                ∃ s15 b16 xs17 b18,
                  Good PG nG G0 f_greatseal_grow_shower_node [AV.ref (0 : Nat) (0 : Nat), AV.str s11, AV.str s6] [some (Blk.var [AV.sl (1 : Nat) b12 none xs13, AV.bool b14])] (AV.str s15) [some (Blk.var [AV.sl (1 : Nat) b16 none xs17, AV.bool b18])] ∧
                    R (AV.tup [AV.str s10, AV.str s15]) [some (Blk.var [AV.sl (1 : Nat) b16 none xs17, AV.bool b18])])
            (∃ s19 s20 b21 xs22 b23,
              Good PG nG G0 f_greatseal_grow_shower_both [AV.ref (0 : Nat) (0 : Nat), AV.int Go.IntKind.i64 (Go.IntKind.wrap Go.IntKind.i64 (m - n4)), AV.int Go.IntKind.i64 (Go.IntKind.wrap Go.IntKind.i64 (n - n4)), AV.str old, AV.bool false]
                  [some (Blk.var [AV.sl (1 : Nat) b7 none xs8, AV.bool b9])] (AV.tup [AV.str s19, AV.str s20]) [some (Blk.var [AV.sl (1 : Nat) b21 none xs22, AV.bool b23])] ∧
                ∃ s24 b25 xs26 b27,
                  Good PG nG G0 f_greatseal_grow_shower_node [AV.ref (0 : Nat) (0 : Nat), AV.str s6, AV.str s19] [some (Blk.var [AV.sl (1 : Nat) b21 none xs22, AV.bool b23])] (AV.str s24) [some (Blk.var [AV.sl (1 : Nat) b25 none xs26, AV.bool b27])] ∧
                    ∃ s28 b29 xs30 b31,
                      Good PG nG G0 f_greatseal_grow_shower_node [AV.ref (0 : Nat) (0 : Nat), AV.str s6, AV.str s20] [some (Blk.var [AV.sl (1 : Nat) b25 none xs26, AV.bool b27])] (AV.str s28)
                          [some (Blk.var [AV.sl (1 : Nat) b29 none xs30, AV.bool b31])] ∧
                        R (AV.tup [AV.str s24, AV.str s28]) [some (Blk.var [AV.sl (1 : Nat) b29 none xs30, AV.bool b31])]))) :
  Hold (runF PG ty nG G0 an_greatseal_grow_shower_both f_greatseal_grow_shower_both [AV.ref (0 : Nat) (0 : Nat), AV.int Go.IntKind.i64 m, AV.int Go.IntKind.i64 n, AV.str old, AV.bool known] [some (Blk.var [AV.sl (1 : Nat) nl none l, AV.bool bad])] R) := kshow h (by kernel_rfl)

theorem grow_Shows_run (old0 : List UInt8) (m1 : Int) (root2 : List UInt8) (n3 : Int) (nll4 : Bool) (l4 : List (List AV)) (G0 : Nat → Option Go.Obj) (R : AV → List (Option Blk) → Prop) (h :
  ifK (decide (m1 < (1 : Int))) (R (AV.int Go.IntKind.i64 (3 : Int)) [])
  (ifK (decide (n3 < m1)) (R (AV.int Go.IntKind.i64 (3 : Int)) [])
    (ifK (decide (n3 > (24 : Int))) (R (AV.int Go.IntKind.i64 (3 : Int)) [])
      (∃ s0 s1 b2 xs3 b4,
        Good PG nG G0 f_greatseal_grow_shower_both [AV.ref (0 : Nat) (0 : Nat), AV.int Go.IntKind.i64 m1, AV.int Go.IntKind.i64 n3, AV.str old0, AV.bool true] [some (Blk.var [AV.sl (1 : Nat) nll4 none l4, AV.bool false])]
            (AV.tup [AV.str s0, AV.str s1]) [some (Blk.var [AV.sl (1 : Nat) b2 none xs3, AV.bool b4])] ∧
          ifK b4 (R (AV.int Go.IntKind.i64 (7 : Int)) [])
            (ifK (decide ((↑(List.length xs3) : Int) > (0 : Int))) (R (AV.int Go.IntKind.i64 (7 : Int)) [])
              (ifK (!s0 == old0) (R (AV.int Go.IntKind.i64 (7 : Int)) []) (ifK (!s1 == root2) (R (AV.int Go.IntKind.i64 (7 : Int)) []) (R (AV.int Go.IntKind.i64 (0 : Int)) [])))))))) :
  Hold (runF PG ty nG G0 an_grow_Shows f_grow_Shows [AV.str old0, AV.int Go.IntKind.i64 m1, AV.str root2, AV.int Go.IntKind.i64 n3, AV.sl (1 : Nat) nll4 none l4] [] R) := kshow h (by kernel_rfl)

theorem grow_of_run (nll0 : Bool) (l0 : List (List AV)) (m1 : Int) (known2 : Bool) (G0 : Nat → Option Go.Obj) (R : AV → List (Option Blk) → Prop) (h :
  ifK (m1 == (↑(List.length l0) : Int))
  (ifK known2 (R (AV.tup [AV.sl (1 : Nat) true (some (0 : Nat)) [], AV.int Go.IntKind.i64 (0 : Int)]) [some (Blk.grow (1 : Nat) (0 : Nat))])
    (∃ s0 n1,
      Good PG nG G0 f_tree_Root [AV.sl (1 : Nat) nll0 none l0] [] (AV.tup [AV.str s0, AV.int Go.IntKind.i64 n1]) [] ∧
        R (AV.tup [AV.sl (1 : Nat) false (some (0 : Nat)) [[AV.str s0]], AV.int Go.IntKind.i64 n1]) [some (Blk.grow (1 : Nat) (1 : Nat))]))
  (∃ n2 n3,
    Good PG nG G0 f_tree_Half [AV.int Go.IntKind.i64 (↑(List.length l0) : Int)] [] (AV.tup [AV.int Go.IntKind.i64 n2, AV.int Go.IntKind.i64 n3]) [] ∧
      (0 : Int) ≤ (0 : Int) ∧
        (0 : Int) ≤ n2 ∧
          n2 ≤ (↑(List.length l0) : Int) ∧
            (0 : Int) ≤ n2 ∧
              n2 ≤ (↑(List.length l0) : Int) ∧
                (↑(List.length l0) : Int) ≤ (↑(List.length l0) : Int) ∧
                  ifK (decide (m1 > n2))
                    (∃ b4 xs5 n6,
                      Good PG nG G0 f_grow_of
                          [AV.sl (1 : Nat) nll0 none (List.drop (Int.toNat n2) (List.take (Int.toNat (↑(List.length l0) : Int)) l0)), AV.int Go.IntKind.i64 (Go.IntKind.wrap Go.IntKind.i64 (m1 - n2)), AV.bool false] []
                          (AV.tup [AV.sl (1 : Nat) b4 (some (0 : Nat)) xs5, AV.int Go.IntKind.i64 n6]) [some (Blk.grow (1 : Nat) (List.length xs5))] ∧
                        ifK (n6 != (0 : Int)) (R (AV.tup [AV.sl (1 : Nat) true (some (0 : Nat)) [], AV.int Go.IntKind.i64 n6]) [some (Blk.grow (1 : Nat) (0 : Nat))])
                          (∃ s7 n8,
                            Good PG nG G0 f_tree_Root [AV.sl (1 : Nat) nll0 none (List.drop (0 : Nat) (List.take (Int.toNat n2) l0))] [] (AV.tup [AV.str s7, AV.int Go.IntKind.i64 n8]) [] ∧
                              ifK (n8 != (0 : Int)) (R (AV.tup [AV.sl (1 : Nat) true (some (0 : Nat)) [], AV.int Go.IntKind.i64 n8]) [some (Blk.grow (1 : Nat) (0 : Nat))])
                                ((List.length xs5 + List.length [[AV.str s7]]) * (16 : Nat) ≤ (140737488355328 : Nat) ∧
                                  List.length xs5 = List.length xs5 ∧
                                    R (AV.tup [AV.sl (1 : Nat) (b4 && List.isEmpty [[AV.str s7]]) (some (0 : Nat)) (xs5 ++ [[AV.str s7]]), AV.int Go.IntKind.i64 (0 : Int)])
                                      [some (Blk.grow (1 : Nat) (List.length xs5 + List.length [[AV.str s7]]))])))
                    (∃ b9 xs10 n11,
                      Good PG nG G0 f_grow_of [AV.sl (1 : Nat) nll0 none (List.drop (0 : Nat) (List.take (Int.toNat n2) l0)), AV.int Go.IntKind.i64 m1, AV.bool known2] []
                          (AV.tup [AV.sl (1 : Nat) b9 (some (0 : Nat)) xs10, AV.int Go.IntKind.i64 n11]) [some (Blk.grow (1 : Nat) (List.length xs10))] ∧
                        ifK (n11 != (0 : Int)) (R (AV.tup [AV.sl (1 : Nat) true (some (0 : Nat)) [], AV.int Go.IntKind.i64 n11]) [some (Blk.grow (1 : Nat) (0 : Nat))])
                          (∃ s12 n13,
                            Good PG nG G0 f_tree_Root [AV.sl (1 : Nat) nll0 none (List.drop (Int.toNat n2) (List.take (Int.toNat (↑(List.length l0) : Int)) l0))] [] (AV.tup [AV.str s12, AV.int Go.IntKind.i64 n13]) [] ∧
                              ifK (n13 != (0 : Int)) (R (AV.tup [AV.sl (1 : Nat) true (some (0 : Nat)) [], AV.int Go.IntKind.i64 n13]) [some (Blk.grow (1 : Nat) (0 : Nat))])
                                ((List.length xs10 + List.length [[AV.str s12]]) * (16 : Nat) ≤ (140737488355328 : Nat) ∧
                                  List.length xs10 = List.length xs10 ∧
                                    R (AV.tup [AV.sl (1 : Nat) (b9 && List.isEmpty [[AV.str s12]]) (some (0 : Nat)) (xs10 ++ [[AV.str s12]]), AV.int Go.IntKind.i64 (0 : Int)])
                                      [some (Blk.grow (1 : Nat) (List.length xs10 + List.length [[AV.str s12]]))]))))) :
  Hold (runF PG ty nG G0 an_grow_of f_grow_of [AV.sl (1 : Nat) nll0 none l0, AV.int Go.IntKind.i64 m1, AV.bool known2] [] R) := kshow h (by kernel_rfl)

theorem grow_Of_run (nll0 : Bool) (l0 : List (List AV)) (m1 : Int) (G0 : Nat → Option Go.Obj) (R : AV → List (Option Blk) → Prop) (h :
  ∃ s0 n1,
  Good PG nG G0 f_tree_Root [AV.sl (1 : Nat) nll0 none l0] [] (AV.tup [AV.str s0, AV.int Go.IntKind.i64 n1]) [] ∧
    ifK (n1 != (0 : Int)) (R (AV.tup [AV.sl (1 : Nat) true none [], AV.int Go.IntKind.i64 n1]) [])
      (ifK (decide (m1 < (1 : Int))) (R (AV.tup [AV.sl (1 : Nat) true none [], AV.int Go.IntKind.i64 (3 : Int)]) [])
        (ifK (decide (m1 > (↑(List.length l0) : Int))) (R (AV.tup [AV.sl (1 : Nat) true none [], AV.int Go.IntKind.i64 (3 : Int)]) [])
          (∃ b2 xs3 n4,
            Good PG nG G0 f_grow_of [AV.sl (1 : Nat) nll0 none l0, AV.int Go.IntKind.i64 m1, AV.bool true] [] (AV.tup [AV.sl (1 : Nat) b2 (some (0 : Nat)) xs3, AV.int Go.IntKind.i64 n4])
                [some (Blk.grow (1 : Nat) (List.length xs3))] ∧
              R (AV.tup [AV.sl (1 : Nat) b2 none xs3, AV.int Go.IntKind.i64 n4]) [])))) :
  Hold (runF PG ty nG G0 an_grow_Of f_grow_Of [AV.sl (1 : Nat) nll0 none l0, AV.int Go.IntKind.i64 m1] [] R) := kshow h (by kernel_rfl)

theorem greatsealref_parts_run (m0 : Int) (n1 : Int) (G0 : Nat → Option Go.Obj) (R : AV → List (Option Blk) → Prop) (h :
  Does PG nG G0 (fnOf PG f_greatsealref_parts) (0 : Nat) (lp PG f_greatsealref_parts (0 : Nat))
  (mkT (42 : Nat)
    [((0 : Nat), AV.int Go.IntKind.i64 m0), ((4 : Nat), AV.sl (2 : Nat) true (some (0 : Nat)) []), ((5 : Nat), AV.ref (1 : Nat) (0 : Nat)), ((6 : Nat), AV.bool true), ((7 : Nat), AV.int Go.IntKind.i64 (0 : Int)),
      ((8 : Nat), AV.int Go.IntKind.i64 n1)])
  [some (Blk.grow (2 : Nat) (0 : Nat)), some (Blk.var [AV.int Go.IntKind.i64 (0 : Int), AV.int Go.IntKind.i64 (0 : Int)])] R) :
  Hold (runF PG ty nG G0 an_greatsealref_parts f_greatsealref_parts [AV.int Go.IntKind.i64 m0, AV.int Go.IntKind.i64 n1] [] R) := kshow h (by kernel_rfl)

theorem greatsealref_parts_l0_run (G0 : Nat → Option Obj) (n0 : Int) (b1 : Bool) (xs2 : List (List AV)) (b3 : Bool) (n4 : Int) (n5 : Int) (m6 : Nat) (n7 : Int) (n8 : Int) (R : AV → List (Option Blk) → Prop) (h :
  ifK (decide (n0 < n5))
  (∃ n9,
    Good PG nG G0 f_greatsealref_HalfOf [AV.int Go.IntKind.i64 (Go.IntKind.wrap Go.IntKind.i64 (n5 - n4))] [] (AV.int Go.IntKind.i64 n9) [] ∧
      ifK (decide (n0 ≤ Go.IntKind.wrap Go.IntKind.i64 (n4 + n9)))
        ((List.length xs2 + List.length [[AV.int Go.IntKind.i64 (Go.IntKind.wrap Go.IntKind.i64 (n4 + n9)), AV.int Go.IntKind.i64 n5]]) * (16 : Nat) ≤ (140737488355328 : Nat) ∧
          List.length xs2 = m6 ∧
            Does PG nG G0 (fnOf PG f_greatsealref_parts) (0 : Nat) (lp PG f_greatsealref_parts (0 : Nat))
              (mkT (42 : Nat)
                [((0 : Nat), AV.int Go.IntKind.i64 n0),
                  ((4 : Nat),
                    AV.sl (2 : Nat) (b1 && List.isEmpty [[AV.int Go.IntKind.i64 (Go.IntKind.wrap Go.IntKind.i64 (n4 + n9)), AV.int Go.IntKind.i64 n5]]) (some (0 : Nat))
                      (xs2 ++ [[AV.int Go.IntKind.i64 (Go.IntKind.wrap Go.IntKind.i64 (n4 + n9)), AV.int Go.IntKind.i64 n5]])),
                  ((5 : Nat), AV.ref (1 : Nat) (0 : Nat)), ((6 : Nat), AV.bool b3), ((7 : Nat), AV.int Go.IntKind.i64 n4), ((8 : Nat), AV.int Go.IntKind.i64 (Go.IntKind.wrap Go.IntKind.i64 (n4 + n9)))])
              [some (Blk.grow (2 : Nat) (m6 + List.length [[AV.int Go.IntKind.i64 (Go.IntKind.wrap Go.IntKind.i64 (n4 + n9)), AV.int Go.IntKind.i64 n5]])), some (Blk.var [AV.int Go.IntKind.i64 n7, AV.int Go.IntKind.i64 n8])] R)
        ((List.length xs2 + List.length [[AV.int Go.IntKind.i64 n4, AV.int Go.IntKind.i64 (Go.IntKind.wrap Go.IntKind.i64 (n4 + n9))]]) * (16 : Nat) ≤ (140737488355328 : Nat) ∧
          List.length xs2 = m6 ∧
            Does PG nG G0 (fnOf PG f_greatsealref_parts) (0 : Nat) (lp PG f_greatsealref_parts (0 : Nat))
              (mkT (42 : Nat)
                [((0 : Nat), AV.int Go.IntKind.i64 n0),
                  ((4 : Nat),
                    AV.sl (2 : Nat) (b1 && List.isEmpty [[AV.int Go.IntKind.i64 n4, AV.int Go.IntKind.i64 (Go.IntKind.wrap Go.IntKind.i64 (n4 + n9))]]) (some (0 : Nat))
                      (xs2 ++ [[AV.int Go.IntKind.i64 n4, AV.int Go.IntKind.i64 (Go.IntKind.wrap Go.IntKind.i64 (n4 + n9))]])),
                  ((5 : Nat), AV.ref (1 : Nat) (0 : Nat)), ((6 : Nat), AV.bool false), ((7 : Nat), AV.int Go.IntKind.i64 (Go.IntKind.wrap Go.IntKind.i64 (n4 + n9))), ((8 : Nat), AV.int Go.IntKind.i64 n5)])
              [some (Blk.grow (2 : Nat) (m6 + List.length [[AV.int Go.IntKind.i64 n4, AV.int Go.IntKind.i64 (Go.IntKind.wrap Go.IntKind.i64 (n4 + n9))]])), some (Blk.var [AV.int Go.IntKind.i64 n7, AV.int Go.IntKind.i64 n8])] R))
  (R (AV.tup [AV.sl (2 : Nat) b1 (some (0 : Nat)) xs2, AV.agg [AV.int Go.IntKind.i64 n4, AV.int Go.IntKind.i64 n5], AV.bool b3]) [some (Blk.grow (2 : Nat) m6)])) :
  Hold (runL PG ty nG G0 an_greatsealref_parts f_greatsealref_parts (0 : Nat) (0 : Nat)
  (mkT (42 : Nat)
    [((0 : Nat), AV.int Go.IntKind.i64 n0), ((4 : Nat), AV.sl (2 : Nat) b1 (some (0 : Nat)) xs2), ((5 : Nat), AV.ref (1 : Nat) (0 : Nat)), ((6 : Nat), AV.bool b3), ((7 : Nat), AV.int Go.IntKind.i64 n4),
      ((8 : Nat), AV.int Go.IntKind.i64 n5)])
  [some (Blk.grow (2 : Nat) m6), some (Blk.var [AV.int Go.IntKind.i64 n7, AV.int Go.IntKind.i64 n8])] R) := kshow h (by kernel_rfl)

theorem greatsealref_GrowthOf_run (nll0 : Bool) (l0 : List (List AV)) (m1 : Int) (G0 : Nat → Option Go.Obj) (R : AV → List (Option Blk) → Prop) (h :
  ∃ s0 n1,
  Good PG nG G0 f_greatsealref_RootOf [AV.sl (1 : Nat) nll0 none l0] [] (AV.tup [AV.str s0, AV.int Go.IntKind.i64 n1]) [] ∧
    ifK (n1 != (0 : Int)) (R (AV.tup [AV.sl (1 : Nat) true none [], AV.int Go.IntKind.i64 n1]) [])
      (∃ b2,
        Good PG nG G0 f_greatsealref_in [AV.int Go.IntKind.i64 m1, AV.int Go.IntKind.i64 (1 : Int), AV.int Go.IntKind.i64 (↑(List.length l0) : Int)] [] (AV.bool b2) [] ∧
          ifK (!b2) (R (AV.tup [AV.sl (1 : Nat) true none [], AV.int Go.IntKind.i64 (3 : Int)]) [])
            (∃ b3 xs4 n5 n6 b7,
              ifK b3
                (Good PG nG G0 f_greatsealref_parts [AV.int Go.IntKind.i64 m1, AV.int Go.IntKind.i64 (↑(List.length l0) : Int)] [] (AV.tup [AV.sl (2 : Nat) true none [], AV.agg [AV.int Go.IntKind.i64 n5, AV.int Go.IntKind.i64 n6], AV.bool b7])
                    [] ∧
                  ifK (!b7)
                    ((0 : Int) ≤ (0 : Int) ∧
                      (0 : Int) < (2 : Int) ∧
                        (0 : Int) ≤ (1 : Int) ∧
                          (1 : Int) < (2 : Int) ∧
                            (0 : Int) ≤ n5 ∧
                              n5 ≤ n6 ∧
                                n6 ≤ (↑(List.length l0) : Int) ∧
                                  ∃ s8 n9,
                                    Good PG nG G0 f_greatsealref_RootOf [AV.sl (1 : Nat) nll0 none (List.drop (Int.toNat n5) (List.take (Int.toNat n6) l0))] [] (AV.tup [AV.str s8, AV.int Go.IntKind.i64 n9]) [] ∧
                                      List.length [[AV.str s8]] * (16 : Nat) ≤ (140737488355328 : Nat) ∧
                                        Good PG nG G0 f_slices_Reverse_pair [AV.sl (2 : Nat) true none []] [] (AV.tup []) [] ∧
                                          Does PG nG G0 (fnOf PG f_greatsealref_GrowthOf) (0 : Nat) (lp PG f_greatsealref_GrowthOf (0 : Nat))
                                            (mkT (79 : Nat)
                                              [((0 : Nat), AV.sl (1 : Nat) nll0 none l0), ((11 : Nat), AV.sl (1 : Nat) (List.isEmpty [[AV.str s8]]) (some (0 : Nat)) [[AV.str s8]]), ((57 : Nat), AV.sl (2 : Nat) true none []),
                                                ((58 : Nat), AV.int Go.IntKind.i64 (0 : Int)), ((59 : Nat), AV.int Go.IntKind.i64 (0 : Int))])
                                            [some (Blk.grow (1 : Nat) (List.length [[AV.str s8]]))] R)
                    (Good PG nG G0 f_slices_Reverse_pair [AV.sl (2 : Nat) true none []] [] (AV.tup []) [] ∧
                      Does PG nG G0 (fnOf PG f_greatsealref_GrowthOf) (0 : Nat) (lp PG f_greatsealref_GrowthOf (0 : Nat))
                        (mkT (79 : Nat)
                          [((0 : Nat), AV.sl (1 : Nat) nll0 none l0), ((11 : Nat), AV.sl (1 : Nat) true (some (0 : Nat)) []), ((57 : Nat), AV.sl (2 : Nat) true none []), ((58 : Nat), AV.int Go.IntKind.i64 (0 : Int)),
                            ((59 : Nat), AV.int Go.IntKind.i64 (0 : Int))])
                        [some (Blk.grow (1 : Nat) (0 : Nat))] R))
                (Good PG nG G0 f_greatsealref_parts [AV.int Go.IntKind.i64 m1, AV.int Go.IntKind.i64 (↑(List.length l0) : Int)] []
                    (AV.tup [AV.rsl (2 : Nat) (0 : Nat) (0 : Nat) (List.length xs4), AV.agg [AV.int Go.IntKind.i64 n5, AV.int Go.IntKind.i64 n6], AV.bool b7]) [some (Blk.arr (2 : Nat) xs4)] ∧
                  ifK (!b7)
                    ((0 : Int) ≤ (0 : Int) ∧
                      (0 : Int) < (2 : Int) ∧
                        (0 : Int) ≤ (1 : Int) ∧
                          (1 : Int) < (2 : Int) ∧
                            (0 : Int) ≤ n5 ∧
                              n5 ≤ n6 ∧
                                n6 ≤ (↑(List.length l0) : Int) ∧
                                  ∃ s10 n11,
                                    Good PG nG G0 f_greatsealref_RootOf [AV.sl (1 : Nat) nll0 none (List.drop (Int.toNat n5) (List.take (Int.toNat n6) l0))] [] (AV.tup [AV.str s10, AV.int Go.IntKind.i64 n11]) [] ∧
                                      List.length [[AV.str s10]] * (16 : Nat) ≤ (140737488355328 : Nat) ∧
                                        ∃ xs12,
                                          Good PG nG G0 f_slices_Reverse_pair [AV.rsl (2 : Nat) (0 : Nat) (0 : Nat) (List.length xs4)] [some (Blk.arr (2 : Nat) xs4)] (AV.tup []) [some (Blk.arr (2 : Nat) xs12)] ∧
                                            Does PG nG G0 (fnOf PG f_greatsealref_GrowthOf) (0 : Nat) (lp PG f_greatsealref_GrowthOf (0 : Nat))
                                              (mkT (79 : Nat)
                                                [((0 : Nat), AV.sl (1 : Nat) nll0 none l0), ((11 : Nat), AV.sl (1 : Nat) (List.isEmpty [[AV.str s10]]) (some (0 : Nat)) [[AV.str s10]]),
                                                  ((57 : Nat), AV.sl (2 : Nat) false none (List.take (List.length xs4) (List.drop (0 : Nat) xs12))),
                                                  ((58 : Nat), AV.int Go.IntKind.i64 (↑(List.length (List.take (List.length xs4) (List.drop (0 : Nat) xs12))) : Int)), ((59 : Nat), AV.int Go.IntKind.i64 (0 : Int))])
                                              [some (Blk.grow (1 : Nat) (List.length [[AV.str s10]]))] R)
                    (∃ xs13,
                      Good PG nG G0 f_slices_Reverse_pair [AV.rsl (2 : Nat) (0 : Nat) (0 : Nat) (List.length xs4)] [some (Blk.arr (2 : Nat) xs4)] (AV.tup []) [some (Blk.arr (2 : Nat) xs13)] ∧
                        Does PG nG G0 (fnOf PG f_greatsealref_GrowthOf) (0 : Nat) (lp PG f_greatsealref_GrowthOf (0 : Nat))
                          (mkT (79 : Nat)
                            [((0 : Nat), AV.sl (1 : Nat) nll0 none l0), ((11 : Nat), AV.sl (1 : Nat) true (some (0 : Nat)) []), ((57 : Nat), AV.sl (2 : Nat) false none (List.take (List.length xs4) (List.drop (0 : Nat) xs13))),
                              ((58 : Nat), AV.int Go.IntKind.i64 (↑(List.length (List.take (List.length xs4) (List.drop (0 : Nat) xs13))) : Int)), ((59 : Nat), AV.int Go.IntKind.i64 (0 : Int))])
                          [some (Blk.grow (1 : Nat) (0 : Nat))] R))))) :
  Hold (runF PG ty nG G0 an_greatsealref_GrowthOf f_greatsealref_GrowthOf [AV.sl (1 : Nat) nll0 none l0, AV.int Go.IntKind.i64 m1] [] R) := kshow h (by kernel_rfl)

theorem greatsealref_GrowthOf_l0_run (G0 : Nat → Option Obj) (b14 : Bool) (xs15 : List (List AV)) (b16 : Bool) (xs17 : List (List AV)) (b18 : Bool) (xs19 : List (List AV)) (n20 : Int) (n21 : Int) (m22 : Nat) (R : AV → List (Option Blk) → Prop) (h :
  ifK (decide (n21 < n20))
  ((0 : Int) ≤ n21 ∧
    ∃ n23 n24,
      xs19[Int.toNat n21]? = some [AV.int Go.IntKind.i64 n23, AV.int Go.IntKind.i64 n24] ∧
        (0 : Int) ≤ (0 : Int) ∧
          (0 : Int) < (2 : Int) ∧
            (0 : Int) ≤ (1 : Int) ∧
              (1 : Int) < (2 : Int) ∧
                (0 : Int) ≤ n23 ∧
                  n23 ≤ n24 ∧
                    n24 ≤ (↑(List.length xs15) : Int) ∧
                      ∃ s25 n26,
                        Good PG nG G0 f_greatsealref_RootOf [AV.sl (1 : Nat) b14 none (List.drop (Int.toNat n23) (List.take (Int.toNat n24) xs15))] [] (AV.tup [AV.str s25, AV.int Go.IntKind.i64 n26]) [] ∧
                          (List.length xs17 + List.length [[AV.str s25]]) * (16 : Nat) ≤ (140737488355328 : Nat) ∧
                            List.length xs17 = m22 ∧
                              Does PG nG G0 (fnOf PG f_greatsealref_GrowthOf) (0 : Nat) (lp PG f_greatsealref_GrowthOf (0 : Nat))
                                (mkT (79 : Nat)
                                  [((0 : Nat), AV.sl (1 : Nat) b14 none xs15), ((11 : Nat), AV.sl (1 : Nat) (b16 && List.isEmpty [[AV.str s25]]) (some (0 : Nat)) (xs17 ++ [[AV.str s25]])), ((57 : Nat), AV.sl (2 : Nat) b18 none xs19),
                                    ((58 : Nat), AV.int Go.IntKind.i64 n20), ((59 : Nat), AV.int Go.IntKind.i64 (Go.IntKind.wrap Go.IntKind.i64 (n21 + (1 : Int))))])
                                [some (Blk.grow (1 : Nat) (m22 + List.length [[AV.str s25]]))] R)
  (R (AV.tup [AV.sl (1 : Nat) b16 none xs17, AV.int Go.IntKind.i64 (0 : Int)]) [])) :
  Hold (runL PG ty nG G0 an_greatsealref_GrowthOf f_greatsealref_GrowthOf (0 : Nat) (0 : Nat)
  (mkT (79 : Nat)
    [((0 : Nat), AV.sl (1 : Nat) b14 none xs15), ((11 : Nat), AV.sl (1 : Nat) b16 (some (0 : Nat)) xs17), ((57 : Nat), AV.sl (2 : Nat) b18 none xs19), ((58 : Nat), AV.int Go.IntKind.i64 n20), ((59 : Nat), AV.int Go.IntKind.i64 n21)])
  [some (Blk.grow (1 : Nat) m22)] R) := kshow h (by kernel_rfl)

theorem greatsealref_GrowthShows_run (old0 : List UInt8) (m1 : Int) (root2 : List UInt8) (n3 : Int) (nll4 : Bool) (l4 : List (List AV)) (G0 : Nat → Option Go.Obj) (R : AV → List (Option Blk) → Prop) (h :
  ifK (decide (m1 < (1 : Int))) (R (AV.int Go.IntKind.i64 (3 : Int)) [])
  (ifK (decide (n3 < m1)) (R (AV.int Go.IntKind.i64 (3 : Int)) [])
    (ifK (decide (n3 > (24 : Int))) (R (AV.int Go.IntKind.i64 (3 : Int)) [])
      (∃ b0 xs1 n2 n3_1 b4,
        ifK b0
          (Good PG nG G0 f_greatsealref_parts [AV.int Go.IntKind.i64 m1, AV.int Go.IntKind.i64 n3] [] (AV.tup [AV.sl (2 : Nat) true none [], AV.agg [AV.int Go.IntKind.i64 n2, AV.int Go.IntKind.i64 n3_1], AV.bool b4]) [] ∧
            ifK (!b4)
              (ifK ((↑(List.length l4) : Int) != (1 : Int)) (R (AV.int Go.IntKind.i64 (7 : Int)) [])
                (ifK (!b4)
                  ((0 : Int) ≤ (0 : Int) ∧
                    ∃ s5,
                      l4[(0 : Nat)]? = some [AV.str s5] ∧
                        (0 : Int) ≤ (1 : Int) ∧
                          (1 : Int) ≤ (↑(List.length l4) : Int) ∧
                            (↑(List.length l4) : Int) ≤ (↑(List.length l4) : Int) ∧
                              Good PG nG G0 f_slices_Reverse_pair [AV.sl (2 : Nat) true none []] [] (AV.tup []) [] ∧
                                Does PG nG G0 (fnOf PG f_greatsealref_GrowthShows) (0 : Nat) (lp PG f_greatsealref_GrowthShows (0 : Nat))
                                  (mkT (113 : Nat)
                                    [((0 : Nat), AV.str old0), ((2 : Nat), AV.str root2), ((4 : Nat), AV.sl (1 : Nat) nll4 none (List.drop (1 : Nat) (List.take (Int.toNat (↑(List.length l4) : Int)) l4))),
                                      ((12 : Nat), AV.ref (0 : Nat) (0 : Nat)), ((15 : Nat), AV.str s5), ((16 : Nat), AV.str s5), ((59 : Nat), AV.sl (2 : Nat) true none []), ((60 : Nat), AV.int Go.IntKind.i64 (0 : Int)),
                                      ((61 : Nat), AV.int Go.IntKind.i64 (0 : Int))])
                                  [some (Blk.var [AV.int Go.IntKind.i64 n2, AV.int Go.IntKind.i64 n3_1])] R)
                  (Good PG nG G0 f_slices_Reverse_pair [AV.sl (2 : Nat) true none []] [] (AV.tup []) [] ∧
                    Does PG nG G0 (fnOf PG f_greatsealref_GrowthShows) (0 : Nat) (lp PG f_greatsealref_GrowthShows (0 : Nat))
                      (mkT (113 : Nat)
                        [((0 : Nat), AV.str old0), ((2 : Nat), AV.str root2), ((4 : Nat), AV.sl (1 : Nat) nll4 none l4), ((12 : Nat), AV.ref (0 : Nat) (0 : Nat)), ((15 : Nat), AV.str old0), ((16 : Nat), AV.str old0),
                          ((59 : Nat), AV.sl (2 : Nat) true none []), ((60 : Nat), AV.int Go.IntKind.i64 (0 : Int)), ((61 : Nat), AV.int Go.IntKind.i64 (0 : Int))])
                      [some (Blk.var [AV.int Go.IntKind.i64 n2, AV.int Go.IntKind.i64 n3_1])] R)))
              (ifK ((↑(List.length l4) : Int) != (0 : Int)) (R (AV.int Go.IntKind.i64 (7 : Int)) [])
                (ifK (!b4)
                  ((0 : Int) ≤ (0 : Int) ∧
                    ∃ s6,
                      l4[(0 : Nat)]? = some [AV.str s6] ∧
                        (0 : Int) ≤ (1 : Int) ∧
                          (1 : Int) ≤ (↑(List.length l4) : Int) ∧
                            (↑(List.length l4) : Int) ≤ (↑(List.length l4) : Int) ∧
                              Good PG nG G0 f_slices_Reverse_pair [AV.sl (2 : Nat) true none []] [] (AV.tup []) [] ∧
                                Does PG nG G0 (fnOf PG f_greatsealref_GrowthShows) (0 : Nat) (lp PG f_greatsealref_GrowthShows (0 : Nat))
                                  (mkT (113 : Nat)
                                    [((0 : Nat), AV.str old0), ((2 : Nat), AV.str root2), ((4 : Nat), AV.sl (1 : Nat) nll4 none (List.drop (1 : Nat) (List.take (Int.toNat (↑(List.length l4) : Int)) l4))),
                                      ((12 : Nat), AV.ref (0 : Nat) (0 : Nat)), ((15 : Nat), AV.str s6), ((16 : Nat), AV.str s6), ((59 : Nat), AV.sl (2 : Nat) true none []), ((60 : Nat), AV.int Go.IntKind.i64 (0 : Int)),
                                      ((61 : Nat), AV.int Go.IntKind.i64 (0 : Int))])
                                  [some (Blk.var [AV.int Go.IntKind.i64 n2, AV.int Go.IntKind.i64 n3_1])] R)
                  (Good PG nG G0 f_slices_Reverse_pair [AV.sl (2 : Nat) true none []] [] (AV.tup []) [] ∧
                    Does PG nG G0 (fnOf PG f_greatsealref_GrowthShows) (0 : Nat) (lp PG f_greatsealref_GrowthShows (0 : Nat))
                      (mkT (113 : Nat)
                        [((0 : Nat), AV.str old0), ((2 : Nat), AV.str root2), ((4 : Nat), AV.sl (1 : Nat) nll4 none l4), ((12 : Nat), AV.ref (0 : Nat) (0 : Nat)), ((15 : Nat), AV.str old0), ((16 : Nat), AV.str old0),
                          ((59 : Nat), AV.sl (2 : Nat) true none []), ((60 : Nat), AV.int Go.IntKind.i64 (0 : Int)), ((61 : Nat), AV.int Go.IntKind.i64 (0 : Int))])
                      [some (Blk.var [AV.int Go.IntKind.i64 n2, AV.int Go.IntKind.i64 n3_1])] R))))
          (Good PG nG G0 f_greatsealref_parts [AV.int Go.IntKind.i64 m1, AV.int Go.IntKind.i64 n3] [] (AV.tup [AV.rsl (2 : Nat) (0 : Nat) (0 : Nat) (List.length xs1), AV.agg [AV.int Go.IntKind.i64 n2, AV.int Go.IntKind.i64 n3_1], AV.bool b4])
              [some (Blk.arr (2 : Nat) xs1)] ∧
            ifK (!b4)
              (ifK ((↑(List.length l4) : Int) != Go.IntKind.wrap Go.IntKind.i64 ((↑(List.length xs1) : Int) + (1 : Int))) (R (AV.int Go.IntKind.i64 (7 : Int)) [])
                (ifK (!b4)
                  ((0 : Int) ≤ (0 : Int) ∧
                    ∃ s7,
                      l4[(0 : Nat)]? = some [AV.str s7] ∧
                        (0 : Int) ≤ (1 : Int) ∧
                          (1 : Int) ≤ (↑(List.length l4) : Int) ∧
                            (↑(List.length l4) : Int) ≤ (↑(List.length l4) : Int) ∧
                              ∃ xs8,
                                Good PG nG G0 f_slices_Reverse_pair [AV.rsl (2 : Nat) (0 : Nat) (0 : Nat) (List.length xs1)] [some (Blk.arr (2 : Nat) xs1)] (AV.tup []) [some (Blk.arr (2 : Nat) xs8)] ∧
                                  Does PG nG G0 (fnOf PG f_greatsealref_GrowthShows) (0 : Nat) (lp PG f_greatsealref_GrowthShows (0 : Nat))
                                    (mkT (113 : Nat)
                                      [((0 : Nat), AV.str old0), ((2 : Nat), AV.str root2), ((4 : Nat), AV.sl (1 : Nat) nll4 none (List.drop (1 : Nat) (List.take (Int.toNat (↑(List.length l4) : Int)) l4))),
                                        ((12 : Nat), AV.ref (0 : Nat) (0 : Nat)), ((15 : Nat), AV.str s7), ((16 : Nat), AV.str s7), ((59 : Nat), AV.sl (2 : Nat) false none (List.take (List.length xs1) (List.drop (0 : Nat) xs8))),
                                        ((60 : Nat), AV.int Go.IntKind.i64 (↑(List.length (List.take (List.length xs1) (List.drop (0 : Nat) xs8))) : Int)), ((61 : Nat), AV.int Go.IntKind.i64 (0 : Int))])
                                    [some (Blk.var [AV.int Go.IntKind.i64 n2, AV.int Go.IntKind.i64 n3_1])] R)
                  (∃ xs9,
                    Good PG nG G0 f_slices_Reverse_pair [AV.rsl (2 : Nat) (0 : Nat) (0 : Nat) (List.length xs1)] [some (Blk.arr (2 : Nat) xs1)] (AV.tup []) [some (Blk.arr (2 : Nat) xs9)] ∧
                      Does PG nG G0 (fnOf PG f_greatsealref_GrowthShows) (0 : Nat) (lp PG f_greatsealref_GrowthShows (0 : Nat))
                        (mkT (113 : Nat)
                          [((0 : Nat), AV.str old0), ((2 : Nat), AV.str root2), ((4 : Nat), AV.sl (1 : Nat) nll4 none l4), ((12 : Nat), AV.ref (0 : Nat) (0 : Nat)), ((15 : Nat), AV.str old0), ((16 : Nat), AV.str old0),
                            ((59 : Nat), AV.sl (2 : Nat) false none (List.take (List.length xs1) (List.drop (0 : Nat) xs9))),
                            ((60 : Nat), AV.int Go.IntKind.i64 (↑(List.length (List.take (List.length xs1) (List.drop (0 : Nat) xs9))) : Int)), ((61 : Nat), AV.int Go.IntKind.i64 (0 : Int))])
                        [some (Blk.var [AV.int Go.IntKind.i64 n2, AV.int Go.IntKind.i64 n3_1])] R)))
              (ifK ((↑(List.length l4) : Int) != (↑(List.length xs1) : Int)) (R (AV.int Go.IntKind.i64 (7 : Int)) [])
                (ifK (!b4)
                  ((0 : Int) ≤ (0 : Int) ∧
                    ∃ s10,
                      l4[(0 : Nat)]? = some [AV.str s10] ∧
                        (0 : Int) ≤ (1 : Int) ∧
                          (1 : Int) ≤ (↑(List.length l4) : Int) ∧
                            (↑(List.length l4) : Int) ≤ (↑(List.length l4) : Int) ∧
                              ∃ xs11,
                                Good PG nG G0 f_slices_Reverse_pair [AV.rsl (2 : Nat) (0 : Nat) (0 : Nat) (List.length xs1)] [some (Blk.arr (2 : Nat) xs1)] (AV.tup []) [some (Blk.arr (2 : Nat) xs11)] ∧
                                  Does PG nG G0 (fnOf PG f_greatsealref_GrowthShows) (0 : Nat) (lp PG f_greatsealref_GrowthShows (0 : Nat))
                                    (mkT (113 : Nat)
                                      [((0 : Nat), AV.str old0), ((2 : Nat), AV.str root2), ((4 : Nat), AV.sl (1 : Nat) nll4 none (List.drop (1 : Nat) (List.take (Int.toNat (↑(List.length l4) : Int)) l4))),
                                        ((12 : Nat), AV.ref (0 : Nat) (0 : Nat)), ((15 : Nat), AV.str s10), ((16 : Nat), AV.str s10), ((59 : Nat), AV.sl (2 : Nat) false none (List.take (List.length xs1) (List.drop (0 : Nat) xs11))),
                                        ((60 : Nat), AV.int Go.IntKind.i64 (↑(List.length (List.take (List.length xs1) (List.drop (0 : Nat) xs11))) : Int)), ((61 : Nat), AV.int Go.IntKind.i64 (0 : Int))])
                                    [some (Blk.var [AV.int Go.IntKind.i64 n2, AV.int Go.IntKind.i64 n3_1])] R)
                  (∃ xs12,
                    Good PG nG G0 f_slices_Reverse_pair [AV.rsl (2 : Nat) (0 : Nat) (0 : Nat) (List.length xs1)] [some (Blk.arr (2 : Nat) xs1)] (AV.tup []) [some (Blk.arr (2 : Nat) xs12)] ∧
                      Does PG nG G0 (fnOf PG f_greatsealref_GrowthShows) (0 : Nat) (lp PG f_greatsealref_GrowthShows (0 : Nat))
                        (mkT (113 : Nat)
                          [((0 : Nat), AV.str old0), ((2 : Nat), AV.str root2), ((4 : Nat), AV.sl (1 : Nat) nll4 none l4), ((12 : Nat), AV.ref (0 : Nat) (0 : Nat)), ((15 : Nat), AV.str old0), ((16 : Nat), AV.str old0),
                            ((59 : Nat), AV.sl (2 : Nat) false none (List.take (List.length xs1) (List.drop (0 : Nat) xs12))),
                            ((60 : Nat), AV.int Go.IntKind.i64 (↑(List.length (List.take (List.length xs1) (List.drop (0 : Nat) xs12))) : Int)), ((61 : Nat), AV.int Go.IntKind.i64 (0 : Int))])
                        [some (Blk.var [AV.int Go.IntKind.i64 n2, AV.int Go.IntKind.i64 n3_1])] R)))))))) :
  Hold (runF PG ty nG G0 an_greatsealref_GrowthShows f_greatsealref_GrowthShows [AV.str old0, AV.int Go.IntKind.i64 m1, AV.str root2, AV.int Go.IntKind.i64 n3, AV.sl (1 : Nat) nll4 none l4] [] R) := kshow h (by kernel_rfl)

theorem greatsealref_GrowthShows_l0_run (G0 : Nat → Option Obj) (s13 : List UInt8) (s14 : List UInt8) (b15 : Bool) (xs16 : List (List AV)) (s17 : List UInt8) (s18 : List UInt8) (b19 : Bool) (xs20 : List (List AV)) (n21 : Int) (n22 : Int) (n23 : Int) (n24 : Int) (R : AV → List (Option Blk) → Prop) (h :
  ifK (decide (n22 < n21))
  ((0 : Int) ≤ n22 ∧
    ∃ n25 n26,
      xs20[Int.toNat n22]? = some [AV.int Go.IntKind.i64 n25, AV.int Go.IntKind.i64 n26] ∧
        (0 : Int) ≤ (0 : Int) ∧
          (0 : Int) < (2 : Int) ∧
            (0 : Int) ≤ (1 : Int) ∧
              (1 : Int) < (2 : Int) ∧
                ifK (decide (n25 ≥ n24))
                  ((0 : Int) ≤ n22 ∧
                    ∃ s27,
                      xs16[Int.toNat n22]? = some [AV.str s27] ∧
                        ∃ s28 n29,
                          Good PG nG G0 f_greatsealref_NodeOf [AV.str s18, AV.str s27] [] (AV.tup [AV.str s28, AV.int Go.IntKind.i64 n29]) [] ∧
                            ifK (n29 != (0 : Int)) (R (AV.int Go.IntKind.i64 (7 : Int)) [])
                              (Does PG nG G0 (fnOf PG f_greatsealref_GrowthShows) (0 : Nat) (lp PG f_greatsealref_GrowthShows (0 : Nat))
                                (mkT (113 : Nat)
                                  [((0 : Nat), AV.str s13), ((2 : Nat), AV.str s14), ((4 : Nat), AV.sl (1 : Nat) b15 none xs16), ((12 : Nat), AV.ref (0 : Nat) (0 : Nat)), ((15 : Nat), AV.str s17), ((16 : Nat), AV.str s28),
                                    ((59 : Nat), AV.sl (2 : Nat) b19 none xs20), ((60 : Nat), AV.int Go.IntKind.i64 n21), ((61 : Nat), AV.int Go.IntKind.i64 (Go.IntKind.wrap Go.IntKind.i64 (n22 + (1 : Int))))])
                                [some (Blk.var [AV.int Go.IntKind.i64 n23, AV.int Go.IntKind.i64 n24])] R))
                  ((0 : Int) ≤ n22 ∧
                    ∃ s30,
                      xs16[Int.toNat n22]? = some [AV.str s30] ∧
                        ∃ s31 n32,
                          Good PG nG G0 f_greatsealref_NodeOf [AV.str s30, AV.str s17] [] (AV.tup [AV.str s31, AV.int Go.IntKind.i64 n32]) [] ∧
                            ifK (n32 != (0 : Int)) (R (AV.int Go.IntKind.i64 (7 : Int)) [])
                              ((0 : Int) ≤ n22 ∧
                                ∃ s33,
                                  xs16[Int.toNat n22]? = some [AV.str s33] ∧
                                    ∃ s34 n35,
                                      Good PG nG G0 f_greatsealref_NodeOf [AV.str s33, AV.str s18] [] (AV.tup [AV.str s34, AV.int Go.IntKind.i64 n35]) [] ∧
                                        ifK (n35 != (0 : Int)) (R (AV.int Go.IntKind.i64 (7 : Int)) [])
                                          (Does PG nG G0 (fnOf PG f_greatsealref_GrowthShows) (0 : Nat) (lp PG f_greatsealref_GrowthShows (0 : Nat))
                                            (mkT (113 : Nat)
                                              [((0 : Nat), AV.str s13), ((2 : Nat), AV.str s14), ((4 : Nat), AV.sl (1 : Nat) b15 none xs16), ((12 : Nat), AV.ref (0 : Nat) (0 : Nat)), ((15 : Nat), AV.str s31), ((16 : Nat), AV.str s34),
                                                ((59 : Nat), AV.sl (2 : Nat) b19 none xs20), ((60 : Nat), AV.int Go.IntKind.i64 n21), ((61 : Nat), AV.int Go.IntKind.i64 (Go.IntKind.wrap Go.IntKind.i64 (n22 + (1 : Int))))])
                                            [some (Blk.var [AV.int Go.IntKind.i64 n23, AV.int Go.IntKind.i64 n24])] R))))
  (ifK (!s17 == s13) (R (AV.int Go.IntKind.i64 (7 : Int)) []) (ifK (!s18 == s14) (R (AV.int Go.IntKind.i64 (7 : Int)) []) (R (AV.int Go.IntKind.i64 (0 : Int)) [])))) :
  Hold (runL PG ty nG G0 an_greatsealref_GrowthShows f_greatsealref_GrowthShows (0 : Nat) (0 : Nat)
  (mkT (113 : Nat)
    [((0 : Nat), AV.str s13), ((2 : Nat), AV.str s14), ((4 : Nat), AV.sl (1 : Nat) b15 none xs16), ((12 : Nat), AV.ref (0 : Nat) (0 : Nat)), ((15 : Nat), AV.str s17), ((16 : Nat), AV.str s18), ((59 : Nat), AV.sl (2 : Nat) b19 none xs20),
      ((60 : Nat), AV.int Go.IntKind.i64 n21), ((61 : Nat), AV.int Go.IntKind.i64 n22)])
  [some (Blk.var [AV.int Go.IntKind.i64 n23, AV.int Go.IntKind.i64 n24])] R) := kshow h (by kernel_rfl)

end Go.Ab

namespace Go.Gs

/-- The parts beside, from above; the last one, and whether it is known. -/
def partsF (m f t : Nat) (known : Bool) : List (Nat × Nat) × (Nat × Nat) × Bool :=
  if _h : t ≤ m ∨ t - f ≤ 1 then ([], (f, t), known)
  else if m ≤ f + halfN (t - f) then
    ((f + halfN (t - f), t) :: (partsF m f (f + halfN (t - f)) known).1, (partsF m f (f + halfN (t - f)) known).2)
  else ((f, f + halfN (t - f)) :: (partsF m (f + halfN (t - f)) t false).1, (partsF m (f + halfN (t - f)) t false).2)
  termination_by t - f
  decreasing_by
  all_goals
    have := halfN_pos (t - f)
    have := halfN_lt (n := t - f) (by omega)
    omega

theorem partsF_end {m f t : Nat} {known : Bool} (h : t ≤ m) : partsF m f t known = ([], (f, t), known) := by rw [partsF, dif_pos (.inl h)]
theorem partsF_left {m f t : Nat} {known : Bool} (h : ¬ t ≤ m) (h2 : ¬ t - f ≤ 1) (h3 : m ≤ f + halfN (t - f)) : partsF m f t known = ((f + halfN (t - f), t) :: (partsF m f (f + halfN (t - f)) known).1, (partsF m f (f + halfN (t - f)) known).2) := by
  rw [partsF, dif_neg (by omega), if_pos h3]
theorem partsF_right {m f t : Nat} {known : Bool} (h : ¬ t ≤ m) (h2 : ¬ t - f ≤ 1) (h3 : ¬ m ≤ f + halfN (t - f)) : partsF m f t known = ((f, f + halfN (t - f)) :: (partsF m (f + halfN (t - f)) t false).1, (partsF m (f + halfN (t - f)) t false).2) := by
  rw [partsF, dif_neg (by omega), if_neg h3]

/-- Parts lie within. -/
theorem partsF_in : ∀ (N m f t : Nat) (known : Bool), t - f ≤ N → f < m → m ≤ t →
    (∀ p ∈ (partsF m f t known).1, f ≤ p.1 ∧ p.1 < p.2 ∧ p.2 ≤ t) ∧ f ≤ (partsF m f t known).2.1.1 ∧ (partsF m f t known).2.1.1 < (partsF m f t known).2.1.2 ∧ (partsF m f t known).2.1.2 ≤ t ∧ (partsF m f t known).1.length ≤ t - f := by
  intro N
  induction N with
  | zero => intro m f t known h h1 h2; omega
  | succ N ih =>
    intro m f t known h h1 h2
    by_cases hc : t ≤ m
    · rw [partsF_end hc]
      refine ⟨fun p hp => absurd hp (by simp), Nat.le_refl _, ?_, Nat.le_refl _, by simp⟩
      show f < t
      omega
    · have hk1 := halfN_pos (t - f)
      have hk2 := halfN_lt (n := t - f) (by omega)
      by_cases h3 : m ≤ f + halfN (t - f)
      · rw [partsF_left hc (by omega) h3]
        obtain ⟨g1, g2, g3, g4, g5⟩ := ih m f (f + halfN (t - f)) known (by omega) h1 h3
        refine ⟨fun p hp => ?_, g2, g3, by simp only; omega, by simp only [List.length_cons]; omega⟩
        rcases List.mem_cons.1 hp with rfl | hp
        · simp only; omega
        · have := g1 p hp; omega
      · rw [partsF_right hc (by omega) h3]
        obtain ⟨g1, g2, g3, g4, g5⟩ := ih m (f + halfN (t - f)) t false (by omega) (by omega) h2
        refine ⟨fun p hp => ?_, by simp only; omega, g3, g4, by simp only [List.length_cons]; omega⟩
        rcases List.mem_cons.1 hp with rfl | hp
        · simp only; omega
        · have := g1 p hp; omega

/-- The seals that show growth, by parts. -/
theorem parts_grow (l : List By) : ∀ (N m f t : Nat) (known : Bool), t - f ≤ N → f < m → m ≤ t → t ≤ l.length →
    growOf (sub l f t) (m - f) known = (if (partsF m f t known).2.2 then [] else [(tRoot (sub l (partsF m f t known).2.1.1 (partsF m f t known).2.1.2)).1]) ++ (partsF m f t known).1.reverse.map fun p => (tRoot (sub l p.1 p.2)).1 := by
  intro N
  induction N with
  | zero => intro m f t known h h1 h2; omega
  | succ N ih =>
    intro m f t known h h1 h2 ht
    have hl := sub_len (l := l) (f := f) ht
    by_cases hc : t ≤ m
    · have : m - f = (sub l f t).length := by omega
      rw [partsF_end hc, this, growOf_all]
      simp
    · have hk1 := halfN_pos (t - f)
      have hk2 := halfN_lt (n := t - f) (by omega)
      rw [growOf_less (by omega) (by omega), hl, sub_take l (by omega), sub_drop]
      by_cases h3 : m ≤ f + halfN (t - f)
      · rw [partsF_left hc (by omega) h3, if_pos (by omega), ih m f _ known (by omega) h1 h3 (by omega)]
        simp
      · rw [partsF_right hc (by omega) h3, if_neg (by omega)]
        have e : m - f - halfN (t - f) = m - (f + halfN (t - f)) := by omega
        rw [e, ih m _ t false (by omega) (by omega) h2 ht]
        simp

/-- Both seals, from below: by seals that stand right or left. -/
def compG : List (Bool × By) → By → By → Option (By × By)
  | [], a, b => some (a, b)
  | (right, s) :: r, a, b =>
    if right then (if (tNode b s).2 ≠ 0 then none else compG r a (tNode b s).1)
    else if (tNode s a).2 ≠ 0 ∨ (tNode s b).2 ≠ 0 then none else compG r (tNode s a).1 (tNode s b).1

theorem compG_snoc : ∀ (xs : List (Bool × By)) (y : Bool × By) (a b : By), compG (xs ++ [y]) a b = (compG xs a b).bind fun p => compG [y] p.1 p.2
  | [], y, a, b => by simp [compG]
  | (true, s) :: r, y, a, b => by
    simp only [List.cons_append, compG, if_true]
    split
    · rfl
    · exact compG_snoc r y _ _
  | (false, s) :: r, y, a, b => by
    simp only [List.cons_append, compG, Bool.false_eq_true, if_false]
    split
    · rfl
    · exact compG_snoc r y _ _

def rightG (last p : Nat × Nat) : Bool := decide (last.2 ≤ p.1)

theorem bothS_stays_bad {m n : Nat} {old : By} {known : Bool} {s : Sh} (h1 : 1 ≤ m) (h2 : m ≤ n) (h : s.2 = true) : (bothS m n old known s).2.2.2 = true := by
  cases hc : (bothS m n old known s).2.2.2 with
  | true => rfl
  | false => rw [bothS_bad _ m n old known s (Nat.le_refl _) h1 h2 hc] at h; cases h

theorem lastS_none {b : Bool} : (lastS ([], b)).2.2 = true := by simp [lastS]

theorem bothS_few : ∀ (N m f t : Nat) (old : By) (known : Bool) (s : Sh), t - f ≤ N → f < m → m ≤ t → s.1.length < (partsF m f t known).1.length + (if (partsF m f t known).2.2 then 0 else 1) →
    (bothS (m - f) (t - f) old known s).2.2.2 = true := by
  intro N
  induction N with
  | zero => intro m f t old known s h h1 h2; omega
  | succ N ih =>
    intro m f t old known s h h1 h2 hlt
    by_cases hc : t ≤ m
    · have : m - f = t - f := by omega
      rw [partsF_end hc] at hlt
      rw [this, bothS_all]
      cases known with
      | true => simp at hlt
      | false =>
        have hs : s.1 = [] := List.eq_nil_of_length_eq_zero (by simpa using hlt)
        obtain ⟨s1, s2⟩ := s
        simp only at hs
        subst hs
        exact lastS_none
    · have hk1 := halfN_pos (t - f)
      have hk2 := halfN_lt (n := t - f) (by omega)
      have pop : s.1 = [] ∨ ∃ r x, s.1 = r ++ [x] := by
        rcases List.eq_nil_or_concat s.1 with h | ⟨r, x, h⟩
        · exact .inl h
        · exact .inr ⟨r, x, by simpa using h⟩
      rw [bothS_less (by omega) (by omega)]
      by_cases h3 : m ≤ f + halfN (t - f)
      · rw [partsF_left hc (by omega) h3] at hlt
        rw [if_pos (by omega)]
        have key : (bothS (m - f) (halfN (t - f)) old known (lastS s).2).2.2.2 = true := by
          rcases pop with h0 | ⟨r, x, h0⟩
          · refine bothS_stays_bad (by omega) (by omega) ?_
            obtain ⟨s1, s2⟩ := s
            simp only at h0
            subst h0
            exact lastS_none
          · obtain ⟨s1, s2⟩ := s
            simp only at h0
            subst h0
            rw [lastS_mk]
            have := ih m f (f + halfN (t - f)) old known (r, s2) (by omega) h1 h3 (by simp only [List.length_append, List.length_cons, List.length_nil] at hlt; simp only; omega)
            have e : f + halfN (t - f) - f = halfN (t - f) := by omega
            rwa [e] at this
        simp only [nodeS, key, Bool.true_or]
      · rw [partsF_right hc (by omega) h3] at hlt
        rw [if_neg (by omega)]
        have key : (bothS (m - f - halfN (t - f)) (t - f - halfN (t - f)) old false (lastS s).2).2.2.2 = true := by
          rcases pop with h0 | ⟨r, x, h0⟩
          · refine bothS_stays_bad (by omega) (by omega) ?_
            obtain ⟨s1, s2⟩ := s
            simp only at h0
            subst h0
            exact lastS_none
          · obtain ⟨s1, s2⟩ := s
            simp only at h0
            subst h0
            rw [lastS_mk]
            have := ih m (f + halfN (t - f)) t old false (r, s2) (by omega) (by omega) h2 (by simp only [List.length_append, List.length_cons, List.length_nil] at hlt; simp only; omega)
            have e : m - (f + halfN (t - f)) = m - f - halfN (t - f) := by omega
            have e2 : t - (f + halfN (t - f)) = t - f - halfN (t - f) := by omega
            rwa [e, e2] at this
        simp only [nodeS, key, Bool.true_or]

theorem bothS_comp : ∀ (N m f t : Nat) (old : By) (known : Bool) (rest ss : List By) (x : By), t - f ≤ N → f < m → m ≤ t → ss.length = (partsF m f t known).1.length →
    match compG (List.zip ((partsF m f t known).1.reverse.map (rightG (partsF m f t known).2.1)) ss) (if (partsF m f t known).2.2 then old else x) (if (partsF m f t known).2.2 then old else x) with
    | some p => bothS (m - f) (t - f) old known (rest ++ (if (partsF m f t known).2.2 then [] else [x]) ++ ss, false) = (p.1, p.2, rest, false)
    | none => (bothS (m - f) (t - f) old known (rest ++ (if (partsF m f t known).2.2 then [] else [x]) ++ ss, false)).2.2.2 = true := by
  intro N
  induction N with
  | zero => intro m f t old known rest ss x h h1 h2; omega
  | succ N ih =>
    intro m f t old known rest ss x h h1 h2 hss
    by_cases hc : t ≤ m
    · have : m - f = t - f := by omega
      rw [partsF_end hc] at hss ⊢
      have hs0 : ss = [] := List.eq_nil_of_length_eq_zero (by simpa using hss)
      subst hs0
      rw [this, bothS_all]
      cases known with
      | true => simp [compG]
      | false => simp [compG, lastS_mk]
    · have hk1 := halfN_pos (t - f)
      have hk2 := halfN_lt (n := t - f) (by omega)
      by_cases h3 : m ≤ f + halfN (t - f)
      · have hin := partsF_in _ m f (f + halfN (t - f)) known (Nat.le_refl _) h1 h3
        rw [partsF_left hc (by omega) h3] at hss ⊢
        simp only at hss ⊢
        have hne : ss ≠ [] := by rintro rfl; simp at hss
        obtain ⟨st, y, rfl⟩ : ∃ st y, ss = st ++ [y] := ⟨ss.dropLast, ss.getLast hne, (List.dropLast_concat_getLast hne).symm⟩
        have hsl : st.length = (partsF m f (f + halfN (t - f)) known).1.length := by simpa using hss
        have IH := ih m f (f + halfN (t - f)) old known rest st x (by omega) h1 h3 hsl
        have e : f + halfN (t - f) - f = halfN (t - f) := by omega
        rw [e] at IH
        have hr : rightG (partsF m f (f + halfN (t - f)) known).2.1 (f + halfN (t - f), t) = true := by unfold rightG; simp only [decide_eq_true_eq]; exact hin.2.2.2.1
        have hz : List.zip (((f + halfN (t - f), t) :: (partsF m f (f + halfN (t - f)) known).1).reverse.map (rightG (partsF m f (f + halfN (t - f)) known).2.1)) (st ++ [y]) =
            List.zip ((partsF m f (f + halfN (t - f)) known).1.reverse.map (rightG (partsF m f (f + halfN (t - f)) known).2.1)) st ++ [(true, y)] := by
          rw [List.reverse_cons, List.map_append, List.zip_append (by simp [hsl])]
          simp [hr]
        rw [hz, compG_snoc, bothS_less (by omega) (by omega), if_pos (show m - f ≤ halfN (t - f) by omega), ← List.append_assoc, lastS_mk]
        simp only
        cases hcg : compG (List.zip ((partsF m f (f + halfN (t - f)) known).1.reverse.map (rightG (partsF m f (f + halfN (t - f)) known).2.1)) st) (if (partsF m f (f + halfN (t - f)) known).2.2 then old else x) (if (partsF m f (f + halfN (t - f)) known).2.2 then old else x) with
        | none =>
          rw [hcg] at IH
          simp only [Option.bind_none]
          simp only at IH
          simp only [nodeS, IH, Bool.true_or]
        | some p =>
          rw [hcg] at IH
          simp only at IH
          rw [IH]
          simp only [Option.bind_some, compG, if_true, nodeS, Bool.false_or]
          by_cases hn : (tNode p.2 y).2 = 0
          · simp [hn]
          · simp [hn]
      · have hin := partsF_in _ m (f + halfN (t - f)) t false (Nat.le_refl _) (by omega) h2
        rw [partsF_right hc (by omega) h3] at hss ⊢
        simp only at hss ⊢
        have hne : ss ≠ [] := by rintro rfl; simp at hss
        obtain ⟨st, y, rfl⟩ : ∃ st y, ss = st ++ [y] := ⟨ss.dropLast, ss.getLast hne, (List.dropLast_concat_getLast hne).symm⟩
        have hsl : st.length = (partsF m (f + halfN (t - f)) t false).1.length := by simpa using hss
        have IH := ih m (f + halfN (t - f)) t old false rest st x (by omega) (by omega) h2 hsl
        have e : m - (f + halfN (t - f)) = m - f - halfN (t - f) := by omega
        have e2 : t - (f + halfN (t - f)) = t - f - halfN (t - f) := by omega
        rw [e, e2] at IH
        have hr : rightG (partsF m (f + halfN (t - f)) t false).2.1 (f, f + halfN (t - f)) = false := by
          unfold rightG
          simp only [decide_eq_false_iff_not]
          have := hin.2.1
          have := hin.2.2.1
          omega
        have hz : List.zip (((f, f + halfN (t - f)) :: (partsF m (f + halfN (t - f)) t false).1).reverse.map (rightG (partsF m (f + halfN (t - f)) t false).2.1)) (st ++ [y]) =
            List.zip ((partsF m (f + halfN (t - f)) t false).1.reverse.map (rightG (partsF m (f + halfN (t - f)) t false).2.1)) st ++ [(false, y)] := by
          rw [List.reverse_cons, List.map_append, List.zip_append (by simp [hsl])]
          simp [hr]
        rw [hz, compG_snoc, bothS_less (by omega) (by omega), if_neg (show ¬ m - f ≤ halfN (t - f) by omega), ← List.append_assoc, lastS_mk]
        simp only
        cases hcg : compG (List.zip ((partsF m (f + halfN (t - f)) t false).1.reverse.map (rightG (partsF m (f + halfN (t - f)) t false).2.1)) st) (if (partsF m (f + halfN (t - f)) t false).2.2 then old else x) (if (partsF m (f + halfN (t - f)) t false).2.2 then old else x) with
        | none =>
          rw [hcg] at IH
          simp only [Option.bind_none]
          simp only at IH
          simp only [nodeS, IH, Bool.true_or]
        | some p =>
          rw [hcg] at IH
          simp only at IH
          rw [IH]
          simp only [Option.bind_some, compG, Bool.false_eq_true, if_false, nodeS, Bool.false_or]
          by_cases hn : (tNode y p.1).2 = 0 <;> by_cases hn2 : (tNode y p.2).2 = 0
          · simp [hn, hn2]
          · simp [hn, hn2]
          · simp [hn, hn2]
          · simp [hn, hn2]

/-- Do seals show that a list goes on: by spans. -/
def growRef (old : By) (m : Nat) (root : By) (n : Nat) (l : List By) : Int :=
  if l.length ≠ (partsF m 0 n true).1.length + (if (partsF m 0 n true).2.2 then 0 else 1) then 7
  else match compG (List.zip ((partsF m 0 n true).1.reverse.map (rightG (partsF m 0 n true).2.1)) (if (partsF m 0 n true).2.2 then l else l.tail)) (if (partsF m 0 n true).2.2 then old else l.headD []) (if (partsF m 0 n true).2.2 then old else l.headD []) with
    | none => 7
    | some p => if p.1 ≠ old ∨ p.2 ≠ root then 7 else 0

theorem growRef_eq {old : By} {m : Nat} {root : By} {n : Nat} {l : List By} (h1 : 1 ≤ m) (h2 : m ≤ n) (h3 : n ≤ 24) : growShows old m root n l = growRef old m root n l := by
  unfold growShows
  rw [if_neg (by omega), Int.toNat_natCast, Int.toNat_natCast]
  unfold growRef
  rcases Nat.lt_trichotomy l.length ((partsF m 0 n true).1.length + (if (partsF m 0 n true).2.2 then 0 else 1)) with hlt | heq | hgt
  · have := bothS_few n m 0 n old true (l, false) (by omega) (by omega) h2 hlt
    simp only [Nat.sub_zero] at this
    rw [if_pos (.inl this), if_pos (by omega)]
  · rw [if_neg (show ¬ l.length ≠ _ by omega)]
    cases hk : (partsF m 0 n true).2.2 with
    | true =>
      rw [hk] at heq
      have hc := bothS_comp n m 0 n old true [] l [] (by omega) (by omega) h2 (by simpa using heq)
      simp only [Nat.sub_zero, hk, if_true, List.nil_append] at hc ⊢
      split at hc
      · rename_i p hp
        rw [hp]
        simp only [hc]
        simp
      · rename_i hp
        rw [hp, if_pos (.inl hc)]
    | false =>
      rw [hk] at heq
      have hne : l ≠ [] := by rintro rfl; simp at heq
      obtain ⟨x, ss, rfl⟩ := List.exists_cons_of_ne_nil hne
      have hc := bothS_comp n m 0 n old true [] ss x (by omega) (by omega) h2 (by simpa using heq)
      simp only [Nat.sub_zero, hk, Bool.false_eq_true, if_false, List.nil_append, List.cons_append] at hc ⊢
      simp only [List.tail_cons, List.headD_cons]
      split at hc
      · rename_i p hp
        rw [hp]
        simp only [hc]
        simp
      · rename_i hp
        rw [hp, if_pos (.inl hc)]
  · rw [if_pos (show l.length ≠ _ by omega), if_pos]
    generalize hcnt : (partsF m 0 n true).1.length + (if (partsF m 0 n true).2.2 then 0 else 1) = cnt at hgt
    have hsplit : l = l.take (l.length - cnt) ++ l.drop (l.length - cnt) := (List.take_append_drop _ _).symm
    have hdl : (l.drop (l.length - cnt)).length = cnt := by simp only [List.length_drop]; omega
    have htl : l.take (l.length - cnt) ≠ [] := by
      intro e
      have := congrArg List.length e
      simp only [List.length_take, List.length_nil] at this
      omega
    have main : ∀ (x : By) (ss : List By), ss.length = (partsF m 0 n true).1.length → l = l.take (l.length - cnt) ++ (if (partsF m 0 n true).2.2 then [] else [x]) ++ ss →
        (bothS m n old true (l, false)).2.2.2 = true ∨ (bothS m n old true (l, false)).2.2.1 ≠ [] := by
      intro x ss hss hl
      have hc := bothS_comp n m 0 n old true (l.take (l.length - cnt)) ss x (by omega) (by omega) h2 hss
      rw [← hl] at hc
      simp only [Nat.sub_zero] at hc
      split at hc
      · rw [hc]; exact .inr htl
      · exact .inl hc
    have : (bothS m n old true (l, false)).2.2.2 = true ∨ (bothS m n old true (l, false)).2.2.1 ≠ [] := by
      cases hk : (partsF m 0 n true).2.2 with
      | true =>
        rw [hk] at hcnt main
        simp only [if_true, Nat.add_zero] at hcnt
        exact main [] (l.drop (l.length - cnt)) (by omega) (by simp)
      | false =>
        rw [hk] at hcnt main
        simp only [Bool.false_eq_true, if_false] at hcnt
        have hne : l.drop (l.length - cnt) ≠ [] := by intro e; rw [e] at hdl; simp at hdl; omega
        obtain ⟨x, ss, hx⟩ := List.exists_cons_of_ne_nil hne
        refine main x ss (by rw [hx, List.length_cons] at hdl; omega) ?_
        simp only [Bool.false_eq_true, if_false, List.append_assoc, List.cons_append, List.nil_append]
        rw [← hx]; exact hsplit
    rcases this with h | h
    · exact .inl h
    · exact .inr (.inl h)
end Go.Gs

namespace Go.Ab
open Go.Proofs Go.Gs
variable {G0 : Nat → Option Obj}

theorem len_S1 (l : List By) : l.length = (l.map S1).length := by rw [List.length_map]

/-- One who takes seals, in memory. -/
def blkS (nl : Bool) (s : Sh) : List (Option Blk) := [some (.var [.sl 1 nl none (s.1.map S1), .bool s.2])]

theorem good_last (nl : Bool) (s : Sh) (hb : s.1.length ≤ 1000000000000000000) : Good PG nG G0 f_greatseal_grow_shower_last [.ref 0 0] (blkS nl s) (.str (lastS s).1) (blkS nl (lastS s).2) := by
  refine good_of_run prOk (by kernel_rfl) (greatseal_grow_shower_last_run nl _ _ G0 _ ?_)
  simp only [ifK_iff, List.length_map]
  refine ⟨fun h => ?_, fun h => ?_⟩
  · have h0 : s.1 = [] := List.eq_nil_of_length_eq_zero (by simpa using h)
    have : lastS s = ([], [], true) := by unfold lastS; rw [if_pos h0, h0]
    rw [this, h0]; exact ⟨rfl, rfl⟩
  · have h0 : s.1 ≠ [] := by intro e; rw [e] at h; simp at h
    have hpos : 0 < s.1.length := List.length_pos_iff.2 h0
    have hw : IntKind.i64.wrap ((s.1.length : Int) - 1) = ((s.1.length - 1 : Nat) : Int) := by rw [wrap64 (by omega) (by omega)]; omega
    have hl : lastS s = (s.1.getLastD [], s.1.dropLast, s.2) := by unfold lastS; rw [if_neg h0]
    rw [hw, Int.toNat_natCast, hl]
    have hg : (s.1.map S1)[s.1.length - 1]? = some [.str (s.1.getLastD [])] := by
      rw [List.getElem?_map, ← List.getLast?_eq_getElem?, List.getLastD_eq_getLast?, List.getLast?_eq_some_getLast h0]; rfl
    have hd : List.drop 0 (List.take (s.1.length - 1) (s.1.map S1)) = s.1.dropLast.map S1 := by
      rw [List.drop_zero, List.dropLast_eq_take, List.map_take]
    refine ⟨by omega, _, hg, by omega, by omega, by omega, rfl, ?_⟩
    rw [hd]; rfl

theorem good_node (hG : GlobOk G0) (nl : Bool) (s : Sh) (a b : By) : Good PG nG G0 f_greatseal_grow_shower_node [.ref 0 0, .str a, .str b] (blkS nl s) (.str (nodeS a b s).1) (blkS nl (nodeS a b s).2) := by
  refine good_of_run prOk (by kernel_rfl) (greatseal_grow_shower_node_run nl _ _ a b G0 _ ⟨_, _, good_Node hG a b, ?_⟩)
  simp only [ifK_iff]
  obtain ⟨s1, s2⟩ := s
  refine ⟨fun h => ⟨rfl, ?_⟩, fun h => ⟨rfl, ?_⟩⟩
  · simp only at h
    simp [nodeS, blkS, h]
  · simp only at h
    simp [nodeS, blkS, h]

theorem lastS_len (s : Sh) : (lastS s).2.1.length ≤ s.1.length := by
  unfold lastS
  split
  · exact Nat.le_refl _
  · simp

theorem bothS_len : ∀ (N m n : Nat) (old : By) (known : Bool) (s : Sh), n ≤ N → (bothS m n old known s).2.2.1.length ≤ s.1.length := by
  intro N
  induction N with
  | zero =>
    intro m n old known s h
    rw [bothS, dif_pos (by omega)]
    split
    · exact Nat.le_refl _
    · exact lastS_len s
  | succ N ih =>
    intro m n old known s h
    by_cases hc : n ≤ m ∨ n ≤ 1
    · rw [bothS, dif_pos hc]
      split
      · exact Nat.le_refl _
      · exact lastS_len s
    · have hk1 := halfN_pos n
      have hk2 := halfN_lt (n := n) (by omega)
      rw [bothS, dif_neg hc]
      split
      · exact Nat.le_trans (ih m (halfN n) old known (lastS s).2 (by omega)) (lastS_len s)
      · exact Nat.le_trans (ih (m - halfN n) (n - halfN n) old false (lastS s).2 (by omega)) (lastS_len s)

theorem good_both (hG : GlobOk G0) : ∀ (N m n : Nat) (old : By) (known : Bool) (nl : Bool) (s : Sh), n ≤ N → 1 ≤ m → m ≤ n → n ≤ 24 → s.1.length ≤ 1000000000000000000 →
    Good PG nG G0 f_greatseal_grow_shower_both [.ref 0 0, .int .i64 m, .int .i64 n, .str old, .bool known] (blkS nl s) (.tup [.str (bothS m n old known s).1, .str (bothS m n old known s).2.1]) (blkS nl (bothS m n old known s).2.2) := by
  intro N
  induction N with
  | zero => intro m n old known nl s h h1 h2; omega
  | succ N ih =>
    intro m n old known nl s hN h1 h2 h24 hb
    refine good_of_run prOk (by kernel_rfl) (greatseal_grow_shower_both_run nl _ _ m n old known G0 _ ?_)
    simp only [ifK_iff, beq_iff_eq, beq_eq_false_iff_ne, decide_eq_true_eq, decide_eq_false_iff_not]
    refine ⟨fun h => ?_, fun h => ?_⟩
    · obtain rfl : m = n := by omega
      rw [bothS_all]
      refine ⟨fun hk => ?_, fun hk => ⟨_, _, _, _, good_last nl s hb, ?_⟩⟩
      · rw [if_pos hk]; exact ⟨rfl, rfl⟩
      · rw [if_neg (by simp [hk])]; exact ⟨rfl, rfl⟩
    · have hk1 := halfN_pos n
      have hk2 := halfN_lt (n := n) (by omega)
      have hls := lastS_len s
      rw [bothS_less h1 (by omega)]
      refine ⟨_, _, good_Half' n (by omega) h24, _, _, _, _, good_last nl s hb, fun hc => ?_, fun hc => ?_⟩
      · rw [if_pos (by omega)]
        have := bothS_len n m (halfN n) old known (lastS s).2 (by omega)
        exact ⟨_, _, _, _, _, ih m (halfN n) old known nl (lastS s).2 (by omega) h1 (by omega) (by omega) (by omega), _, _, _, _, good_node hG nl _ _ _, rfl, rfl⟩
      · rw [if_neg (by omega)]
        have w1 : IntKind.i64.wrap ((m : Int) - (halfN n : Nat)) = ((m - halfN n : Nat) : Int) := by rw [wrap64 (by omega) (by omega)]; omega
        have w2 : IntKind.i64.wrap ((n : Int) - (halfN n : Nat)) = ((n - halfN n : Nat) : Int) := by rw [wrap64 (by omega) (by omega)]; omega
        rw [w1, w2]
        exact ⟨_, _, _, _, _, ih (m - halfN n) (n - halfN n) old false nl (lastS s).2 (by omega) (by omega) (by omega) (by omega) (by omega), _, _, _, _, good_node hG nl _ _ _, _, _, _, _, good_node hG nl _ _ _, rfl, rfl⟩

theorem good_growShows (hG : GlobOk G0) (old : By) (m : Int) (root : By) (n : Int) (nl : Bool) (l : List By) (hb : l.length ≤ 1000000000000000000) :
    Good PG nG G0 f_grow_Shows [.str old, .int .i64 m, .str root, .int .i64 n, .sl 1 nl none (l.map S1)] [] (.int .i64 (growShows old m root n l)) [] := by
  refine good_of_run prOk (by kernel_rfl) (grow_Shows_run old m root n nl _ G0 _ ?_)
  simp only [ifK_iff, decide_eq_true_eq, decide_eq_false_iff_not]
  refine ⟨fun h => ?_, fun h1 => ⟨fun h => ?_, fun h2 => ⟨fun h => ?_, fun h3 => ?_⟩⟩⟩
  · rw [growShows, if_pos (by omega)]; exact ⟨rfl, trivial⟩
  · rw [growShows, if_pos (by omega)]; exact ⟨rfl, trivial⟩
  · rw [growShows, if_pos (by omega)]; exact ⟨rfl, trivial⟩
  · obtain ⟨a, rfl⟩ := Int.eq_ofNat_of_zero_le (show 0 ≤ m by omega)
    obtain ⟨b, rfl⟩ := Int.eq_ofNat_of_zero_le (show 0 ≤ n by omega)
    have g := good_both (G0 := G0) hG b a b old true nl (l, false) (Nat.le_refl _) (by omega) (by omega) (by omega) hb
    refine ⟨_, _, _, _, _, g, ?_⟩
    rw [growShows, if_neg (by omega), Int.toNat_natCast, Int.toNat_natCast, List.length_map]
    refine ⟨fun h => ?_, fun h4 => ⟨fun h => ?_, fun h5 => ⟨fun h => ?_, fun h6 => ⟨fun h => ?_, fun h7 => ?_⟩⟩⟩⟩
    · rw [if_pos (.inl h)]; exact ⟨rfl, trivial⟩
    · rw [if_pos (.inr (.inl (by intro e; rw [e] at h; simp at h)))]; exact ⟨rfl, trivial⟩
    · rw [if_pos (.inr (.inr (.inl (by simpa using h))))]; exact ⟨rfl, trivial⟩
    · rw [if_pos (.inr (.inr (.inr (by simpa using h))))]; exact ⟨rfl, trivial⟩
    · rw [if_neg]
      · exact ⟨rfl, trivial⟩
      · simp only [not_or, ne_eq, Decidable.not_not]
        exact ⟨by simp [h4], List.eq_nil_of_length_eq_zero (by omega), by simpa using h6, by simpa using h7⟩

theorem growOf_len : ∀ (N : Nat) (l : List By) (m : Nat) (known : Bool), l.length ≤ N → (growOf l m known).length ≤ l.length + 1 := by
  intro N
  induction N with
  | zero =>
    intro l m known h
    rw [growOf, dif_pos (by omega)]
    split <;> simp
  | succ N ih =>
    intro l m known h
    by_cases hc : l.length ≤ m ∨ l.length ≤ 1
    · rw [growOf, dif_pos hc]
      split <;> simp
    · have hk1 := halfN_pos l.length
      have hk2 := halfN_lt (n := l.length) (by omega)
      rw [growOf, dif_neg hc]
      split
      · have := ih (l.take (halfN l.length)) m known (by simp only [List.length_take]; omega)
        simp only [List.length_append, List.length_take, List.length_cons, List.length_nil] at this ⊢; omega
      · have := ih (l.drop (halfN l.length)) (m - halfN l.length) false (by simp only [List.length_drop]; omega)
        simp only [List.length_append, List.length_drop, List.length_cons, List.length_nil] at this ⊢; omega

theorem good_growof (hG : GlobOk G0) : ∀ (N : Nat) (l : List By) (nl : Bool) (m : Nat) (known : Bool), l.length ≤ N → l.length ≤ 24 → (tRoot l).2 = 0 → 1 ≤ m → m ≤ l.length →
    Good PG nG G0 f_grow_of [.sl 1 nl none (l.map S1), .int .i64 m, .bool known] [] (.tup [.sl 1 (growOf l m known).isEmpty (some 0) ((growOf l m known).map S1), .int .i64 0]) [some (.grow 1 (growOf l m known).length)] := by
  intro N
  induction N with
  | zero => intro l nl m known h1 h2 h3 h4 h5; omega
  | succ N ih =>
    intro l nl m known hN h24 hr h1 hm
    refine good_of_run prOk (by kernel_rfl) (grow_of_run nl _ m known G0 _ ?_)
    simp only [ifK_iff, beq_iff_eq, beq_eq_false_iff_ne, decide_eq_true_eq, decide_eq_false_iff_not, List.length_map, bne_iff_ne, ne_eq, bne_eq_false_iff_eq]
    have gl := good_Root' (G0 := G0) hG l nl
    rw [show rootOf l = tRoot l by rw [rootOf, if_neg (by omega)], hr] at gl
    refine ⟨fun h => ⟨fun hk => ?_, fun hk => ⟨_, _, gl, ?_⟩⟩, fun h => ?_⟩
    · obtain rfl : m = l.length := by omega
      rw [growOf_all, if_pos hk]; exact ⟨rfl, rfl⟩
    · obtain rfl : m = l.length := by omega
      rw [growOf_all, if_neg (by simp [hk])]; exact ⟨rfl, rfl⟩
    · have h2 : 2 ≤ l.length := by omega
      have hk1 := halfN_pos l.length
      have hk2 := halfN_lt h2
      obtain ⟨r1, r2, _⟩ := tRoot_split hr h2
      have lt1 : (l.take (halfN l.length)).length = halfN l.length := by simp only [List.length_take]; omega
      have ld1 : (l.drop (halfN l.length)).length = l.length - halfN l.length := by simp only [List.length_drop]
      have e1 : List.drop 0 (List.take (Int.toNat (halfN l.length : Int)) (l.map S1)) = (l.take (halfN l.length)).map S1 := by simp
      have e2 : List.drop (Int.toNat (halfN l.length : Int)) (List.take (Int.toNat (l.length : Int)) (l.map S1)) = (l.drop (halfN l.length)).map S1 := by
        simp [List.take_of_length_le]
      have q1 : rootOf (l.take (halfN l.length)) = tRoot (l.take (halfN l.length)) := by rw [rootOf, if_neg (by omega)]
      have q2 : rootOf (l.drop (halfN l.length)) = tRoot (l.drop (halfN l.length)) := by rw [rootOf, if_neg (by omega)]
      have g1 := good_Root' (G0 := G0) hG (l.take (halfN l.length)) nl
      have g2 := good_Root' (G0 := G0) hG (l.drop (halfN l.length)) nl
      rw [q1, r1] at g1
      rw [q2, r2] at g2
      refine ⟨_, _, good_Half' l.length h2 h24, by omega, by omega, by omega, by omega, by omega, by omega, fun hc => ?_, fun hc => ?_⟩
      · have w1 : IntKind.i64.wrap ((m : Int) - (halfN l.length : Nat)) = ((m - halfN l.length : Nat) : Int) := by rw [wrap64 (by omega) (by omega)]; omega
        rw [w1, e1, e2]
        have := ih (l.drop (halfN l.length)) nl (m - halfN l.length) false (by omega) (by omega) r2 (by omega) (by omega)
        rw [len_S1 (growOf (l.drop (halfN l.length)) (m - halfN l.length) false)] at this
        refine ⟨_, _, _, this, fun h => absurd rfl h, fun _ => ⟨_, _, g1, fun h => absurd rfl h, fun _ => ⟨?_, trivial, ?_⟩⟩⟩
        · have := growOf_len _ (l.drop (halfN l.length)) (m - halfN l.length) false (Nat.le_refl _)
          simp only [List.length_map, List.length_cons, List.length_nil]; omega
        · rw [growOf_less (l := l) (m := m) h1 (by omega), if_neg (by omega)]
          simp [S1]
      · rw [e1, e2]
        have := ih (l.take (halfN l.length)) nl m known (by omega) (by omega) r1 h1 (by omega)
        rw [len_S1 (growOf (l.take (halfN l.length)) m known)] at this
        refine ⟨_, _, _, this, fun h => absurd rfl h, fun _ => ⟨_, _, g2, fun h => absurd rfl h, fun _ => ⟨?_, trivial, ?_⟩⟩⟩
        · have := growOf_len _ (l.take (halfN l.length)) m known (Nat.le_refl _)
          simp only [List.length_map, List.length_cons, List.length_nil]; omega
        · rw [growOf_less (l := l) (m := m) h1 (by omega), if_pos (by omega)]
          simp [S1]

/-- Seals that show growth, or what is wrong. -/
def growR (l : List By) (m : Int) : List By × Int := if (rootOf l).2 ≠ 0 then ([], (rootOf l).2) else if m < 1 ∨ l.length < m then ([], 3) else (growOf l m.toNat true, 0)

theorem good_growOf (hG : GlobOk G0) (l : List By) (nl : Bool) (m : Int) :
    Good PG nG G0 f_grow_Of [.sl 1 nl none (l.map S1), .int .i64 m] [] (.tup [.sl 1 (growR l m).1.isEmpty none ((growR l m).1.map S1), .int .i64 (growR l m).2]) [] := by
  refine good_of_run prOk (by kernel_rfl) (grow_Of_run nl _ m G0 _ ⟨_, _, good_Root' hG l nl, ?_⟩)
  simp only [ifK_iff, decide_eq_true_eq, decide_eq_false_iff_not, List.length_map, bne_iff_ne, ne_eq, bne_eq_false_iff_eq]
  refine ⟨fun h => ?_, fun h => ⟨fun h2 => ?_, fun h2 => ⟨fun h3 => ?_, fun h3 => ?_⟩⟩⟩
  · rw [growR, if_pos h]; exact ⟨rfl, trivial⟩
  · rw [growR, if_neg (by simpa using h), if_pos (.inl h2)]; exact ⟨rfl, trivial⟩
  · rw [growR, if_neg (by simpa using h), if_pos (.inr (by omega))]; exact ⟨rfl, trivial⟩
  · rw [growR, if_neg (by simpa using h), if_neg (by omega)]
    obtain ⟨k, rfl⟩ := Int.eq_ofNat_of_zero_le (show 0 ≤ m by omega)
    rw [Int.toNat_natCast]
    obtain ⟨a, b⟩ := rootOf_ok' h
    rw [b] at h
    have := good_growof hG _ l nl k true (Nat.le_refl _) a h (by omega) (by omega)
    rw [len_S1 (growOf l k true)] at this
    exact ⟨_, _, _, this, rfl, trivial⟩
end Go.Ab

namespace Go.Ab
open Go.Proofs Go.Gs
variable {G0 : Nat → Option Obj}

theorem good_parts0 (m n : Nat) (h1 : 1 ≤ m) (h2 : m ≤ n) (hn : n ≤ 1000) : Good PG nG G0 f_greatsealref_parts [.int .i64 m, .int .i64 n] []
    (.tup [.sl 2 (partsF m 0 n true).1.isEmpty (some 0) ((partsF m 0 n true).1.map P2), .agg [.int .i64 (partsF m 0 n true).2.1.1, .int .i64 (partsF m 0 n true).2.1.2], .bool (partsF m 0 n true).2.2]) [some (.grow 2 (partsF m 0 n true).1.length)] := by
  refine good_of_run prOk (by kernel_rfl) (greatsealref_parts_run m n G0 _ ?_)
  suffices main : ∀ R : AV → List (Option Blk) → Prop, R (.tup [.sl 2 (partsF m 0 n true).1.isEmpty (some 0) ((partsF m 0 n true).1.map P2), .agg [.int .i64 (partsF m 0 n true).2.1.1, .int .i64 (partsF m 0 n true).2.1.2], .bool (partsF m 0 n true).2.2]) [some (.grow 2 (partsF m 0 n true).1.length)] →
      ∀ (N f t : Nat) (known : Bool) (acc : List (Nat × Nat)), t - f ≤ N → f < m → m ≤ t → t ≤ n → acc ++ (partsF m f t known).1 = (partsF m 0 n true).1 → (partsF m f t known).2 = (partsF m 0 n true).2 →
      Does PG nG G0 (fnOf PG f_greatsealref_parts) 0 (lp PG f_greatsealref_parts 0) (mkT 42 [(0, .int .i64 m), (4, .sl 2 acc.isEmpty (some 0) (acc.map P2)), (5, .ref 1 0), (6, .bool known), (7, .int .i64 f), (8, .int .i64 t)])
        [some (.grow 2 acc.length), some (.var [.int .i64 0, .int .i64 0])] R from
    main _ ⟨rfl, rfl⟩ n 0 n true [] (by omega) (by omega) h2 (Nat.le_refl _) rfl rfl
  intro R hR N
  induction N with
  | zero => intro f t known acc g1 g2 g3; omega
  | succ N ih =>
    intro f t known acc g1 g2 g3 g4 g5 g6
    refine does_of_run prOk (greatsealref_parts_l0_run G0 _ _ _ _ _ _ _ _ _ R ?_)
    simp only [ifK_iff, decide_eq_true_eq, decide_eq_false_iff_not, List.length_map]
    by_cases hc : t ≤ m
    · rw [partsF_end hc] at g5 g6
      rw [← g5, ← g6, List.append_nil] at hR
      exact ⟨fun h => absurd h (by omega), fun _ => hR⟩
    · have hk1 := halfN_pos (t - f)
      have hk2 := halfN_lt (n := t - f) (by omega)
      have hfull := (partsF_in n m 0 n true (by omega) (by omega) h2).2.2.2.2
      have hlen := congrArg List.length g5
      rw [List.length_append] at hlen
      have w1 : IntKind.i64.wrap ((t : Int) - f) = ((t - f : Nat) : Int) := by rw [wrap64 (by omega) (by omega)]; omega
      have w2 : IntKind.i64.wrap ((f : Int) + (halfN (t - f) : Nat)) = ((f + halfN (t - f) : Nat) : Int) := by rw [wrap64 (by omega) (by omega)]; omega
      have gh := good_HalfOf (G0 := G0) ((t - f : Nat) : Int) (by omega)
      rw [Int.toNat_natCast] at gh
      have nxt : ∀ (p : Nat × Nat) f' t' k', t' - f' ≤ N → f' < m → m ≤ t' → t' ≤ n → (acc ++ [p]) ++ (partsF m f' t' k').1 = (partsF m 0 n true).1 → (partsF m f' t' k').2 = (partsF m 0 n true).2 →
          (acc.length + List.length [P2 p]) * 16 ≤ 140737488355328 ∧ True ∧
          Does PG nG G0 (fnOf PG f_greatsealref_parts) 0 (lp PG f_greatsealref_parts 0)
            (mkT 42 [(0, .int .i64 m), (4, .sl 2 (acc.isEmpty && List.isEmpty [P2 p]) (some 0) (acc.map P2 ++ [P2 p])), (5, .ref 1 0), (6, .bool k'), (7, .int .i64 f'), (8, .int .i64 t')])
            [some (.grow 2 (acc.length + List.length [P2 p])), some (.var [.int .i64 0, .int .i64 0])] R := by
        intro p f' t' k' q1 q2 q3 q4 q5 q6
        have := ih f' t' k' (acc ++ [p]) q1 q2 q3 q4 q5 q6
        have e2 : (acc ++ [p]).isEmpty = (acc.isEmpty && List.isEmpty [P2 p]) := by cases acc <;> rfl
        rw [List.map_append, e2, List.length_append] at this
        refine ⟨?_, trivial, this⟩
        simp only [List.length_cons, List.length_nil]; omega
      refine ⟨fun _ => ⟨_, by rw [w1]; exact gh, ?_⟩, fun h => absurd (show (m : Int) < t by omega) h⟩
      rw [w2]
      refine ⟨fun h3 => ?_, fun h3 => ?_⟩
      · rw [partsF_left hc (by omega) (by omega)] at g5 g6
        exact nxt (f + halfN (t - f), t) f (f + halfN (t - f)) known (by omega) g2 (by omega) (by omega) (by rw [← g5]; simp) g6
      · rw [partsF_right hc (by omega) (by omega)] at g5 g6
        exact nxt (f, f + halfN (t - f)) (f + halfN (t - f)) t false (by omega) (by omega) g3 g4 (by rw [← g5]; simp) g6

theorem good_parts_nil (m n : Nat) (h1 : 1 ≤ m) (h2 : m ≤ n) (hn : n ≤ 1000) (he : (partsF m 0 n true).1 = []) : Good PG nG G0 f_greatsealref_parts [.int .i64 m, .int .i64 n] []
    (.tup [.sl 2 true none [], .agg [.int .i64 (partsF m 0 n true).2.1.1, .int .i64 (partsF m 0 n true).2.1.2], .bool (partsF m 0 n true).2.2]) [] := by
  have := (good_parts0 (G0 := G0) m n h1 h2 hn).out
  rw [he] at this
  exact this

theorem good_parts_arr (m n : Nat) (h1 : 1 ≤ m) (h2 : m ≤ n) (hn : n ≤ 1000) (he : (partsF m 0 n true).1.isEmpty = false) : Good PG nG G0 f_greatsealref_parts [.int .i64 m, .int .i64 n] []
    (.tup [.rsl 2 0 0 ((partsF m 0 n true).1.map P2).length, .agg [.int .i64 (partsF m 0 n true).2.1.1, .int .i64 (partsF m 0 n true).2.1.2], .bool (partsF m 0 n true).2.2]) [some (.arr 2 ((partsF m 0 n true).1.map P2))] := by
  refine Good.thawT (plain_P2 _) (fun y hy => ?_) ?_
  · simp at hy
    rcases hy with rfl | rfl <;> rfl
  · have := good_parts0 (G0 := G0) m n h1 h2 hn
    rw [he] at this
    rw [List.length_map]
    exact this

theorem growO_loop (hG : GlobOk G0) (l : List By) (nl : Bool) (hl : l.length ≤ 24) (rs : List (Nat × Nat)) (nr : Bool) (hr : rs.length ≤ 24) (hrs : ∀ p ∈ rs, p.1 ≤ p.2 ∧ p.2 ≤ l.length) {R : AV → List (Option Blk) → Prop} (pre : List By) (hpre : pre.length ≤ 1)
    (hR : R (.tup [.sl 1 (pre ++ rs.map fun p => (tRoot (sub l p.1 p.2)).1).isEmpty none ((pre ++ rs.map fun p => (tRoot (sub l p.1 p.2)).1).map S1), .int .i64 0]) []) :
    ∀ (d k : Nat), rs.length - k ≤ d → k ≤ rs.length → Does PG nG G0 (fnOf PG f_greatsealref_GrowthOf) 0 (lp PG f_greatsealref_GrowthOf 0)
      (mkT 79 [(0, .sl 1 nl none (l.map S1)), (11, .sl 1 (pre.length + k == 0) (some 0) ((pre ++ (rs.take k).map fun p => (tRoot (sub l p.1 p.2)).1).map S1)), (57, .sl 2 nr none (rs.map P2)), (58, .int .i64 rs.length), (59, .int .i64 k)]) [some (.grow 1 (pre.length + k))] R := by
  intro d
  have last : ∀ k : Nat, k = rs.length → Does PG nG G0 (fnOf PG f_greatsealref_GrowthOf) 0 (lp PG f_greatsealref_GrowthOf 0)
      (mkT 79 [(0, .sl 1 nl none (l.map S1)), (11, .sl 1 (pre.length + k == 0) (some 0) ((pre ++ (rs.take k).map fun p => (tRoot (sub l p.1 p.2)).1).map S1)), (57, .sl 2 nr none (rs.map P2)), (58, .int .i64 rs.length), (59, .int .i64 k)]) [some (.grow 1 (pre.length + k))] R := by
    intro k hk
    subst hk
    refine does_of_run prOk (greatsealref_GrowthOf_l0_run G0 _ _ _ _ _ _ _ _ _ R ?_)
    simp only [ifK_iff, decide_eq_true_eq, decide_eq_false_iff_not]
    refine ⟨fun h => absurd h (by omega), fun _ => ?_⟩
    have e : (pre.length + rs.length == 0) = (pre ++ rs.map fun p => (tRoot (sub l p.1 p.2)).1).isEmpty := by cases pre <;> cases rs <;> rfl
    rw [List.take_length, e]; exact hR
  induction d with
  | zero => intro k h1 h2; exact last k (by omega)
  | succ d ih =>
    intro k h1 h2
    by_cases hk : k = rs.length
    · exact last k hk
    · have hkl : k < rs.length := by omega
      obtain ⟨b1, b2⟩ := hrs rs[k] (List.getElem_mem hkl)
      have g := good_RootOf (G0 := G0) hG (sub l rs[k].1 rs[k].2) nl
      have hsl := sub_len (l := l) (f := rs[k].1) (t := rs[k].2) b2
      rw [rootOf, if_neg (by omega)] at g
      have hlen : ((pre ++ (rs.take k).map fun p => (tRoot (sub l p.1 p.2)).1).map S1).length = pre.length + k := by simp; omega
      refine does_of_run prOk (greatsealref_GrowthOf_l0_run G0 _ _ _ _ _ _ _ _ _ R ?_)
      simp only [ifK_iff, decide_eq_true_eq, decide_eq_false_iff_not, Int.toNat_natCast]
      rw [wrapI (by omega) (by omega)]
      have := ih (k + 1) (by omega) (by omega)
      have e5 : (pre ++ (rs.take (k + 1)).map fun p => (tRoot (sub l p.1 p.2)).1) = (pre ++ (rs.take k).map fun p => (tRoot (sub l p.1 p.2)).1) ++ [(tRoot (sub l rs[k].1 rs[k].2)).1] := by
        rw [List.take_succ_eq_append_getElem hkl, List.map_append, List.append_assoc]; rfl
      have e0 : (pre.length + (k + 1) == 0) = false := rfl
      rw [e5, List.map_append, e0] at this
      refine ⟨fun _ => ⟨by omega, _, _, getX hkl, by omega, by omega, by omega, by omega, by omega, by omega, by simp; omega, _, _, by rw [Int.toNat_natCast, Int.toNat_natCast, sub_map]; exact g, by rw [hlen]; simp; omega, hlen, ?_⟩, fun h => absurd (show (k : Int) < rs.length by omega) h⟩
      simp only [List.isEmpty_cons, Bool.and_false]
      exact this

theorem good_GrowthOf (hG : GlobOk G0) (l : List By) (nl : Bool) (m : Int) :
    Good PG nG G0 f_greatsealref_GrowthOf [.sl 1 nl none (l.map S1), .int .i64 m] [] (.tup [.sl 1 (growR l m).1.isEmpty none ((growR l m).1.map S1), .int .i64 (growR l m).2]) [] := by
  refine good_of_run prOk (by kernel_rfl) (greatsealref_GrowthOf_run nl _ m G0 _ ⟨_, _, good_RootOf hG l nl, ?_⟩)
  simp only [ifK_iff, List.length_map, bne_iff_ne, ne_eq, bne_eq_false_iff_eq, Bool.not_eq_true', Bool.not_eq_false']
  refine ⟨fun h => ?_, fun h => ⟨_, good_in m 1 _, ?_⟩⟩
  · rw [growR, if_pos h]; exact ⟨rfl, trivial⟩
  simp only [decide_eq_true_eq, decide_eq_false_iff_not]
  refine ⟨fun h2 => ?_, fun h2 => ?_⟩
  · rw [growR, if_neg (by simpa using h), if_pos (by omega)]; exact ⟨rfl, trivial⟩
  · obtain ⟨k, rfl⟩ := Int.eq_ofNat_of_zero_le (show 0 ≤ m by omega)
    have hpr : growR l k = (growOf l k true, 0) := by rw [growR, if_neg (by simpa using h), if_neg (by omega), Int.toNat_natCast]
    rw [hpr]
    obtain ⟨a, b⟩ := rootOf_ok' h
    have hgp := parts_grow l l.length k 0 l.length true (by omega) (by omega) (by omega) (Nat.le_refl _)
    rw [sub_all, Nat.sub_zero] at hgp
    have hin := partsF_in l.length k 0 l.length true (by omega) (by omega) (by omega)
    generalize hpp : partsF k 0 l.length true = pp at hgp hin
    obtain ⟨bs, ⟨la, lb⟩, kn⟩ := pp
    simp only at hgp hin
    have g0 := fun he => good_parts_nil (G0 := G0) k l.length (by omega) (by omega) (by omega) he
    have g1 := fun he => good_parts_arr (G0 := G0) k l.length (by omega) (by omega) (by omega) he
    rw [hpp] at g0 g1
    simp only at g0 g1
    have main := fun pre hpre hR => growO_loop (G0 := G0) hG l nl a bs.reverse bs.isEmpty (by rw [List.length_reverse]; omega) (fun p hp => by have := hin.1 p (by simpa using hp); omega)
      (R := fun r' H'' => r' = .tup [.sl 1 (growOf l k true).isEmpty none ((growOf l k true).map S1), .int .i64 0] ∧ H'' = []) pre hpre hR bs.reverse.length 0 (by omega) (Nat.zero_le _)
    have gl := good_RootOf (G0 := G0) hG (sub l la lb) nl
    have hsl := sub_len (l := l) (f := la) (t := lb) hin.2.2.2.1
    rw [rootOf, if_neg (by omega)] at gl
    have mk := main [] (by simp)
    have mx := main [(tRoot (sub l la lb)).1] (by simp)
    cases kn with
    | true =>
      simp only [if_true, List.nil_append] at hgp
      have mk := mk ⟨by rw [List.nil_append, hgp], rfl⟩
      simp only [List.take_zero, List.map_nil, List.nil_append, List.length_nil, Nat.zero_add, List.length_reverse] at mk
      cases hb : bs with
      | nil =>
        subst hb
        exact ⟨true, [], _, _, _, fun _ => ⟨g0 rfl, fun h => (by cases h), fun _ => ⟨good_Reverse_nil, mk⟩⟩, fun h => (by cases h)⟩
      | cons x r =>
        have he : bs.isEmpty = false := by rw [hb]; rfl
        rw [he] at mk
        refine ⟨false, bs.map P2, _, _, _, fun h => (by cases h), fun _ => ⟨g1 he, fun h => (by cases h), fun _ => ⟨_, good_Reverse bs (by omega), ?_⟩⟩⟩
        have e : List.take ((bs.map P2).length) (List.drop 0 (bs.reverse.map P2)) = bs.reverse.map P2 := by
          rw [List.drop_zero, List.take_of_length_le (by simp)]
        rw [e, List.length_map, List.length_reverse]
        exact mk
    | false =>
      simp only [Bool.false_eq_true, if_false] at hgp
      have mx := mx ⟨by rw [hgp], rfl⟩
      simp only [List.take_zero, List.map_nil, List.append_nil, List.length_cons, List.length_nil, Nat.zero_add, Nat.add_zero, List.length_reverse] at mx
      cases hb : bs with
      | nil =>
        subst hb
        exact ⟨true, [], _, _, _, fun _ => ⟨g0 rfl, fun _ => ⟨by omega, by omega, by omega, by omega, by omega, by omega, by simp; omega, _, _, by rw [Int.toNat_natCast, Int.toNat_natCast, sub_map]; exact gl, by simp, good_Reverse_nil, mx⟩, fun h => (by cases h)⟩, fun h => (by cases h)⟩
      | cons x r =>
        have he : bs.isEmpty = false := by rw [hb]; rfl
        rw [he] at mx
        refine ⟨false, bs.map P2, _, _, _, fun h => (by cases h), fun _ => ⟨g1 he, fun _ => ⟨by omega, by omega, by omega, by omega, by omega, by omega, by simp; omega, _, _, by rw [Int.toNat_natCast, Int.toNat_natCast, sub_map]; exact gl, by simp, _, good_Reverse bs (by omega), ?_⟩, fun h => (by cases h)⟩⟩
        have e : List.take ((bs.map P2).length) (List.drop 0 (bs.reverse.map P2)) = bs.reverse.map P2 := by
          rw [List.drop_zero, List.take_of_length_le (by simp)]
        rw [e, List.length_map, List.length_reverse]
        exact mx
end Go.Ab

namespace Go.Ab
open Go.Proofs Go.Gs
variable {G0 : Nat → Option Obj}

/-- What both seals come to, held against what they should be. -/
def finG (old root : By) (r : Option (By × By)) : Int := match r with
  | none => 7
  | some p => if p.1 ≠ old ∨ p.2 ≠ root then 7 else 0

theorem growQ_loop (hG : GlobOk G0) (old root : By) (la : Nat) (lb : Nat) (ss : List By) (nl : Bool) (hss : ∀ s ∈ ss, s.length ≤ 4611686018427387903) (rs : List (Nat × Nat)) (nr : Bool) (hrs : rs.length ≤ 1000) (hl : ss.length = rs.length) {R : AV → List (Option Blk) → Prop} :
    ∀ (d k : Nat) (a b : By), rs.length - k ≤ d → k ≤ rs.length → a.length ≤ 4611686018427387903 → b.length ≤ 4611686018427387903 → R (.int .i64 (finG old root (compG (List.zip ((rs.map (rightG (la, lb))).drop k) (ss.drop k)) a b))) [] →
      Does PG nG G0 (fnOf PG f_greatsealref_GrowthShows) 0 (lp PG f_greatsealref_GrowthShows 0)
        (mkT 113 [(0, .str old), (2, .str root), (4, .sl 1 nl none (ss.map S1)), (12, .ref 0 0), (15, .str a), (16, .str b), (59, .sl 2 nr none (rs.map P2)), (60, .int .i64 rs.length), (61, .int .i64 k)]) [some (.var [.int .i64 la, .int .i64 lb])] R := by
  intro d
  have last : ∀ (k : Nat) (a b : By), k = rs.length → R (.int .i64 (finG old root (compG (List.zip ((rs.map (rightG (la, lb))).drop k) (ss.drop k)) a b))) [] →
      Does PG nG G0 (fnOf PG f_greatsealref_GrowthShows) 0 (lp PG f_greatsealref_GrowthShows 0)
        (mkT 113 [(0, .str old), (2, .str root), (4, .sl 1 nl none (ss.map S1)), (12, .ref 0 0), (15, .str a), (16, .str b), (59, .sl 2 nr none (rs.map P2)), (60, .int .i64 rs.length), (61, .int .i64 k)]) [some (.var [.int .i64 la, .int .i64 lb])] R := by
    intro k a b hk hR
    refine does_of_run prOk (greatsealref_GrowthShows_l0_run G0 _ _ _ _ _ _ _ _ _ _ _ _ R ?_)
    simp only [ifK_iff, decide_eq_true_eq, decide_eq_false_iff_not]
    have hcl : List.zip ((rs.map (rightG (la, lb))).drop k) (ss.drop k) = [] := by
      rw [List.drop_eq_nil_of_le (show (rs.map (rightG (la, lb))).length ≤ k by simp; omega)]; rfl
    rw [hcl] at hR
    have hR : R (.int .i64 (if a ≠ old ∨ b ≠ root then 7 else 0)) [] := hR
    refine ⟨fun h => absurd h (by omega), fun _ => ⟨fun h => ?_, fun h => ⟨fun h2 => ?_, fun h2 => ?_⟩⟩⟩
    · rw [if_pos (.inl (by simpa using h))] at hR; exact hR
    · rw [if_pos (.inr (by simpa using h2))] at hR; exact hR
    · rw [if_neg] at hR
      · exact hR
      · have h : a = old := by simpa using h
        have h2 : b = root := by simpa using h2
        simp [h, h2]
  induction d with
  | zero => intro k a b h1 h2 _ _ hR; exact last k a b (by omega) hR
  | succ d ih =>
    intro k a b h1 h2 ha hb hR
    by_cases hk : k = rs.length
    · exact last k a b hk hR
    · have hkr : k < rs.length := by omega
      have hks : k < ss.length := by omega
      have hsl := hss ss[k] (List.getElem_mem hks)
      refine does_of_run prOk (greatsealref_GrowthShows_l0_run G0 _ _ _ _ _ _ _ _ _ _ _ _ R ?_)
      rw [Int.toNat_natCast]
      simp only [ifK_iff, decide_eq_true_eq, decide_eq_false_iff_not, bne_iff_ne, ne_eq, bne_eq_false_iff_eq]
      rw [wrapI (by omega) (by omega)]
      have hz : List.zip ((rs.map (rightG (la, lb))).drop k) (ss.drop k) = (rightG (la, lb) rs[k], ss[k]) :: List.zip ((rs.map (rightG (la, lb))).drop (k + 1)) (ss.drop (k + 1)) := by
        rw [List.drop_eq_getElem_cons (show k < (rs.map (rightG (la, lb))).length by simpa using hkr), List.drop_eq_getElem_cons hks, List.getElem_map]; rfl
      rw [hz] at hR
      have ih := fun a b => ih (k + 1) a b (by omega) (by omega)
      refine ⟨fun _ => ⟨by omega, _, _, getX hkr, by omega, by omega, by omega, by omega, fun h => ⟨by omega, _, getX hks, _, _, good_NodeOf hG _ _ hb hsl, fun h3 => ?_, fun h3 => ih _ _ ha (by have := tNode_len b ss[k]; omega) ?_⟩,
        fun h => ⟨by omega, _, getX hks, _, _, good_NodeOf hG _ _ hsl ha, fun h3 => ?_, fun h3 => ⟨by omega, _, getX hks, _, _, good_NodeOf hG _ _ hsl hb, fun h4 => ?_, fun h4 => ih _ _ (by have := tNode_len ss[k] a; omega) (by have := tNode_len ss[k] b; omega) ?_⟩⟩⟩, fun h => absurd (show (k : Int) < rs.length by omega) h⟩
      · have hrt : rightG (la, lb) rs[k] = true := by unfold rightG; simp only [decide_eq_true_eq]; omega
        rw [hrt] at hR
        simp only [compG, if_true] at hR
        rw [if_pos h3] at hR
        exact hR
      · have hrt : rightG (la, lb) rs[k] = true := by unfold rightG; simp only [decide_eq_true_eq]; omega
        rw [hrt] at hR
        simp only [compG, if_true] at hR
        rw [if_neg (show ¬ (tNode b ss[k]).2 ≠ 0 by simpa using h3)] at hR
        exact hR
      · have hrt : rightG (la, lb) rs[k] = false := by unfold rightG; simp only [decide_eq_false_iff_not]; omega
        rw [hrt] at hR
        simp only [compG, Bool.false_eq_true, if_false] at hR
        rw [if_pos (.inl h3)] at hR
        exact hR
      · have hrt : rightG (la, lb) rs[k] = false := by unfold rightG; simp only [decide_eq_false_iff_not]; omega
        rw [hrt] at hR
        simp only [compG, Bool.false_eq_true, if_false] at hR
        rw [if_pos (.inr h4)] at hR
        exact hR
      · have hrt : rightG (la, lb) rs[k] = false := by unfold rightG; simp only [decide_eq_false_iff_not]; omega
        rw [hrt] at hR
        simp only [compG, Bool.false_eq_true, if_false] at hR
        rw [if_neg (show ¬ ((tNode ss[k] a).2 ≠ 0 ∨ (tNode ss[k] b).2 ≠ 0) by simp [h3, h4])] at hR
        exact hR

theorem good_GrowthShows (hG : GlobOk G0) (old : By) (hold : old.length ≤ 4611686018427387903) (m : Int) (root : By) (n : Int) (nl : Bool) (l : List By) (hl : ∀ s ∈ l, s.length ≤ 4611686018427387903) (hll : l.length ≤ 1000000000000000000) :
    Good PG nG G0 f_greatsealref_GrowthShows [.str old, .int .i64 m, .str root, .int .i64 n, .sl 1 nl none (l.map S1)] [] (.int .i64 (growShows old m root n l)) [] := by
  refine good_of_run prOk (by kernel_rfl) (greatsealref_GrowthShows_run old m root n nl _ G0 _ ?_)
  rw [ifK_iff]
  refine ⟨fun h => ?_, fun h1 => ?_⟩
  · have h : m < 1 := by simpa using h
    rw [growShows, if_pos (.inl h)]; exact ⟨rfl, rfl⟩
  rw [ifK_iff]
  refine ⟨fun h => ?_, fun h2 => ?_⟩
  · have h : n < m := by simpa using h
    rw [growShows, if_pos (.inr (.inl h))]; exact ⟨rfl, rfl⟩
  rw [ifK_iff]
  refine ⟨fun h => ?_, fun h3 => ?_⟩
  · have h : 24 < n := by simpa using h
    rw [growShows, if_pos (.inr (.inr h))]; exact ⟨rfl, rfl⟩
  have h1 : ¬ m < 1 := by simpa using h1
  have h2 : ¬ n < m := by simpa using h2
  have h3 : ¬ 24 < n := by simpa using h3
  obtain ⟨a, rfl⟩ := Int.eq_ofNat_of_zero_le (show 0 ≤ m by omega)
  obtain ⟨b, rfl⟩ := Int.eq_ofNat_of_zero_le (show 0 ≤ n by omega)
  rw [growRef_eq (by omega) (by omega) (by omega)]
  unfold growRef
  have hin := partsF_in b a 0 b true (by omega) (by omega) (by omega)
  have g0 := fun he => good_parts_nil (G0 := G0) a b (by omega) (by omega) (by omega) he
  have g1 := fun he => good_parts_arr (G0 := G0) a b (by omega) (by omega) (by omega) he
  generalize partsF a 0 b true = pp at hin g0 g1
  obtain ⟨bs, ⟨la, lb⟩, kn⟩ := pp
  simp only at hin g0 g1
  have loop := fun (ss : List By) hss hlen (x : By) hx => growQ_loop (G0 := G0) hG old root la lb ss nl hss bs.reverse bs.isEmpty (by rw [List.length_reverse]; omega) hlen
    (R := fun r' H'' => r' = .int .i64 (finG old root (compG (List.zip (bs.reverse.map (rightG (la, lb))) ss) x x)) ∧ H'' = []) bs.reverse.length 0 x x (by omega) (by omega) hx hx ⟨rfl, rfl⟩
  have e : List.take ((bs.map P2).length) (List.drop 0 (bs.reverse.map P2)) = bs.reverse.map P2 := by
    rw [List.drop_zero, List.take_of_length_le (by simp)]
  have hw : IntKind.i64.wrap ((bs.length : Int) + 1) = ((bs.length + 1 : Nat) : Int) := by rw [wrapI (by omega) (by omega)]; omega
  cases kn with
  | true =>
    simp only [if_true, Nat.add_zero]
    have loop := fun hlen => loop l hl hlen old hold
    simp only [List.length_reverse] at loop
    cases hbs : bs with
    | nil =>
      subst hbs
      refine ⟨true, [], (la : Int), (lb : Int), true, ?_⟩
      rw [ifT]
      refine ⟨g0 rfl, ?_⟩
      simp only [Bool.not_true, ifF, List.length_map]
      rw [ifK_iff]
      refine ⟨fun h => ?_, fun h => ⟨good_Reverse_nil, ?_⟩⟩
      · have h : l.length ≠ 0 := by intro e; rw [e] at h; simp at h
        rw [if_pos (by simpa using h)]; exact ⟨rfl, trivial⟩
      · have h : l.length = 0 := by simpa using h
        rw [if_neg (by simpa using h)]
        exact loop (by simpa using h)
    | cons x r =>
      have he : bs.isEmpty = false := by rw [hbs]; rfl
      rw [← hbs]
      rw [he] at loop
      refine ⟨false, bs.map P2, (la : Int), (lb : Int), true, ?_⟩
      rw [ifF]
      refine ⟨g1 he, ?_⟩
      simp only [Bool.not_true, ifF]
      rw [ifK_iff]
      refine ⟨fun h => ?_, fun h => ⟨_, good_Reverse bs (by omega), ?_⟩⟩
      · have h : l.length ≠ bs.length := by intro e; rw [List.length_map, List.length_map, e] at h; simp at h
        rw [if_pos h]; exact ⟨rfl, trivial⟩
      · have h : l.length = bs.length := by
          rw [List.length_map, List.length_map] at h
          have h : (l.length : Int) = (bs.length : Int) := by simpa using h
          omega
        rw [if_neg (by omega), e, List.length_map, List.length_reverse]
        exact loop h
  | false =>
    simp only [Bool.false_eq_true, if_false]
    have nil1 : l.length = bs.length + 1 → ∃ x ss, l = x :: ss := fun h => List.exists_cons_of_ne_nil (by intro e; rw [e] at h; simp at h)
    have hdr : ∀ (x : By) (ss : List By), List.drop 1 (List.take (Int.toNat (((x :: ss).map S1).length : Int)) ((x :: ss).map S1)) = ss.map S1 := by
      intro x ss
      rw [Int.toNat_natCast, List.take_of_length_le (Nat.le_refl _)]; rfl
    cases hbs : bs with
    | nil =>
      subst hbs
      refine ⟨true, [], (la : Int), (lb : Int), false, ?_⟩
      rw [ifT]
      refine ⟨g0 rfl, ?_⟩
      simp only [Bool.not_false, ifT]
      rw [ifK_iff]
      refine ⟨fun h => ?_, fun h => ?_⟩
      · have h : l.length ≠ 1 := by intro e; rw [List.length_map, e] at h; simp at h
        rw [if_pos (by simpa using h)]; exact ⟨rfl, trivial⟩
      · have h : l.length = 1 := by rw [List.length_map] at h; have h : (l.length : Int) = 1 := by simpa using h
                                    omega
        obtain ⟨x, ss, rfl⟩ := nil1 (by simpa using h)
        have lp := loop ss (fun s hs => hl s (by simp [hs])) (by simpa using h) x (hl x (by simp))
        rw [if_neg (by simpa using h), hdr]
        simp only [List.length_reverse] at lp
        exact ⟨by omega, _, rfl, by omega, by rw [List.length_map, List.length_cons]; omega, Int.le_refl _, good_Reverse_nil, lp⟩
    | cons y r =>
      have he : bs.isEmpty = false := by rw [hbs]; rfl
      rw [← hbs]
      refine ⟨false, bs.map P2, (la : Int), (lb : Int), false, ?_⟩
      rw [ifF]
      refine ⟨g1 he, ?_⟩
      simp only [Bool.not_false, ifT]
      rw [List.length_map, List.length_map, hw, ifK_iff]
      refine ⟨fun h => ?_, fun h => ?_⟩
      · have h : l.length ≠ bs.length + 1 := by intro e; rw [e] at h; simp at h
        rw [if_pos h]; exact ⟨rfl, trivial⟩
      · have h : l.length = bs.length + 1 := by
          have h : (l.length : Int) = ((bs.length + 1 : Nat) : Int) := by simpa using h
          omega
        obtain ⟨x, ss, rfl⟩ := nil1 h
        have lp := loop ss (fun s hs => hl s (by simp [hs])) (by simp at h ⊢; omega) x (hl x (by simp))
        rw [he] at lp
        have hdr := hdr x ss
        rw [List.length_map] at hdr
        rw [if_neg (by simpa using h), hdr]
        rw [List.length_map] at e
        have gR := good_Reverse (G0 := G0) bs (by omega)
        rw [List.length_map] at gR
        refine ⟨by omega, _, rfl, by omega, by rw [List.length_cons]; omega, Int.le_refl _, _, gR, ?_⟩
        rw [e, List.length_map]
        exact lp
end Go.Ab

namespace Go.Ab
open Go.Proofs
set_option maxRecDepth 100000



end Go.Ab

namespace Go.Ab
open Go.Proofs Go.Gs
variable {G0 : Nat → Option Obj}

theorem growR_ok {l : List By} {m : Nat} (h : (rootOf l).2 = 0) (h1 : 1 ≤ m) (hm : m ≤ l.length) : growR l m = (growOf l m true, 0) := by rw [growR, if_neg (by simpa using h), if_neg (by omega), Int.toNat_natCast]

end Go.Ab

namespace Go.Ab
open Go.Proofs
set_option maxRecDepth 100000



end Go.Ab

namespace Go.Ab
open Go.Proofs Go.Gs
variable {G0 : Nat → Option Obj}

def showG (b : Bk) (m : Int) : List By × Int := if checkB b ≠ 0 then ([], checkB b) else growR (textsOf b) m
def showV (b : Bk) (k : Int) : (By × Bool × List By) × Int :=
  if checkB b ≠ 0 then (([], false, []), checkB b) else if (pathM (valsOf b) k).2 ≠ 0 then (([], false, []), (pathM (valsOf b) k).2) else (((mGet (valsOf b) k).getD [], (mGet (valsOf b) k).isSome, (pathM (valsOf b) k).1), 0)

theorem good_showGrowth (hG : GlobOk G0) (b : Bk) (nl : Bool) (m : Int) : Good PG nG G0 f_show_Growth [.agg [.sl 2 nl none (b.map E2)], .int .i64 m] []
    (.tup [.sl 1 (showG b m).1.isEmpty none ((showG b m).1.map S1), .int .i64 (showG b m).2]) [] := by
  refine good_of_run prOk (by kernel_rfl) (show_Growth_run nl _ m G0 _ ⟨_, good_bookCheck b nl, ?_⟩)
  unfold showG
  refine ifK_ne0 (fun h => ?_) fun h => ?_
  · rw [if_pos h]; exact ⟨rfl, rfl⟩
  · rw [if_neg (by simpa using h)]
    have hb := (checkB_ok h).1
    exact ⟨_, _, good_Texts hG b nl (BkR_of_check h) (by omega), _, _, _, good_growOf hG _ _ _, rfl, rfl⟩

theorem good_showValue (hG : GlobOk G0) (b : Bk) (nl : Bool) (k : Int) : Good PG nG G0 f_show_Value [.agg [.sl 2 nl none (b.map E2)], .int .i64 k] []
    (.tup [.str (showV b k).1.1, .bool (showV b k).1.2.1, .sl 1 (showV b k).1.2.2.isEmpty none ((showV b k).1.2.2.map S1), .int .i64 (showV b k).2]) [] := by
  unfold showV
  by_cases h : checkB b = 0
  · refine good_of_run prOk (by kernel_rfl) (show_Value_run nl _ k G0 _ ⟨_, _, _, good_Values b nl h, ?_⟩)
    rw [if_neg (by simpa using h)]
    simp only [bne_self_eq_false, ifF]
    refine ⟨_, _, _, good_triePath hG _ _ (valsOf_nodup b) k, ifK_ne0 (fun h2 => ?_) fun h2 => ?_⟩
    · rw [if_pos h2]; exact ⟨rfl, trivial⟩
    · rw [if_neg (by simpa using h2)]
      exact ⟨_, _, mlookD_KV _ _, rfl, trivial⟩
  · refine good_of_run prOk (by kernel_rfl) (show_Value_run nl _ k G0 _ ⟨_, _, _, good_Values_bad b nl h, ?_⟩)
    rw [if_pos h]
    exact ifK_ne0 (fun _ => ⟨rfl, rfl⟩) fun h2 => absurd h2 h

theorem book_rooted {b : Bk} (h : checkB b = 0) : (rootOf (textsOf b)).2 = 0 ∧ rootOf (textsOf b) = tRoot (textsOf b) ∧ (textsOf b).length ≤ 24 := by
  have hb := (checkB_ok h).1
  have e1 : rootOf (textsOf b) = tRoot (textsOf b) := by rw [rootOf, if_neg (by rw [texts_len]; omega)]
  exact ⟨by rw [e1]; exact (texts_good h).1, e1, by rw [texts_len]; exact hb⟩

theorem showV_ok {b : Bk} (h : checkB b = 0) {k : Nat} (hk : k < 16) : showV b k = (((mGet (valsOf b) k).getD [], (mGet (valsOf b) k).isSome, triePath (fM (valsOf b)) k 4), 0) := by
  unfold showV
  rw [if_neg (by simpa using h), pathM_ok (valsOf_check h) hk, if_neg (by simp)]

theorem textsOf_take (b : Bk) (m : Nat) : (textsOf b).take m = textsOf (b.take m) := by rw [textsOf, textsOf, List.map_take]

theorem book_growShows {b : Bk} (h : checkB b = 0) {m : Nat} (h1 : 1 ≤ m) (hm : m ≤ b.length) (old : By) (seals : List By) :
    growShows old m (tRoot (textsOf b)).1 b.length seals = 0 ↔ old = (tRoot (textsOf (b.take m))).1 ∧ seals = growOf (textsOf b) m true := by
  obtain ⟨r1, r2, r3⟩ := book_rooted h
  have iff := growShows_iff r3 (by rw [← r2]; exact r1) h1 (by rw [texts_len]; exact hm) old seals
  rw [texts_len, textsOf_take] at iff
  exact iff

end Go.Ab

namespace Go.Ab
open Go.Proofs Go.Gs
variable {G0 : Nat → Option Obj}

/-- Two heads, the lesser one first. -/
def meetS (a b : Hd) (l : List By) : Int := if a.n = 0 then (if l = [] then 0 else 7) else if a.n = b.n ∧ a.mp ≠ b.mp then 7 else growShows a.log a.n b.log b.n l
def meetR (a b : Hd) (l : List By) : Int := if checkH a ≠ 0 then checkH a else if checkH b ≠ 0 then checkH b else if b.n < a.n then meetS b a l else meetS a b l

theorem good_Same (hG : GlobOk G0) (a b : Hd) (nl : Bool) (l : List By) (hl : l.length ≤ 1000000000000000000) : Good PG nG G0 f_meet_Same [.agg [.int .i64 a.n, .str a.log, .str a.mp], .agg [.int .i64 b.n, .str b.log, .str b.mp], .sl 1 nl none (l.map S1)] [] (.int .i64 (meetR a b l)) [] := by
  refine good_of_run prOk (by kernel_rfl) (meet_Same_run _ _ _ _ _ _ nl _ G0 _ ⟨_, good_noteCheck a, ?_⟩)
  unfold meetR
  refine ifK_ne0 (fun h => ⟨by rw [if_pos h], rfl⟩) fun h => ?_
  rw [if_neg (by simpa using h)]
  refine ⟨_, good_noteCheck b, ifK_ne0 (fun h2 => ⟨by rw [if_pos h2], rfl⟩) fun h2 => ?_⟩
  rw [if_neg (by simpa using h2)]
  have g1 := good_growShows (G0 := G0) hG b.log b.n a.log a.n nl l hl
  have g2 := good_growShows (G0 := G0) hG a.log a.n b.log b.n nl l hl
  simp only [ifK_iff, decide_eq_true_eq, decide_eq_false_iff_not, beq_iff_eq, beq_eq_false_iff_ne, List.length_map, ne_eq, Bool.not_eq_true', Bool.not_eq_false']
  have hlen : ((l.length : Int) > 0) ↔ l ≠ [] := by
    cases l <;> simp
  unfold meetS
  refine ⟨fun c1 => ⟨fun c2 => ⟨fun c3 => ?_, fun c3 => ⟨fun c4 => ?_, fun c4 => absurd c2 c4⟩⟩, fun c2 => ⟨fun c4 => absurd c4 c2, fun c4 => ⟨fun c5 => ⟨fun c6 => ?_, fun c6 => ?_⟩, fun c5 => ?_⟩⟩⟩,
    fun c1 => ⟨fun c2 => ⟨fun c3 => ?_, fun c3 => ⟨fun c4 => ?_, fun c4 => absurd c2 c4⟩⟩, fun c2 => ⟨fun c4 => absurd c4 c2, fun c4 => ⟨fun c5 => ⟨fun c6 => ?_, fun c6 => ?_⟩, fun c5 => ?_⟩⟩⟩⟩
  · rw [if_pos (by omega), if_pos c2, if_neg (hlen.1 c3)]; exact ⟨rfl, trivial⟩
  · rw [if_pos (by omega), if_pos c2, if_pos (Decidable.not_not.1 fun e => c3 (hlen.2 e))]; exact ⟨rfl, trivial⟩
  · rw [if_pos (by omega), if_neg c2, if_pos ⟨c5, c6⟩]; exact ⟨rfl, trivial⟩
  · rw [if_pos (by omega), if_neg c2, if_neg (by rintro ⟨_, e⟩; exact e c6)]; exact ⟨_, g1, rfl, trivial⟩
  · rw [if_pos (by omega), if_neg c2, if_neg (by rintro ⟨e, _⟩; exact c5 e)]; exact ⟨_, g1, rfl, trivial⟩
  · rw [if_neg (by omega), if_pos c2, if_neg (hlen.1 c3)]; exact ⟨rfl, trivial⟩
  · rw [if_neg (by omega), if_pos c2, if_pos (Decidable.not_not.1 fun e => c3 (hlen.2 e))]; exact ⟨rfl, trivial⟩
  · rw [if_neg (by omega), if_neg c2, if_pos ⟨c5, c6⟩]; exact ⟨rfl, trivial⟩
  · rw [if_neg (by omega), if_neg c2, if_neg (by rintro ⟨_, e⟩; exact e c6)]; exact ⟨_, g2, rfl, trivial⟩
  · rw [if_neg (by omega), if_neg c2, if_neg (by rintro ⟨e, _⟩; exact c5 e)]; exact ⟨_, g2, rfl, trivial⟩

theorem good_Meets (hG : GlobOk G0) (a b : Hd) (ha : a.log.length ≤ 4611686018427387903) (hb : b.log.length ≤ 4611686018427387903) (nl : Bool) (l : List By) (hs : ∀ s ∈ l, s.length ≤ 4611686018427387903) (hl : l.length ≤ 1000000000000000000) : Good PG nG G0 f_greatsealref_Meets [.agg [.int .i64 a.n, .str a.log, .str a.mp], .agg [.int .i64 b.n, .str b.log, .str b.mp], .sl 1 nl none (l.map S1)] [] (.int .i64 (meetR a b l)) [] := by
  refine good_of_run prOk (by kernel_rfl) (greatsealref_Meets_run _ _ _ _ _ _ nl _ G0 _ ⟨_, good_CheckHead a, ?_⟩)
  unfold meetR
  refine ifK_ne0 (fun h => ⟨by rw [if_pos h], rfl⟩) fun h => ?_
  rw [if_neg (by simpa using h)]
  refine ⟨_, good_CheckHead b, ifK_ne0 (fun h2 => ⟨by rw [if_pos h2], rfl⟩) fun h2 => ?_⟩
  rw [if_neg (by simpa using h2)]
  have g1 := good_GrowthShows (G0 := G0) hG b.log hb b.n a.log a.n nl l hs hl
  have g2 := good_GrowthShows (G0 := G0) hG a.log ha a.n b.log b.n nl l hs hl
  simp only [ifK_iff, decide_eq_true_eq, decide_eq_false_iff_not, beq_iff_eq, beq_eq_false_iff_ne, List.length_map, ne_eq, Bool.not_eq_true', Bool.not_eq_false']
  have hlen : ((l.length : Int) > 0) ↔ l ≠ [] := by
    cases l <;> simp
  unfold meetS
  refine ⟨fun c1 => ⟨fun c2 => ⟨fun c3 => ?_, fun c3 => ?_⟩, fun c2 => ⟨fun c5 => ⟨fun c6 => ?_, fun c6 => ?_⟩, fun c5 => ?_⟩⟩,
    fun c1 => ⟨fun c2 => ⟨fun c3 => ?_, fun c3 => ?_⟩, fun c2 => ⟨fun c5 => ⟨fun c6 => ?_, fun c6 => ?_⟩, fun c5 => ?_⟩⟩⟩
  · rw [if_pos c1, if_pos c2, if_neg (hlen.1 c3)]; exact ⟨rfl, trivial⟩
  · rw [if_pos c1, if_pos c2, if_pos (Decidable.not_not.1 fun e => c3 (hlen.2 e))]; exact ⟨rfl, trivial⟩
  · rw [if_pos c1, if_neg c2, if_pos ⟨c5, c6⟩]; exact ⟨rfl, trivial⟩
  · rw [if_pos c1, if_neg c2, if_neg (by rintro ⟨_, e⟩; exact e c6)]; exact ⟨_, g1, rfl, trivial⟩
  · rw [if_pos c1, if_neg c2, if_neg (by rintro ⟨e, _⟩; exact c5 e)]; exact ⟨_, g1, rfl, trivial⟩
  · rw [if_neg c1, if_pos c2, if_neg (hlen.1 c3)]; exact ⟨rfl, trivial⟩
  · rw [if_neg c1, if_pos c2, if_pos (Decidable.not_not.1 fun e => c3 (hlen.2 e))]; exact ⟨rfl, trivial⟩
  · rw [if_neg c1, if_neg c2, if_pos ⟨c5, c6⟩]; exact ⟨rfl, trivial⟩
  · rw [if_neg c1, if_neg c2, if_neg (by rintro ⟨_, e⟩; exact e c6)]; exact ⟨_, g2, rfl, trivial⟩
  · rw [if_neg c1, if_neg c2, if_neg (by rintro ⟨e, _⟩; exact c5 e)]; exact ⟨_, g2, rfl, trivial⟩

end Go.Ab

namespace Go.Ab
open Go.Proofs Go.Gs
variable {G0 : Nat → Option Obj}

/-- A client: its head, whether it was fooled. -/
abbrev Cl := Hd × Bool

def followR (c : Cl) (h : Hd) (l : List By) : Cl × Int :=
  if checkH c.1 ≠ 0 then ((hd0, false), checkH c.1) else if checkH h ≠ 0 then ((hd0, false), checkH h) else if h.n < c.1.n then ((hd0, false), 6)
  else if (c.1.n = 0 ∧ l = []) ∨ (0 < c.1.n ∧ growShows c.1.log c.1.n h.log h.n l = 0 ∧ (c.1.n < h.n ∨ h.mp = c.1.mp)) then ((h, c.2), 0) else ((c.1, true), 7)

theorem checkH_ok {h : Hd} (e : checkH h = 0) : 0 ≤ h.n ∧ h.n ≤ 24 ∧ h.log.length ≤ 20000 ∧ h.mp.length ≤ 20000 := by
  unfold checkH at e
  split at e
  · cases e
  · split at e
    · cases e
    · omega

theorem good_Follow (hG : GlobOk G0) (c : Cl) (h : Hd) (nl : Bool) (l : List By) (hl : l.length ≤ 1000000000000000000) :
    Good PG nG G0 f_client_Follow [.agg [.int .i64 c.1.n, .str c.1.log, .str c.1.mp, .bool c.2], .agg [.int .i64 h.n, .str h.log, .str h.mp], .sl 1 nl none (l.map S1)] []
      (.tup [.agg [.int .i64 (followR c h l).1.1.n, .str (followR c h l).1.1.log, .str (followR c h l).1.1.mp, .bool (followR c h l).1.2], .int .i64 (followR c h l).2]) [] := by
  obtain ⟨c, cf⟩ := c
  refine good_of_run prOk (by kernel_rfl) (client_Follow_run _ _ _ _ _ _ _ nl _ G0 _ ⟨_, good_noteCheck c, ?_⟩)
  unfold followR
  simp only
  refine ifK_ne0 (fun h1 => ⟨by rw [if_pos h1]; rfl, trivial⟩) fun h1 => ?_
  rw [if_neg (by simpa using h1)]
  refine ⟨_, good_noteCheck h, ifK_ne0 (fun h2 => ⟨by rw [if_pos h2]; rfl, trivial⟩) fun h2 => ?_⟩
  rw [if_neg (by simpa using h2)]
  have g := good_growShows (G0 := G0) hG c.log c.n h.log h.n nl l hl
  have hc := checkH_ok h1
  simp only [ifK_iff, decide_eq_true_eq, decide_eq_false_iff_not, beq_iff_eq, beq_eq_false_iff_ne, List.length_map, ne_eq, Bool.not_eq_true', Bool.not_eq_false']
  have hlen : ((l.length : Int) = 0) ↔ l = [] := by
    cases l <;> simp; omega
  refine ⟨fun c1 => ⟨by rw [if_pos c1]; rfl, trivial⟩, fun c1 => ?_⟩
  rw [if_neg c1]
  refine ⟨fun c2 => ⟨fun c3 => by omega, fun _ => ⟨fun c4 => ?_, fun c4 => ?_⟩⟩, fun c2 => ⟨fun c3 => ⟨_, g, fun c4 => ⟨fun c5 => ?_, fun c5 => ⟨fun c6 => ?_, fun c6 => ?_⟩⟩, fun c4 => ?_⟩, fun c3 => by omega⟩⟩
  · rw [if_neg (by rintro (⟨_, e⟩ | ⟨e, _⟩); exact c4 (hlen.2 e); omega)]; exact ⟨rfl, trivial⟩
  · rw [if_pos (.inl ⟨c2, hlen.1 c4⟩)]; exact ⟨rfl, trivial⟩
  · rw [if_pos (.inr ⟨c3, c4, .inl c5⟩)]; exact ⟨rfl, trivial⟩
  · rw [if_neg (by rintro (⟨e, _⟩ | ⟨_, _, e | e⟩); exact c2 e; exact c5 e; exact c6 e)]; exact ⟨rfl, trivial⟩
  · rw [if_pos (.inr ⟨c3, c4, .inr c6⟩)]; exact ⟨rfl, trivial⟩
  · rw [if_neg (by rintro (⟨e, _⟩ | ⟨_, e, _⟩); exact c2 e; exact c4 e)]; exact ⟨rfl, trivial⟩

theorem good_Follows (hG : GlobOk G0) (c : Cl) (h : Hd) (nl : Bool) (l : List By) (hs : ∀ s ∈ l, s.length ≤ 4611686018427387903) (hl : l.length ≤ 1000000000000000000) :
    Good PG nG G0 f_greatsealref_Follows [.agg [.int .i64 c.1.n, .str c.1.log, .str c.1.mp, .bool c.2], .agg [.int .i64 h.n, .str h.log, .str h.mp], .sl 1 nl none (l.map S1)] []
      (.tup [.agg [.int .i64 (followR c h l).1.1.n, .str (followR c h l).1.1.log, .str (followR c h l).1.1.mp, .bool (followR c h l).1.2], .int .i64 (followR c h l).2]) [] := by
  obtain ⟨c, cf⟩ := c
  refine good_of_run prOk (by kernel_rfl) (greatsealref_Follows_run _ _ _ _ _ _ _ nl _ G0 _ ⟨_, good_CheckHead c, ?_⟩)
  unfold followR
  simp only
  by_cases h1 : checkH c = 0
  · rw [if_neg (by simpa using h1), h1]
    have hc := checkH_ok h1
    simp only [beq_self_eq_true, ifT]
    refine ⟨_, good_CheckHead h, ?_⟩
    by_cases h2 : checkH h = 0
    · rw [if_neg (by simpa using h2), h2]
      simp only [beq_self_eq_true, ifT, bne_self_eq_false, ifF]
      have g := good_GrowthShows (G0 := G0) hG c.log (by omega) c.n h.log h.n nl l hs hl
      simp only [ifK_iff, decide_eq_true_eq, decide_eq_false_iff_not, beq_iff_eq, beq_eq_false_iff_ne, List.length_map, ne_eq, Bool.not_eq_true', Bool.not_eq_false']
      have hlen : ((l.length : Int) = 0) ↔ l = [] := by
        cases l <;> simp; omega
      refine ⟨fun c1 => ⟨by rw [if_pos c1]; rfl, trivial⟩, fun c1 => ?_⟩
      rw [if_neg c1]
      refine ⟨fun c3 => ⟨_, g, fun c4 => ⟨fun c5 => ⟨fun c6 => ?_, fun c6 => ?_⟩, fun c5 => ?_⟩, fun c4 => ⟨fun c5 => ?_, fun c5 => ?_⟩⟩, fun c3 => ⟨fun c4 => ?_, fun c4 => ?_⟩⟩
      · rw [if_neg (by rintro (⟨e, _⟩ | ⟨_, _, e | e⟩); omega; omega; exact c6 e)]; exact ⟨rfl, trivial⟩
      · rw [if_pos (.inr ⟨c3, c5, .inr c6⟩)]; exact ⟨rfl, trivial⟩
      · rw [if_neg (by rintro (⟨e, _⟩ | ⟨_, e, _⟩); omega; exact c5 e)]; exact ⟨rfl, trivial⟩
      · rw [if_neg (by rintro (⟨e, _⟩ | ⟨_, e, _⟩); omega; exact c5 e)]; exact ⟨rfl, trivial⟩
      · rw [if_pos (.inr ⟨c3, c5, .inl (by omega)⟩)]; exact ⟨rfl, trivial⟩
      · rw [if_neg (by rintro (⟨_, e⟩ | ⟨e, _⟩); exact c4 (hlen.2 e); omega)]; exact ⟨rfl, trivial⟩
      · rw [if_pos (.inl ⟨by omega, hlen.1 c4⟩)]; exact ⟨rfl, trivial⟩
    · have e1 : (checkH h == 0) = false := by simpa using h2
      have e2 : (checkH h != 0) = true := by simpa using h2
      rw [if_pos h2]
      simp only [e1, e2, ifT, ifF]
      exact ⟨rfl, trivial⟩
  · have e1 : (checkH c == 0) = false := by simpa using h1
    have e2 : (checkH c != 0) = true := by simpa using h1
    rw [if_pos h1]
    simp only [e1, e2, ifT, ifF]
    exact ⟨rfl, trivial⟩

def findsR (c : Cl) (k : Int) (v : By) (there : Bool) (l : List By) : Int := if checkH c.1 ≠ 0 then checkH c.1 else trieShows c.1.mp k v there l

theorem good_Finds (hG : GlobOk G0) (c : Cl) (k : Int) (v : By) (there nl : Bool) (l : List By) :
    Good PG nG G0 f_client_Finds [.agg [.int .i64 c.1.n, .str c.1.log, .str c.1.mp, .bool c.2], .int .i64 k, .str v, .bool there, .sl 1 nl none (l.map S1)] [] (.int .i64 (findsR c k v there l)) [] := by
  refine good_of_run prOk (by kernel_rfl) (client_Finds_run _ _ _ _ k v there nl _ G0 _ ⟨_, good_noteCheck c.1, ?_⟩)
  unfold findsR
  refine ifK_ne0 (fun h1 => ⟨by rw [if_pos h1], rfl⟩) fun h1 => ?_
  rw [if_neg (by simpa using h1)]
  exact ⟨_, good_trieShows hG _ _ _ _ _ _, rfl, rfl⟩

end Go.Ab

namespace Go.Ab
open Go.Proofs Go.Gs
variable {G0 : Nat → Option Obj}

theorem good_MapShows (hG : GlobOk G0) (all : By) (key : Int) (value : By) (there : Bool) (nl : Bool) (l : List By) (hl : ∀ s ∈ l, s.length ≤ 4611686018427387903) :
    Good PG nG G0 f_greatsealref_MapShows [.str all, .int .i64 key, .str value, .bool there, .sl 1 nl none (l.map S1)] [] (.int .i64 (trieShows all key value there l)) [] := by
  refine good_of_run prOk (by kernel_rfl) (greatsealref_MapShows_run all key value there nl _ G0 _ ⟨_, good_in key 0 15, ?_⟩)
  simp only [ifK_iff, decide_eq_true_eq, decide_eq_false_iff_not, bne_iff_ne, ne_eq, bne_eq_false_iff_eq, Bool.not_eq_true', Bool.not_eq_false', List.length_map]
  refine ⟨fun h => ?_, fun h => ?_⟩
  · rw [trieShows, if_pos (by omega)]; exact ⟨rfl, trivial⟩
  obtain ⟨k, rfl⟩ := Int.eq_ofNat_of_zero_le (show 0 ≤ key by omega)
  have hk : k < 16 := by omega
  have hll := tLeaf_len value
  have start : ∀ (now : By) (e : Int), l.length = 4 → now.length ≤ 4611686018427387903 → trieShows all k value there l = (if e ≠ 0 then e else fin7 all (climb now (bitsOf k 4) (List.zip (bitsOf k 4) l))) →
      Does PG nG G0 (fnOf PG f_greatsealref_MapShows) 0 (lp PG f_greatsealref_MapShows 0)
        (mkT 69 [(0, .str all), (1, .int .i64 k), (11, .str now), (12, .int .i64 e), (34, .sl 1 nl none (l.map S1)), (35, .int .i64 l.length), (36, .int .i64 0)]) []
        fun r' H'' => r' = .int .i64 (trieShows all k value there l) ∧ H'' = [] := by
    intro now e h4 hnow he
    have := mapS_loop (G0 := G0) hG all k hk nl l h4 hl (R := fun r' H'' => r' = .int .i64 (trieShows all k value there l) ∧ H'' = []) 4 0 now e (by omega) (by omega) hnow ⟨by rw [he]; rfl, rfl⟩
    rw [List.length_map] at this
    simpa using this
  refine ⟨fun h3 => ⟨fun h4 => ?_, fun h4 => ⟨fun h5 => ?_, fun h5 => ⟨fun h6 => ?_, fun h6 => ?_⟩⟩⟩, fun h3 => ⟨fun h5 => ?_, fun h5 => ⟨fun h6 => ⟨_, _, good_LeafOf value, ?_⟩, fun h6 => ?_⟩⟩⟩
  · rw [trieShows, if_neg (by omega), if_pos ⟨h3, by intro e; rw [e] at h4; simp at h4⟩]; exact ⟨rfl, trivial⟩
  · have h4 : value = [] := List.eq_nil_of_length_eq_zero (by omega)
    rw [trieShows, if_neg (by omega), if_neg (by simp [h4]), if_pos (by omega)]; exact ⟨rfl, trivial⟩
  · rw [h3] at h6; cases h6
  · have h4 : value = [] := List.eq_nil_of_length_eq_zero (by omega)
    exact start [69] 0 (by omega) (by simp) (by rw [trieShows_fin hk (by simp [h4]) (by omega), h3]; rfl)
  · rw [trieShows, if_neg (by omega), if_neg (by simp [h3]), if_pos (by omega)]; exact ⟨rfl, trivial⟩
  · refine start _ _ (by omega) (by omega) ?_
    rw [trieShows_fin hk (by simp [h3]) (by omega), h3]
    simp only [if_true, tV]
  · rw [h3] at h6; cases h6

end Go.Ab

namespace Go.Ab
open Go.Proofs
set_option maxRecDepth 100000



end Go.Ab

namespace Go.Ab
open Go.Proofs Go.Gs
variable {G0 : Nat → Option Obj}

theorem eqAll_cl (c d : Cl) : eqAll [.int .i64 c.1.n, .str c.1.log, .str c.1.mp, .bool c.2] [.int .i64 d.1.n, .str d.1.log, .str d.1.mp, .bool d.2] = decide (c = d) := by
  obtain ⟨⟨a, b, c⟩, x⟩ := c
  obtain ⟨⟨d, e, f⟩, y⟩ := d
  by_cases h1 : a = d <;> by_cases h2 : b = e <;> by_cases h3 : c = f <;> by_cases h4 : x = y <;> simp [eqAll, eqC, h1, h2, h3, h4]

end Go.Ab

namespace Go.Ab
open Go.Proofs Go.Gs
variable {G0 : Nat → Option Obj}

theorem headOf_take_n {b : Bk} (h : checkB b = 0) {m : Nat} (hm : m ≤ b.length) : (headOf (b.take m)).1.n = m := by
  rw [headOf_n (checkB_take h m), List.length_take, Nat.min_eq_left hm]

theorem follow_ok {b : Bk} (hc : checkB b = 0) {m n : Nat} (hmn : m ≤ n) (hn : n ≤ b.length) {c : Hd} (hcn : c.n = m) (hck : checkH c = 0) (h : m ≠ 0 → c = (headOf (b.take m)).1) :
    followR (c, false) (headOf (b.take n)).1 (if m = 0 then [] else growOf (textsOf (b.take n)) m true) = (((headOf (b.take n)).1, false), 0) := by
  have hcN := checkB_take hc n
  have hhn := headOf_take_n hc hn
  unfold followR
  rw [if_neg (by simpa using hck), if_neg (by simpa using headOf_check hcN), if_neg (by rw [hhn, hcn]; omega), if_pos]
  by_cases hm : m = 0
  · left
    exact ⟨by rw [hcn, hm]; rfl, by rw [if_pos hm]⟩
  · right
    have hcm := h hm
    have hl : (b.take n).length = n := by rw [List.length_take, Nat.min_eq_left hn]
    refine ⟨by rw [hcn]; omega, ?_, ?_⟩
    · rw [if_neg hm, hhn, hcn]
      have := book_growShows hcN (m := m) (by omega) (by rw [hl]; exact hmn) c.log (growOf (textsOf (b.take n)) m true)
      rw [hl] at this
      rw [headOf_ok hcN]
      refine this.2 ⟨?_, rfl⟩
      rw [hcm, headOf_ok (checkB_take hc m), List.take_take, Nat.min_eq_left hmn]
    · rcases Nat.lt_or_ge m n with h3 | h3
      · left; rw [hhn, hcn]; omega
      · right
        have : m = n := by omega
        rw [hcm, this]

theorem showG_ok {b : Bk} (hc : checkB b = 0) {m : Nat} (h1 : 1 ≤ m) (hm : m ≤ b.length) : showG b m = (growOf (textsOf b) m true, 0) := by
  rw [showG, if_neg (by simpa using hc), growR_ok (book_rooted hc).1 h1 (by rw [texts_len]; exact hm)]

end Go.Ab

namespace Go.Ab
open Go.Proofs Go.Gs
variable {G0 : Nat → Option Obj}

theorem grow_begins {b o : Bk} (hb : checkB b = 0) (ho : checkB o = 0) (h1 : 1 ≤ b.length) (h2 : b.length ≤ o.length) {l : List By} (h : growShows (headOf b).1.log b.length (headOf o).1.log o.length l = 0) : o.take b.length = b := by
  rw [headOf_ok hb, headOf_ok ho] at h
  have := ((book_growShows ho h1 h2 _ _).1 h).1
  have hct := checkB_take ho b.length
  have := tRoot_inj _ _ _ (Nat.le_refl _) (texts_good hb).1 (texts_good hct).1 this
  exact (textsOf_inj (fun e he => ((checkB_ok hb).2 e he).1) (fun e he => ((checkB_ok hct).2 e he).1) this).symm

end Go.Ab

namespace Go.Ab
open Go.Proofs Go.Gs
variable {G0 : Nat → Option Obj}

theorem meetR_eq {a b : Hd} (ha : checkH a = 0) (hb : checkH b = 0) (l : List By) : meetR a b l = if b.n < a.n then meetS b a l else meetS a b l := by
  rw [meetR, if_neg (by simpa using ha), if_neg (by simpa using hb)]

theorem meetS_zero {b o : Bk} (hb : checkB b = 0) (ho : checkB o = 0) (hlen : b.length ≤ o.length) {l : List By} (h : meetS (headOf b).1 (headOf o).1 l = 0) : o.take b.length = b := by
  unfold meetS at h
  rw [headOf_n hb, headOf_n ho] at h
  split at h
  · rename_i h0
    have : b = [] := List.eq_nil_of_length_eq_zero (by omega)
    rw [this]; rfl
  · rename_i h0
    split at h
    · cases h
    · exact grow_begins hb ho (by omega) hlen h

theorem meetS_ok {b : Bk} (hb : checkB b = 0) {n : Nat} (h1 : 1 ≤ n) (hn : n ≤ b.length) : meetS (headOf (b.take n)).1 (headOf b).1 (growOf (textsOf b) n true) = 0 := by
  have hcn := checkB_take hb n
  unfold meetS
  rw [headOf_take_n hb hn, headOf_n hb, if_neg (by omega), if_neg]
  · rw [headOf_ok hcn, headOf_ok hb]
    exact (book_growShows hb h1 hn _ _).2 ⟨rfl, rfl⟩
  · rintro ⟨e, e2⟩
    apply e2
    rw [show b.take n = b from List.take_of_length_le (by omega)]

end Go.Ab

namespace Go.Ab
open Go.Proofs Go.Gs

/-- A world: both books (nil or not), its clients (nil or not). -/
structure Wd where
  n0 : Bool
  b0 : Bk
  n1 : Bool
  b1 : Bk
  n2 : Bool
  c : List Cl

abbrev Hap := Int × Int × Int × Int × Int × By

def c0 : Cl := (hd0, false)
def W0 : Wd := ⟨true, [], true, [], true, []⟩
def newW : Wd := ⟨true, [], true, [], false, [c0, c0, c0]⟩
def CX (c : Cl) : List AV := [.int .i64 c.1.n, .str c.1.log, .str c.1.mp, .bool c.2]
abbrev wL (w : Wd) : List AV := [.sl 2 w.n0 none (w.b0.map E2), .sl 2 w.n1 none (w.b1.map E2), .sl 4 w.n2 none (w.c.map CX)]
abbrev wV (w : Wd) : AV := .agg (wL w)

def Wd.bk (w : Wd) (s : Int) : Bk := if s = 0 then w.b0 else w.b1
def Wd.nb (w : Wd) (s : Int) : Bool := if s = 0 then w.n0 else w.n1
def Wd.put (w : Wd) (s : Int) (b : Bk) : Wd := if s = 0 then { w with n0 := false, b0 := b } else { w with n1 := false, b1 := b }
def Wd.cl (w : Wd) (k : Int) : Cl := w.c.getD k.toNat c0
def Wd.setC (w : Wd) (k : Int) (c : Cl) : Wd := { w with c := w.c.set k.toNat c }
def sameW (w v : Wd) : Bool := decide (w.b0 = v.b0 ∧ w.b1 = v.b1 ∧ w.c = v.c)

def badC : List Cl → Int
  | [] => 0
  | c :: r => if checkH c.1 ≠ 0 then checkH c.1 else badC r

def checkW (w : Wd) : Int := if checkB w.b0 ≠ 0 then checkB w.b0 else if checkB w.b1 ≠ 0 then checkB w.b1 else if w.c.length ≠ 3 then 4 else badC w.c

def growthR (b : Bk) (m : Int) : List By := if (showG b m).2 ≠ 0 then [] else (showG b m).1

def showsR (w : Wd) (who side : Int) : Wd × Int :=
  if (headOf (w.bk side)).2 ≠ 0 then (w, (headOf (w.bk side)).2) else
  let f := followR (w.cl who) (headOf (w.bk side)).1 (growthR (w.bk side) (w.cl who).1.n)
  if f.2 ≠ 0 ∧ f.2 ≠ 7 then (w, f.2) else (w.setC who f.1, 0)

def maxI (a b : Int) : Int := if a < b then b else a
def minI (a b : Int) : Int := if b < a then b else a

def meetsB (x y : Hd) (b : Bk) : Bool := decide (maxI x.n y.n ≤ b.length) && meetR x y (growthR (b.take (maxI x.n y.n).toNat) (minI x.n y.n)) == 0

def oneB (x y : Hd) (w : Wd) : Bool := meetsB x y w.b0 || meetsB x y w.b1 || meetR x y [] == 0

def foolW (w : Wd) (a b : Int) : Wd := (w.setC a ((w.cl a).1, true)).setC b (((w.setC a ((w.cl a).1, true)).cl b).1, true)

def meetsR (w : Wd) (a b : Int) : Wd := if oneB (w.cl a).1 (w.cl b).1 w = true then w else foolW w a b

def asksR (w : Wd) (who side key : Int) : Int :=
  if (showV (w.bk side) key).2 ≠ 0 then (showV (w.bk side) key).2 else findsR (w.cl who) key (showV (w.bk side) key).1.1 (showV (w.bk side) key).1.2.1 (showV (w.bk side) key).1.2.2

def happenR (w : Wd) (x : Hap) : Wd × Int :=
  if x.1 < 1 ∨ 5 < x.1 then (w, 4)
  else if x.2.1 < 0 ∨ 1 < x.2.1 ∨ x.2.2.1 < 0 ∨ w.c.length ≤ x.2.2.1 ∨ x.2.2.2.1 < 0 ∨ w.c.length ≤ x.2.2.2.1 then (w, 5)
  else if x.1 = 1 then (if (putBk (w.bk x.2.1) x.2.2.2.2).2 = 0 then (w.put x.2.1 (putBk (w.bk x.2.1) x.2.2.2.2).1, 0) else (w, (putBk (w.bk x.2.1) x.2.2.2.2).2))
  else if x.1 = 2 then ({ w with n1 := w.n0, b1 := w.b0 }, 0)
  else if x.1 = 3 then showsR w x.2.2.1 x.2.1
  else if x.1 = 4 then (meetsR w x.2.2.1 x.2.2.2.1, 0)
  else (w, asksR w x.2.2.1 x.2.1 x.2.2.2.2.1)

def doR (w : Wd) (x : Hap) : Wd × Int := if checkW w ≠ 0 then (W0, checkW w) else if (happenR w x).2 ≠ 0 then (W0, (happenR w x).2) else ((happenR w x).1, 0)

def stepR (w : Wd) (x : Hap) : Wd := if (happenR w x).2 = 0 then (happenR w x).1 else w
def runW (w : Wd) (l : List Hap) : Wd := l.foldl stepR w
def saysW : Wd → List Hap → List Int
  | _, [] => []
  | w, x :: r => (happenR w x).2 :: saysW (stepR w x) r
def runR (w : Wd) (l : List Hap) : (Wd × List Int) × Int := if checkW w ≠ 0 then ((W0, []), checkW w) else if 80 < l.length then ((W0, []), 2) else ((runW w l, saysW w l), 0)

theorem saysW_append (l m : List Hap) : ∀ w, saysW w (l ++ m) = saysW w l ++ saysW (runW w l) m := by
  induction l with
  | nil => intro w; rfl
  | cons x r ih => intro w; simp only [List.cons_append, saysW, ih]; rfl

theorem runW_append (w : Wd) (l m : List Hap) : runW w (l ++ m) = runW (runW w l) m := by simp [runW, List.foldl_append]

/-- Whose head it is. -/
def ofR (w : Wd) (who side : Int) : Bool × Int :=
  if checkW w ≠ 0 then (false, checkW w) else if who < 0 ∨ w.c.length ≤ who ∨ side < 0 ∨ 1 < side then (false, 5) else
  if (w.cl who).1 = hd0 then (true, 0) else if ((w.bk side).length : Int) < (w.cl who).1.n then (false, 0)
  else (decide ((headOf ((w.bk side).take (w.cl who).1.n.toNat)).1 = (w.cl who).1), 0)

def lcpN : Bk → Bk → Nat
  | a :: r, b :: s => if a = b then lcpN r s + 1 else 0
  | _, _ => 0

def splitW (w : Wd) : Nat × Int := if checkW w ≠ 0 then (0, checkW w) else (lcpN w.b0 w.b1, 0)

/-! What is right. -/

theorem badC_iff : ∀ {l : List Cl}, badC l = 0 ↔ ∀ c ∈ l, checkH c.1 = 0
  | [] => by simp [badC]
  | c :: r => by
    unfold badC
    split
    · rename_i h
      constructor
      · intro h2; exact absurd h2 h
      · intro h2; exact absurd (h2 c (by simp)) h
    · rename_i h
      rw [badC_iff]
      constructor
      · intro h2 x hx
        rcases List.mem_cons.1 hx with rfl | hx
        · simpa using h
        · exact h2 x hx
      · intro h2 x hx; exact h2 x (by simp [hx])

theorem checkW_iff {w : Wd} : checkW w = 0 ↔ checkB w.b0 = 0 ∧ checkB w.b1 = 0 ∧ w.c.length = 3 ∧ ∀ c ∈ w.c, checkH c.1 = 0 := by
  unfold checkW
  split
  · rename_i h; exact ⟨fun h2 => absurd h2 h, fun h2 => absurd h2.1 h⟩
  · rename_i h
    split
    · rename_i h1; exact ⟨fun h2 => absurd h2 h1, fun h2 => absurd h2.2.1 h1⟩
    · rename_i h1
      split
      · rename_i h2; exact ⟨fun h3 => absurd h3 (by decide), fun h3 => absurd h3.2.2.1 h2⟩
      · rename_i h2
        rw [badC_iff]
        simp only [ne_eq, Decidable.not_not] at h h1 h2
        exact ⟨fun h3 => ⟨h, h1, h2, h3⟩, fun h3 => h3.2.2.2⟩

theorem checkW_bk {w : Wd} (h : checkW w = 0) (s : Int) : checkB (w.bk s) = 0 := by
  have := checkW_iff.1 h
  unfold Wd.bk
  split
  · exact this.1
  · exact this.2.1

theorem checkW_cl {w : Wd} (h : checkW w = 0) (k : Int) : checkH (w.cl k).1 = 0 := by
  have := checkW_iff.1 h
  unfold Wd.cl
  rw [List.getD_eq_getElem?_getD]
  cases hk : w.c[k.toNat]? with
  | none => decide
  | some c => exact this.2.2.2 c (List.mem_of_getElem? hk)

theorem mem_set_or {α : Type} {l : List α} {i : Nat} {a x : α} (h : x ∈ l.set i a) : x = a ∨ x ∈ l := by
  rcases List.mem_or_eq_of_mem_set h with h | h
  · exact .inr h
  · exact .inl h

theorem checkW_setC {w : Wd} (h : checkW w = 0) (k : Int) {c : Cl} (hc : checkH c.1 = 0) : checkW (w.setC k c) = 0 := by
  have := checkW_iff.1 h
  refine checkW_iff.2 ⟨this.1, this.2.1, by simpa [Wd.setC] using this.2.2.1, fun x hx => ?_⟩
  rcases mem_set_or hx with rfl | hx
  · exact hc
  · exact this.2.2.2 x hx

theorem checkW_fool {w : Wd} (h : checkW w = 0) (a b : Int) : checkW (foolW w a b) = 0 := by
  have h1 : checkW (w.setC a ((w.cl a).1, true)) = 0 := checkW_setC h a (checkW_cl h a)
  exact checkW_setC h1 b (checkW_cl h1 b)

theorem checkW_put {w : Wd} (h : checkW w = 0) (s : Int) {b : Bk} (hb : checkB b = 0) : checkW (w.put s b) = 0 := by
  have := checkW_iff.1 h
  unfold Wd.put
  split
  · exact checkW_iff.2 ⟨hb, this.2.1, this.2.2.1, this.2.2.2⟩
  · exact checkW_iff.2 ⟨this.1, hb, this.2.2.1, this.2.2.2⟩

theorem putBk_zero {b : Bk} {e : En} (h : (putBk b e).2 = 0) : checkB (b ++ [e]) = 0 ∧ checkB b = 0 ∧ (putBk b e).1 = b ++ [e] := by
  unfold putBk at h ⊢
  split at h
  · rename_i h1; exact absurd h h1
  · rename_i h1
    split at h
    · rename_i h2; exact absurd h h2
    · rename_i h2
      rw [if_neg h1, if_neg h2]
      exact ⟨by simpa using h2, by simpa using h1, rfl⟩

/-- Whom a client follows. -/
theorem followR_cases {c : Cl} {h : Hd} {l : List By} (hc : checkH c.1 = 0) (hh : checkH h = 0) (e : (followR c h l).2 = 0 ∨ (followR c h l).2 = 7) :
    c.1.n ≤ h.n ∧ ((followR c h l = ((h, c.2), 0) ∧ ((c.1.n = 0 ∧ l = []) ∨ (0 < c.1.n ∧ growShows c.1.log c.1.n h.log h.n l = 0 ∧ (c.1.n < h.n ∨ h.mp = c.1.mp)))) ∨ followR c h l = ((c.1, true), 7)) := by
  unfold followR at e ⊢
  rw [if_neg (by simpa using hc), if_neg (by simpa using hh)] at e ⊢
  split at e
  · simp at e
  · rename_i h1
    refine ⟨by omega, ?_⟩
    rw [if_neg h1]
    split
    · rename_i h2; exact .inl ⟨rfl, h2⟩
    · exact .inr rfl

theorem showsR_cases {w : Wd} (h : checkW w = 0) (who side : Int) (e : (showsR w who side).2 = 0) :
    (w.cl who).1.n ≤ (headOf (w.bk side)).1.n ∧ (((showsR w who side).1 = w.setC who ((headOf (w.bk side)).1, (w.cl who).2) ∧
      (((w.cl who).1.n = 0 ∧ growthR (w.bk side) (w.cl who).1.n = []) ∨ (0 < (w.cl who).1.n ∧ growShows (w.cl who).1.log (w.cl who).1.n (headOf (w.bk side)).1.log (headOf (w.bk side)).1.n (growthR (w.bk side) (w.cl who).1.n) = 0 ∧
        ((w.cl who).1.n < (headOf (w.bk side)).1.n ∨ (headOf (w.bk side)).1.mp = (w.cl who).1.mp)))) ∨
      (showsR w who side).1 = w.setC who ((w.cl who).1, true)) := by
  have hb := checkW_bk h side
  have hc := checkW_cl h who
  have hh := headOf_check hb
  unfold showsR at e ⊢
  rw [show (headOf (w.bk side)).2 = 0 by rw [headOf_code]; exact hb] at e ⊢
  simp only [ne_eq, not_true_eq_false, if_false] at e ⊢
  split at e
  · rename_i h1; exact absurd e h1.1
  · rename_i h1
    rw [if_neg h1]
    have := followR_cases hc hh (l := growthR (w.bk side) (w.cl who).1.n) (by omega)
    refine ⟨this.1, ?_⟩
    rcases this.2 with ⟨h2, h3⟩ | h2
    · rw [h2]; exact .inl ⟨rfl, h3⟩
    · rw [h2]; exact .inr rfl

theorem checkW_happen {w : Wd} (h : checkW w = 0) (x : Hap) (e : (happenR w x).2 = 0) : checkW (happenR w x).1 = 0 := by
  unfold happenR at e ⊢
  split at e
  · cases e
  · rename_i h1
    rw [if_neg h1]
    split at e
    · cases e
    · rename_i h2
      rw [if_neg h2]
      split at e
      · rename_i h3
        rw [if_pos h3]
        split at e
        · rename_i h4
          rw [if_pos h4]
          have := putBk_zero h4
          exact checkW_put h _ (by rw [this.2.2]; exact this.1)
        · rename_i h4; exact absurd e h4
      · rename_i h3
        rw [if_neg h3]
        split at e
        · rename_i h4
          rw [if_pos h4]
          have := checkW_iff.1 h
          exact checkW_iff.2 ⟨this.1, this.1, this.2.2.1, this.2.2.2⟩
        · rename_i h4
          rw [if_neg h4]
          split at e
          · rename_i h5
            rw [if_pos h5]
            have hb := checkW_bk h x.2.1
            rcases (showsR_cases h _ _ e).2 with ⟨h6, _⟩ | h6
            · rw [h6]; exact checkW_setC h _ (headOf_check hb)
            · rw [h6]; exact checkW_setC h _ (checkW_cl h _)
          · rename_i h5
            rw [if_neg h5]
            split at e
            · rename_i h6
              rw [if_pos h6]
              unfold meetsR
              split
              · exact h
              · exact checkW_fool h _ _
            · rename_i h6
              rw [if_neg h6]; exact h

end Go.Ab

/- What the proofs of these laws lean on (6): Books and their heads, in plain words; Contracts: the laws of what keys come to; What the runs come to; Spans around a place of a list, in plain words; Contracts: paths up a list; What the runs come to; Books: values told from behind; Contracts: books; Contracts: books' texts, values; Contracts: books put, heads; the closed fact; What the runs come to; Contracts: a book, as the document says: the law; What the runs come to; Contracts: heads checked, found; a book's beginnings: the law; What the runs come to; Contracts: more laws of what keys come to; no condition. -/
import Derived.Test.YteoadplelecmeaaDoorZAllE
namespace Go.Gs

abbrev En := Int × By
abbrev Bk := List En

/-- The text of an entry. -/
def textE (e : En) : By := Lib.itoa e.1 ++ 32 :: e.2

def badE (e : En) : Int := if e.1 < 0 ∨ 16 ≤ e.1 then 5 else if 12 < e.2.length then 2 else 0

def firstBad : Bk → Int
  | [] => 0
  | e :: r => if badE e ≠ 0 then badE e else firstBad r

def checkB (b : Bk) : Int := if 24 < b.length then 2 else firstBad b

theorem firstBad_ok {b : Bk} (h : firstBad b = 0) : ∀ e ∈ b, 0 ≤ e.1 ∧ e.1 < 16 ∧ e.2.length ≤ 12 := by
  induction b with
  | nil => intro e he; cases he
  | cons x r ih =>
    unfold firstBad at h
    split at h
    · rename_i hb; exact absurd h hb
    · rename_i hb
      intro e he
      rcases List.mem_cons.1 he with rfl | he
      · unfold badE at hb
        split at hb
        · simp at hb
        · split at hb
          · simp at hb
          · omega
      · exact ih h e he

theorem firstBad_mk {b : Bk} (h : ∀ e ∈ b, 0 ≤ e.1 ∧ e.1 < 16 ∧ e.2.length ≤ 12) : firstBad b = 0 := by
  induction b with
  | nil => rfl
  | cons x r ih =>
    have hx := h x (by simp)
    have : badE x = 0 := by unfold badE; rw [if_neg (by omega), if_neg (by omega)]
    unfold firstBad
    rw [if_neg (by rw [this]; simp)]
    exact ih fun e he => h e (by simp [he])

theorem checkB_ok {b : Bk} (h : checkB b = 0) : b.length ≤ 24 ∧ ∀ e ∈ b, 0 ≤ e.1 ∧ e.1 < 16 ∧ e.2.length ≤ 12 := by
  unfold checkB at h
  split at h
  · cases h
  · exact ⟨by omega, firstBad_ok h⟩

theorem checkB_mk {b : Bk} (h0 : b.length ≤ 24) (h : ∀ e ∈ b, 0 ≤ e.1 ∧ e.1 < 16 ∧ e.2.length ≤ 12) : checkB b = 0 := by
  unfold checkB
  rw [if_neg (by omega)]
  exact firstBad_mk h

theorem checkB_take {b : Bk} (h : checkB b = 0) (n : Nat) : checkB (b.take n) = 0 := by
  obtain ⟨h1, h2⟩ := checkB_ok h
  exact checkB_mk (by simp only [List.length_take]; omega) fun e he => h2 e (List.mem_of_mem_take he)

/-- Texts of all entries. -/
def textsOf (b : Bk) : List By := b.map textE

/-- Values behind all entries. -/
def valsOf (b : Bk) : Mp := b.foldl (fun m e => mPut m e.1 e.2) []

theorem valsOf_snoc (b : Bk) (e : En) : valsOf (b ++ [e]) = mPut (valsOf b) e.1 e.2 := by simp [valsOf]

theorem valsOf_nodup (b : Bk) : ((valsOf b).map (·.1)).Nodup := by
  have key : ∀ (b : Bk) (m : Mp), (m.map (·.1)).Nodup → ((b.foldl (fun m e => mPut m e.1 e.2) m).map (·.1)).Nodup := by
    intro b
    induction b with
    | nil => intro m h; exact h
    | cons e r ih => intro m h; exact ih _ (mPut_nodup h _ _)
  exact key b [] (by simp)

theorem mPut_mem {m : Mp} {k : Int} {v : By} {p : Int × By} (h : p ∈ mPut m k v) : p = (k, v) ∨ p ∈ m := by
  induction m with
  | nil => simp [mPut] at h; exact .inl h
  | cons q r ih =>
    unfold mPut at h
    split at h
    · rcases List.mem_cons.1 h with h | h
      · exact .inl h
      · exact .inr (by simp [h])
    · rcases List.mem_cons.1 h with h | h
      · exact .inr (by simp [h])
      · rcases ih h with h | h
        · exact .inl h
        · exact .inr (by simp [h])

theorem valsOf_mem {b : Bk} {p : Int × By} (h : p ∈ valsOf b) : p ∈ b := by
  have key : ∀ (b : Bk) (m : Mp), p ∈ b.foldl (fun m e => mPut m e.1 e.2) m → p ∈ b ∨ p ∈ m := by
    intro b
    induction b with
    | nil => intro m h; exact .inr h
    | cons e r ih =>
      intro m h
      rcases ih _ h with h | h
      · exact .inl (by simp [h])
      · rcases mPut_mem h with h | h
        · exact .inl (by simp [h])
        · exact .inr h
  rcases key b [] h with h | h
  · exact h
  · cases h

theorem valsOf_check {b : Bk} (h : checkB b = 0) : checkM (valsOf b) = 0 := checkM_mk fun p hp => (checkB_ok h).2 p (valsOf_mem hp)

theorem valsOf_len (b : Bk) : (valsOf b).length ≤ b.length := by
  have key : ∀ (b : Bk) (m : Mp), (b.foldl (fun m e => mPut m e.1 e.2) m).length ≤ m.length + b.length := by
    intro b
    induction b with
    | nil => intro m; exact Nat.le_refl _
    | cons e r ih =>
      intro m
      have := ih (mPut m e.1 e.2)
      rw [mPut_len] at this
      simp only [List.foldl_cons, List.length_cons]
      split at this <;> omega
  have := key b []
  simpa [valsOf] using this

/-- Texts of a book's entries are short, so that its seal is good. -/
theorem decDigits_small {u : Nat} (h : u < 100) : (Lib.decDigits u).length ≤ 2 := by
  rw [Lib.decDigits]
  split
  · simp
  · rw [Lib.decDigits, dif_pos (by omega)]; simp

theorem decDigits_len4 {u : Nat} (h : u < 100000) : (Lib.decDigits u).length ≤ 5 := by
  have step : ∀ (u k : Nat), (Lib.decDigits (u / 10)).length ≤ k → (Lib.decDigits u).length ≤ k + 1 := by
    intro u k h
    rw [Lib.decDigits]
    split
    · simp
    · simp only [List.length_append, List.length_cons, List.length_nil]; omega
  exact step u 4 (step _ 3 (step _ 2 (decDigits_small (by omega))))

theorem textE_len {e : En} (h : 0 ≤ e.1 ∧ e.1 < 16 ∧ e.2.length ≤ 12) : (textE e).length ≤ 15 := by
  unfold textE
  have he : e.1 = ((e.1.toNat : Nat) : Int) := by omega
  rw [he, itoa_nat]
  have := decDigits_small (u := e.1.toNat) (by omega)
  simp only [List.length_append, List.length_cons]; omega

theorem tRoot_short : ∀ (n : Nat) (l : List By), l.length ≤ n → n ≤ 24 → (∀ s ∈ l, s.length ≤ 15) → (tRoot l).2 = 0 ∧ (tRoot l).1.length + 7 ≤ 23 * (max 1 l.length) := by
  intro n
  induction n with
  | zero =>
    intro l h _ _
    have : l = [] := List.eq_nil_of_length_eq_zero (by omega)
    subst this
    rw [tRoot_zero rfl]; exact ⟨rfl, by simp⟩
  | succ n ih =>
    intro l hn hb hs
    rcases Nat.lt_or_ge l.length 2 with h2 | h2
    · rcases Nat.lt_or_ge l.length 1 with h1 | h1
      · have : l = [] := List.eq_nil_of_length_eq_zero (by omega)
        subst this
        rw [tRoot_zero rfl]; exact ⟨rfl, by simp⟩
      · obtain ⟨s, rfl⟩ := List.length_eq_one_iff.1 (show l.length = 1 by omega)
        have := hs s (by simp)
        have hlf : tLeaf s = (76 :: s, 0) := by unfold tLeaf; rw [if_neg (by omega)]
        rw [tRoot_one rfl, List.headD_cons, hlf]
        refine ⟨rfl, ?_⟩
        simp only [List.length_cons, List.length_nil]; omega
    · have hk1 := halfN_pos l.length
      have hk2 := halfN_lt h2
      obtain ⟨a1, a2⟩ := ih (l.take (halfN l.length)) (by simp only [List.length_take]; omega) (by omega) fun s h => hs s (List.mem_of_mem_take h)
      obtain ⟨b1, b2⟩ := ih (l.drop (halfN l.length)) (by simp only [List.length_drop]; omega) (by omega) fun s h => hs s (List.mem_of_mem_drop h)
      simp only [List.length_take, List.length_drop] at a2 b2
      have c := decDigits_len4 (u := (tRoot (l.take (halfN l.length))).1.length) (by omega)
      rw [tRoot_two h2, if_neg (by simpa using a1), if_neg (by simpa using b1)]
      unfold tNode
      rw [if_neg (by omega), itoa_nat]
      refine ⟨rfl, ?_⟩
      simp only [List.length_cons, List.length_append]
      omega

theorem texts_good {b : Bk} (h : checkB b = 0) : (tRoot (textsOf b)).2 = 0 ∧ (tRoot (textsOf b)).1.length ≤ 545 := by
  obtain ⟨h1, h2⟩ := checkB_ok h
  have hl : (textsOf b).length = b.length := by simp [textsOf]
  have := tRoot_short _ (textsOf b) (Nat.le_refl _) (by omega) fun s hs => by
    obtain ⟨e, he, rfl⟩ := List.mem_map.1 hs
    exact textE_len (h2 e he)
  exact ⟨this.1, by omega⟩

theorem textE_inj {e f : En} (he : 0 ≤ e.1) (hf : 0 ≤ f.1) (h : textE e = textE f) : e = f := by
  unfold textE at h
  have e1 : e.1 = ((e.1.toNat : Nat) : Int) := by omega
  have f1 : f.1 = ((f.1.toNat : Nat) : Int) := by omega
  rw [e1, f1, itoa_nat, itoa_nat] at h
  have no : ∀ n : Nat, (32 : UInt8) ∉ Lib.decDigits n := fun n hc => by
    have := dec_digit n _ hc
    simp at this
  obtain ⟨h1, h2⟩ := split_first (no _) (no _) h
  have := dec_inj h1
  exact Prod.ext (by omega) h2

theorem textsOf_inj : ∀ {b c : Bk}, (∀ e ∈ b, 0 ≤ e.1) → (∀ e ∈ c, 0 ≤ e.1) → textsOf b = textsOf c → b = c
  | [], [], _, _, _ => rfl
  | [], _ :: _, _, _, h => by simp [textsOf] at h
  | _ :: _, [], _, _, h => by simp [textsOf] at h
  | e :: b, f :: c, hb, hc, h => by
    simp only [textsOf, List.map_cons, List.cons.injEq] at h
    rw [textE_inj (hb e (by simp)) (hc f (by simp)) h.1, textsOf_inj (fun e he => hb e (by simp [he])) (fun e he => hc e (by simp [he])) h.2]

/-- A head. -/
structure Hd where
  n : Int
  log : By
  mp : By
  deriving DecidableEq, Inhabited

def hd0 : Hd := ⟨0, [], []⟩

/-- The head of a book. -/
def headOf (b : Bk) : Hd × Int := if checkB b ≠ 0 then (hd0, checkB b) else (⟨b.length, (tRoot (textsOf b)).1, (mapRoot (valsOf b)).1⟩, 0)

theorem headOf_ok {b : Bk} (h : checkB b = 0) : headOf b = (⟨b.length, (tRoot (textsOf b)).1, (mapRoot (valsOf b)).1⟩, 0) := by rw [headOf, if_neg (by simpa using h)]
theorem headOf_code (b : Bk) : (headOf b).2 = checkB b := by
  unfold headOf
  split
  · rfl
  · rename_i h; simpa using (show ¬ checkB b ≠ 0 from h) |> fun h => (Decidable.not_not.1 h).symm

theorem mapRoot_len {m : Mp} (h : checkM m = 0) : (mapRoot m).1.length ≤ 1173 := by
  rw [mapRoot_ok h]
  have := (tTrie_good (fM_good h) 4 0 (Nat.le_refl _)).2
  have hb : bnd 4 = 1173 := by decide
  rw [hb] at this
  exact this

/-- NO TWO BOOKS HAVE ONE HEAD. -/
theorem headOf_inj {b c : Bk} (hb : checkB b = 0) (hc : checkB c = 0) : headOf b = headOf c ↔ b = c := by
  constructor
  · intro h
    rw [headOf_ok hb, headOf_ok hc] at h
    have h2 : (tRoot (textsOf b)).1 = (tRoot (textsOf c)).1 := by injection h with h _; injection h
    have := tRoot_inj _ _ _ (Nat.le_refl _) (texts_good hb).1 (texts_good hc).1 h2
    exact textsOf_inj (fun e he => ((checkB_ok hb).2 e he).1) (fun e he => ((checkB_ok hc).2 e he).1) this
  · rintro rfl; rfl

/-- A head may be one. -/
def checkH (h : Hd) : Int := if h.n < 0 ∨ 24 < h.n then 3 else if 20000 < h.log.length ∨ 20000 < h.mp.length then 2 else 0

theorem headOf_check {b : Bk} (h : checkB b = 0) : checkH (headOf b).1 = 0 := by
  rw [headOf_ok h]
  have h1 := (checkB_ok h).1
  have h2 := (texts_good h).2
  have h3 := mapRoot_len (valsOf_check h)
  unfold checkH
  simp only
  rw [if_neg (by omega), if_neg (by omega)]

/-- Put an entry behind all. -/
def putBk (b : Bk) (e : En) : Bk × Int := if checkB b ≠ 0 then ([], checkB b) else if checkB (b ++ [e]) ≠ 0 then ([], checkB (b ++ [e])) else (b ++ [e], 0)
end Go.Gs

namespace Go.Ab
open Go.Proofs Go.Gs
variable {G0 : Nat → Option Obj}

theorem good_at' (k : Int) (n : Nat) (hn : 0 < n) (h1 : (n : Int) ≤ 1000000000) (h2 : -9223372036854775808 ≤ k ∧ k ≤ 9223372036854775807) : Good PG nG G0 f_greatseallaw_at [.int .i64 k, .int .i64 n] [] (.int .i64 (atN k n)) [] := by
  have := good_at (G0 := G0) k n hn h1 h2
  rwa [← atN_cast k hn] at this

end Go.Ab

namespace Go.Ab
open Go.Proofs
set_option maxRecDepth 100000

def an_path_turns : FAnn := ⟨[(5, 2, ⟨[], [0], []⟩), (6, 6, ⟨[], [0], []⟩)], [], some [4], []⟩
def an_path_of : FAnn := ⟨[(7, 2, ⟨[], [0], []⟩)], [], some [4], []⟩
def an_path_Of : FAnn := ⟨[(6, 2, ⟨[], [0], []⟩)], [], none, []⟩
def an_path_Shows : FAnn := ⟨[], [(0, [0, 11, 12, 45, 46, 47], [])], none, []⟩
def an_slices_Equal_Step : FAnn := ⟨[], [(0, [0, 1, 12, 13], [])], none, []⟩
def an_greatsealref_spans : FAnn := ⟨[], [(0, [1, 5, 6, 7], [5])], some [4], []⟩
def an_slices_Reverse_pair : FAnn := ⟨[], [(0, [0, 2, 3], [])], none, []⟩
def an_slices_Reverse_pair_nil : FAnn := ⟨[], [(0, [0, 2, 3], [])], none, []⟩
def an_greatsealref_PathOf : FAnn := ⟨[(6, 3, ⟨[], [], [0]⟩), (7, 1, ⟨[0], [], []⟩)], [(0, [0, 1, 9, 38, 39, 40], [9])], none, [(9, [0])]⟩
def an_greatsealref_PathShows : FAnn := ⟨[(5, 2, ⟨[], [], [0]⟩), (6, 1, ⟨[0], [], []⟩)], [(0, [0, 2, 4, 12, 44, 45, 46], [])], none, [(7, [0])]⟩

theorem path_turns_run (n0 : Int) (i1 : Int) (G0 : Nat → Option Go.Obj) (R : AV → List (Option Blk) → Prop) (h :
  ifK (n0 == (1 : Int)) (R (AV.sl (1 : Nat) true (some (0 : Nat)) []) [some (Blk.grow (1 : Nat) (0 : Nat))])
  (∃ n0_1 n1,
    Good PG nG G0 f_tree_Half [AV.int Go.IntKind.i64 n0] [] (AV.tup [AV.int Go.IntKind.i64 n0_1, AV.int Go.IntKind.i64 n1]) [] ∧
      ifK (decide (i1 < n0_1))
        (∃ b2 xs3,
          Good PG nG G0 f_path_turns [AV.int Go.IntKind.i64 n0_1, AV.int Go.IntKind.i64 i1] [] (AV.sl (1 : Nat) b2 (some (0 : Nat)) xs3) [some (Blk.grow (1 : Nat) (List.length xs3))] ∧
            (List.length xs3 + (1 : Nat)) * (1 : Nat) ≤ (140737488355328 : Nat) ∧
              List.length xs3 = List.length xs3 ∧ R (AV.sl (1 : Nat) (b2 && false) (some (0 : Nat)) (xs3 ++ [[AV.bool false]])) [some (Blk.grow (1 : Nat) (List.length xs3 + (1 : Nat)))])
        (∃ b4 xs5,
          Good PG nG G0 f_path_turns [AV.int Go.IntKind.i64 (Go.IntKind.wrap Go.IntKind.i64 (n0 - n0_1)), AV.int Go.IntKind.i64 (Go.IntKind.wrap Go.IntKind.i64 (i1 - n0_1))] [] (AV.sl (1 : Nat) b4 (some (0 : Nat)) xs5)
              [some (Blk.grow (1 : Nat) (List.length xs5))] ∧
            (List.length xs5 + (1 : Nat)) * (1 : Nat) ≤ (140737488355328 : Nat) ∧
              List.length xs5 = List.length xs5 ∧ R (AV.sl (1 : Nat) (b4 && false) (some (0 : Nat)) (xs5 ++ [[AV.bool true]])) [some (Blk.grow (1 : Nat) (List.length xs5 + (1 : Nat)))]))) :
  Hold (runF PG ty nG G0 an_path_turns f_path_turns [AV.int Go.IntKind.i64 n0, AV.int Go.IntKind.i64 i1] [] R) := kshow h (by kernel_rfl)

theorem path_of_run (nll0 : Bool) (l0 : List (List AV)) (i1 : Int) (G0 : Nat → Option Go.Obj) (R : AV → List (Option Blk) → Prop) (h :
  ifK ((↑(List.length l0) : Int) == (1 : Int)) (R (AV.tup [AV.sl (2 : Nat) true (some (0 : Nat)) [], AV.int Go.IntKind.i64 (0 : Int)]) [some (Blk.grow (2 : Nat) (0 : Nat))])
  (∃ n0 n1,
    Good PG nG G0 f_tree_Half [AV.int Go.IntKind.i64 (↑(List.length l0) : Int)] [] (AV.tup [AV.int Go.IntKind.i64 n0, AV.int Go.IntKind.i64 n1]) [] ∧
      (0 : Int) ≤ (0 : Int) ∧
        (0 : Int) ≤ n0 ∧
          n0 ≤ (↑(List.length l0) : Int) ∧
            (0 : Int) ≤ n0 ∧
              n0 ≤ (↑(List.length l0) : Int) ∧
                (↑(List.length l0) : Int) ≤ (↑(List.length l0) : Int) ∧
                  ifK (decide (i1 ≥ n0))
                    (∃ b2 xs3 n4,
                      Good PG nG G0 f_path_of [AV.sl (1 : Nat) nll0 none (List.drop (Int.toNat n0) (List.take (Int.toNat (↑(List.length l0) : Int)) l0)), AV.int Go.IntKind.i64 (Go.IntKind.wrap Go.IntKind.i64 (i1 - n0))] []
                          (AV.tup [AV.sl (2 : Nat) b2 (some (0 : Nat)) xs3, AV.int Go.IntKind.i64 n4]) [some (Blk.grow (2 : Nat) (List.length xs3))] ∧
                        ifK (n4 != (0 : Int)) (R (AV.tup [AV.sl (2 : Nat) true (some (0 : Nat)) [], AV.int Go.IntKind.i64 n4]) [some (Blk.grow (2 : Nat) (0 : Nat))])
                          (∃ s5 n6,
                            Good PG nG G0 f_tree_Root [AV.sl (1 : Nat) nll0 none (List.drop (0 : Nat) (List.take (Int.toNat n0) l0))] [] (AV.tup [AV.str s5, AV.int Go.IntKind.i64 n6]) [] ∧
                              ifK (n6 != (0 : Int)) (R (AV.tup [AV.sl (2 : Nat) true (some (0 : Nat)) [], AV.int Go.IntKind.i64 n6]) [some (Blk.grow (2 : Nat) (0 : Nat))])
                                ((List.length xs3 + List.length [[AV.bool true, AV.str s5]]) * (24 : Nat) ≤ (140737488355328 : Nat) ∧
                                  List.length xs3 = List.length xs3 ∧
                                    R (AV.tup [AV.sl (2 : Nat) (b2 && List.isEmpty [[AV.bool true, AV.str s5]]) (some (0 : Nat)) (xs3 ++ [[AV.bool true, AV.str s5]]), AV.int Go.IntKind.i64 (0 : Int)])
                                      [some (Blk.grow (2 : Nat) (List.length xs3 + List.length [[AV.bool true, AV.str s5]]))])))
                    (∃ b7 xs8 n9,
                      Good PG nG G0 f_path_of [AV.sl (1 : Nat) nll0 none (List.drop (0 : Nat) (List.take (Int.toNat n0) l0)), AV.int Go.IntKind.i64 i1] [] (AV.tup [AV.sl (2 : Nat) b7 (some (0 : Nat)) xs8, AV.int Go.IntKind.i64 n9])
                          [some (Blk.grow (2 : Nat) (List.length xs8))] ∧
                        ifK (n9 != (0 : Int)) (R (AV.tup [AV.sl (2 : Nat) true (some (0 : Nat)) [], AV.int Go.IntKind.i64 n9]) [some (Blk.grow (2 : Nat) (0 : Nat))])
                          (∃ s10 n11,
                            Good PG nG G0 f_tree_Root [AV.sl (1 : Nat) nll0 none (List.drop (Int.toNat n0) (List.take (Int.toNat (↑(List.length l0) : Int)) l0))] [] (AV.tup [AV.str s10, AV.int Go.IntKind.i64 n11]) [] ∧
                              ifK (n11 != (0 : Int)) (R (AV.tup [AV.sl (2 : Nat) true (some (0 : Nat)) [], AV.int Go.IntKind.i64 n11]) [some (Blk.grow (2 : Nat) (0 : Nat))])
                                ((List.length xs8 + List.length [[AV.bool false, AV.str s10]]) * (24 : Nat) ≤ (140737488355328 : Nat) ∧
                                  List.length xs8 = List.length xs8 ∧
                                    R (AV.tup [AV.sl (2 : Nat) (b7 && List.isEmpty [[AV.bool false, AV.str s10]]) (some (0 : Nat)) (xs8 ++ [[AV.bool false, AV.str s10]]), AV.int Go.IntKind.i64 (0 : Int)])
                                      [some (Blk.grow (2 : Nat) (List.length xs8 + List.length [[AV.bool false, AV.str s10]]))]))))) :
  Hold (runF PG ty nG G0 an_path_of f_path_of [AV.sl (1 : Nat) nll0 none l0, AV.int Go.IntKind.i64 i1] [] R) := kshow h (by kernel_rfl)

theorem path_Of_run (nll0 : Bool) (l0 : List (List AV)) (i1 : Int) (G0 : Nat → Option Go.Obj) (R : AV → List (Option Blk) → Prop) (h :
  ∃ s0 n1,
  Good PG nG G0 f_tree_Root [AV.sl (1 : Nat) nll0 none l0] [] (AV.tup [AV.str s0, AV.int Go.IntKind.i64 n1]) [] ∧
    ifK (n1 != (0 : Int)) (R (AV.tup [AV.sl (2 : Nat) true none [], AV.int Go.IntKind.i64 n1]) [])
      (ifK (decide (i1 < (0 : Int))) (R (AV.tup [AV.sl (2 : Nat) true none [], AV.int Go.IntKind.i64 (5 : Int)]) [])
        (ifK (decide (i1 ≥ (↑(List.length l0) : Int))) (R (AV.tup [AV.sl (2 : Nat) true none [], AV.int Go.IntKind.i64 (5 : Int)]) [])
          (∃ b2 xs3 n4,
            Good PG nG G0 f_path_of [AV.sl (1 : Nat) nll0 none l0, AV.int Go.IntKind.i64 i1] [] (AV.tup [AV.sl (2 : Nat) b2 (some (0 : Nat)) xs3, AV.int Go.IntKind.i64 n4]) [some (Blk.grow (2 : Nat) (List.length xs3))] ∧
              R (AV.tup [AV.sl (2 : Nat) b2 none xs3, AV.int Go.IntKind.i64 n4]) [])))) :
  Hold (runF PG ty nG G0 an_path_Of f_path_Of [AV.sl (1 : Nat) nll0 none l0, AV.int Go.IntKind.i64 i1] [] R) := kshow h (by kernel_rfl)

theorem path_Shows_run (root0 : List UInt8) (n1 : Int) (i2 : Int) (text3 : List UInt8) (nlsteps4 : Bool) (steps4 : List (List AV)) (G0 : Nat → Option Go.Obj) (R : AV → List (Option Blk) → Prop) (h :
  ifK (decide (n1 < (1 : Int))) (R (AV.int Go.IntKind.i64 (3 : Int)) [])
  (ifK (decide (n1 > (24 : Int))) (R (AV.int Go.IntKind.i64 (3 : Int)) [])
    (ifK (decide (i2 < (0 : Int))) (R (AV.int Go.IntKind.i64 (5 : Int)) [])
      (ifK (decide (i2 ≥ n1)) (R (AV.int Go.IntKind.i64 (5 : Int)) [])
        (∃ b0 xs1,
          Good PG nG G0 f_path_turns [AV.int Go.IntKind.i64 n1, AV.int Go.IntKind.i64 i2] [] (AV.sl (1 : Nat) b0 none xs1) [] ∧
            ifK ((↑(List.length xs1) : Int) != (↑(List.length steps4) : Int)) (R (AV.int Go.IntKind.i64 (7 : Int)) [])
              (∃ s2 n3,
                Good PG nG G0 f_seal_Leaf [AV.str text3] [] (AV.tup [AV.str s2, AV.int Go.IntKind.i64 n3]) [] ∧
                  ifK (n3 != (0 : Int)) (R (AV.int Go.IntKind.i64 n3) [])
                    (Does PG nG G0 (fnOf PG f_path_Shows) (0 : Nat) (lp PG f_path_Shows (0 : Nat))
                      (mkT (82 : Nat)
                        [((0 : Nat), AV.str root0), ((11 : Nat), AV.sl (1 : Nat) b0 none xs1), ((12 : Nat), AV.str s2), ((45 : Nat), AV.sl (2 : Nat) nlsteps4 none steps4), ((46 : Nat), AV.int Go.IntKind.i64 (↑(List.length steps4) : Int)),
                          ((47 : Nat), AV.int Go.IntKind.i64 (0 : Int))])
                      [] R))))))) :
  Hold (runF PG ty nG G0 an_path_Shows f_path_Shows [AV.str root0, AV.int Go.IntKind.i64 n1, AV.int Go.IntKind.i64 i2, AV.str text3, AV.sl (2 : Nat) nlsteps4 none steps4] [] R) := kshow h (by kernel_rfl)

theorem path_Shows_l0_run (G0 : Nat → Option Obj) (s4 : List UInt8) (b5 : Bool) (xs6 : List (List AV)) (s7 : List UInt8) (b8 : Bool) (xs9 : List (List AV)) (n10 : Int) (n11 : Int) (R : AV → List (Option Blk) → Prop) (h :
  ifK (decide (n11 < n10))
  ((0 : Int) ≤ n11 ∧
    ∃ b12 s13,
      xs9[Int.toNat n11]? = some [AV.bool b12, AV.str s13] ∧
        (0 : Int) ≤ n11 ∧
          ∃ b14,
            xs6[Int.toNat n11]? = some [AV.bool b14] ∧
              ifK (!b12 == b14) (R (AV.int Go.IntKind.i64 (7 : Int)) [])
                (ifK b12
                  (∃ s15 n16,
                    Good PG nG G0 f_seal_Node [AV.str s13, AV.str s7] [] (AV.tup [AV.str s15, AV.int Go.IntKind.i64 n16]) [] ∧
                      ifK (n16 != (0 : Int)) (R (AV.int Go.IntKind.i64 n16) [])
                        (Does PG nG G0 (fnOf PG f_path_Shows) (0 : Nat) (lp PG f_path_Shows (0 : Nat))
                          (mkT (82 : Nat)
                            [((0 : Nat), AV.str s4), ((11 : Nat), AV.sl (1 : Nat) b5 none xs6), ((12 : Nat), AV.str s15), ((45 : Nat), AV.sl (2 : Nat) b8 none xs9), ((46 : Nat), AV.int Go.IntKind.i64 n10),
                              ((47 : Nat), AV.int Go.IntKind.i64 (Go.IntKind.wrap Go.IntKind.i64 (n11 + (1 : Int))))])
                          [] R))
                  (∃ s17 n18,
                    Good PG nG G0 f_seal_Node [AV.str s7, AV.str s13] [] (AV.tup [AV.str s17, AV.int Go.IntKind.i64 n18]) [] ∧
                      ifK (n18 != (0 : Int)) (R (AV.int Go.IntKind.i64 n18) [])
                        (Does PG nG G0 (fnOf PG f_path_Shows) (0 : Nat) (lp PG f_path_Shows (0 : Nat))
                          (mkT (82 : Nat)
                            [((0 : Nat), AV.str s4), ((11 : Nat), AV.sl (1 : Nat) b5 none xs6), ((12 : Nat), AV.str s17), ((45 : Nat), AV.sl (2 : Nat) b8 none xs9), ((46 : Nat), AV.int Go.IntKind.i64 n10),
                              ((47 : Nat), AV.int Go.IntKind.i64 (Go.IntKind.wrap Go.IntKind.i64 (n11 + (1 : Int))))])
                          [] R))))
  (ifK (!s7 == s4) (R (AV.int Go.IntKind.i64 (7 : Int)) []) (R (AV.int Go.IntKind.i64 (0 : Int)) []))) :
  Hold (runL PG ty nG G0 an_path_Shows f_path_Shows (0 : Nat) (0 : Nat)
  (mkT (82 : Nat) [((0 : Nat), AV.str s4), ((11 : Nat), AV.sl (1 : Nat) b5 none xs6), ((12 : Nat), AV.str s7), ((45 : Nat), AV.sl (2 : Nat) b8 none xs9), ((46 : Nat), AV.int Go.IntKind.i64 n10), ((47 : Nat), AV.int Go.IntKind.i64 n11)]) []
  R) := kshow h (by kernel_rfl)

theorem slices_Equal_Step_run (nls10 : Bool) (s10 : List (List AV)) (nls21 : Bool) (s21 : List (List AV)) (G0 : Nat → Option Go.Obj) (R : AV → List (Option Blk) → Prop) (h :
  ifK ((↑(List.length s10) : Int) != (↑(List.length s21) : Int)) (R (AV.bool false) [])
  (Does PG nG G0 (fnOf PG f_slices_Equal_Step) (0 : Nat) (lp PG f_slices_Equal_Step (0 : Nat))
    (mkT (26 : Nat) [((0 : Nat), AV.sl (2 : Nat) nls10 none s10), ((1 : Nat), AV.sl (2 : Nat) nls21 none s21), ((12 : Nat), AV.int Go.IntKind.i64 (↑(List.length s10) : Int)), ((13 : Nat), AV.int Go.IntKind.i64 (0 : Int))]) [] R)) :
  Hold (runF PG ty nG G0 an_slices_Equal_Step f_slices_Equal_Step [AV.sl (2 : Nat) nls10 none s10, AV.sl (2 : Nat) nls21 none s21] [] R) := kshow h (by kernel_rfl)

theorem slices_Equal_Step_l0_run (G0 : Nat → Option Obj) (b0 : Bool) (xs1 : List (List AV)) (b2 : Bool) (xs3 : List (List AV)) (n4 : Int) (n5 : Int) (R : AV → List (Option Blk) → Prop) (h :
  ifK (decide (n5 < n4))
  ((0 : Int) ≤ n5 ∧
    ∃ b6 s7,
      xs1[Int.toNat n5]? = some [AV.bool b6, AV.str s7] ∧
        (0 : Int) ≤ n5 ∧
          ∃ b8 s9,
            xs3[Int.toNat n5]? = some [AV.bool b8, AV.str s9] ∧
              ifK (!eqAll [AV.bool b6, AV.str s7] [AV.bool b8, AV.str s9]) (R (AV.bool false) [])
                (Does PG nG G0 (fnOf PG f_slices_Equal_Step) (0 : Nat) (lp PG f_slices_Equal_Step (0 : Nat))
                  (mkT (26 : Nat)
                    [((0 : Nat), AV.sl (2 : Nat) b0 none xs1), ((1 : Nat), AV.sl (2 : Nat) b2 none xs3), ((12 : Nat), AV.int Go.IntKind.i64 n4), ((13 : Nat), AV.int Go.IntKind.i64 (Go.IntKind.wrap Go.IntKind.i64 (n5 + (1 : Int))))])
                  [] R))
  (R (AV.bool true) [])) :
  Hold (runL PG ty nG G0 an_slices_Equal_Step f_slices_Equal_Step (0 : Nat) (0 : Nat)
  (mkT (26 : Nat) [((0 : Nat), AV.sl (2 : Nat) b0 none xs1), ((1 : Nat), AV.sl (2 : Nat) b2 none xs3), ((12 : Nat), AV.int Go.IntKind.i64 n4), ((13 : Nat), AV.int Go.IntKind.i64 n5)]) [] R) := kshow h (by kernel_rfl)

theorem greatsealref_spans_run (n0 : Int) (i1 : Int) (G0 : Nat → Option Go.Obj) (R : AV → List (Option Blk) → Prop) (h :
  Does PG nG G0 (fnOf PG f_greatsealref_spans) (0 : Nat) (lp PG f_greatsealref_spans (0 : Nat))
  (mkT (32 : Nat) [((1 : Nat), AV.int Go.IntKind.i64 i1), ((5 : Nat), AV.sl (2 : Nat) true (some (0 : Nat)) []), ((6 : Nat), AV.int Go.IntKind.i64 (0 : Int)), ((7 : Nat), AV.int Go.IntKind.i64 n0)]) [some (Blk.grow (2 : Nat) (0 : Nat))] R) :
  Hold (runF PG ty nG G0 an_greatsealref_spans f_greatsealref_spans [AV.int Go.IntKind.i64 n0, AV.int Go.IntKind.i64 i1] [] R) := kshow h (by kernel_rfl)

theorem greatsealref_spans_l0_run (G0 : Nat → Option Obj) (n0 : Int) (b1 : Bool) (xs2 : List (List AV)) (n3 : Int) (n4 : Int) (m5 : Nat) (R : AV → List (Option Blk) → Prop) (h :
  ifK (decide (Go.IntKind.wrap Go.IntKind.i64 (n4 - n3) > (1 : Int)))
  ((List.length xs2 + List.length [[AV.int Go.IntKind.i64 n3, AV.int Go.IntKind.i64 n4]]) * (16 : Nat) ≤ (140737488355328 : Nat) ∧
    List.length xs2 = m5 ∧
      ∃ n6,
        Good PG nG G0 f_greatsealref_HalfOf [AV.int Go.IntKind.i64 (Go.IntKind.wrap Go.IntKind.i64 (n4 - n3))] [] (AV.int Go.IntKind.i64 n6) [] ∧
          ifK (decide (n0 < Go.IntKind.wrap Go.IntKind.i64 (n3 + n6)))
            (Does PG nG G0 (fnOf PG f_greatsealref_spans) (0 : Nat) (lp PG f_greatsealref_spans (0 : Nat))
              (mkT (32 : Nat)
                [((1 : Nat), AV.int Go.IntKind.i64 n0),
                  ((5 : Nat), AV.sl (2 : Nat) (b1 && List.isEmpty [[AV.int Go.IntKind.i64 n3, AV.int Go.IntKind.i64 n4]]) (some (0 : Nat)) (xs2 ++ [[AV.int Go.IntKind.i64 n3, AV.int Go.IntKind.i64 n4]])),
                  ((6 : Nat), AV.int Go.IntKind.i64 n3), ((7 : Nat), AV.int Go.IntKind.i64 (Go.IntKind.wrap Go.IntKind.i64 (n3 + n6)))])
              [some (Blk.grow (2 : Nat) (m5 + List.length [[AV.int Go.IntKind.i64 n3, AV.int Go.IntKind.i64 n4]]))] R)
            (Does PG nG G0 (fnOf PG f_greatsealref_spans) (0 : Nat) (lp PG f_greatsealref_spans (0 : Nat))
              (mkT (32 : Nat)
                [((1 : Nat), AV.int Go.IntKind.i64 n0),
                  ((5 : Nat), AV.sl (2 : Nat) (b1 && List.isEmpty [[AV.int Go.IntKind.i64 n3, AV.int Go.IntKind.i64 n4]]) (some (0 : Nat)) (xs2 ++ [[AV.int Go.IntKind.i64 n3, AV.int Go.IntKind.i64 n4]])),
                  ((6 : Nat), AV.int Go.IntKind.i64 (Go.IntKind.wrap Go.IntKind.i64 (n3 + n6))), ((7 : Nat), AV.int Go.IntKind.i64 n4)])
              [some (Blk.grow (2 : Nat) (m5 + List.length [[AV.int Go.IntKind.i64 n3, AV.int Go.IntKind.i64 n4]]))] R))
  (R (AV.sl (2 : Nat) b1 (some (0 : Nat)) xs2) [some (Blk.grow (2 : Nat) m5)])) :
  Hold (runL PG ty nG G0 an_greatsealref_spans f_greatsealref_spans (0 : Nat) (0 : Nat)
  (mkT (32 : Nat) [((1 : Nat), AV.int Go.IntKind.i64 n0), ((5 : Nat), AV.sl (2 : Nat) b1 (some (0 : Nat)) xs2), ((6 : Nat), AV.int Go.IntKind.i64 n3), ((7 : Nat), AV.int Go.IntKind.i64 n4)]) [some (Blk.grow (2 : Nat) m5)] R) := kshow h (by kernel_rfl)

theorem slices_Reverse_pair_run (n : Nat) (xs : List (List AV)) (G0 : Nat → Option Go.Obj) (R : AV → List (Option Blk) → Prop) (h :
  Does PG nG G0 (fnOf PG f_slices_Reverse_pair) (1 : Nat) (lp PG f_slices_Reverse_pair (0 : Nat))
  (mkT (28 : Nat) [((0 : Nat), AV.rsl (2 : Nat) (0 : Nat) (0 : Nat) n), ((2 : Nat), AV.int Go.IntKind.i64 (0 : Int)), ((3 : Nat), AV.int Go.IntKind.i64 (Go.IntKind.wrap Go.IntKind.i64 ((↑n : Int) - (1 : Int))))])
  [some (Blk.arr (2 : Nat) xs)] R) :
  Hold (runF PG ty nG G0 an_slices_Reverse_pair f_slices_Reverse_pair [AV.rsl (2 : Nat) (0 : Nat) (0 : Nat) n] [some (Blk.arr (2 : Nat) xs)] R) := kshow h (by kernel_rfl)

theorem slices_Reverse_pair_l0_run (G0 : Nat → Option Obj) (m0 : Nat) (m1 : Nat) (n2 : Int) (n3 : Int) (xs4 : List (List AV)) (R : AV → List (Option Blk) → Prop) (h :
  ifK (decide (n2 < n3))
  ((0 : Int) ≤ n3 ∧
    n3 < (↑m1 : Int) ∧
      ∃ n5 n6,
        (∃ xs7, xs4[m0 + Int.toNat n3]? = some xs7 ∧ List.take (2 : Nat) (List.drop (0 : Nat) xs7) = [AV.int Go.IntKind.i64 n5, AV.int Go.IntKind.i64 n6]) ∧
          (0 : Int) ≤ n2 ∧
            n2 < (↑m1 : Int) ∧
              ∃ n8 n9,
                (∃ xs10, xs4[m0 + Int.toNat n2]? = some xs10 ∧ List.take (2 : Nat) (List.drop (0 : Nat) xs10) = [AV.int Go.IntKind.i64 n8, AV.int Go.IntKind.i64 n9]) ∧
                  (0 : Int) ≤ n2 ∧
                    n2 < (↑m1 : Int) ∧
                      (0 : Int) ≤ n3 ∧
                        n3 < (↑m1 : Int) ∧
                          Does PG nG G0 (fnOf PG f_slices_Reverse_pair) (1 : Nat) (lp PG f_slices_Reverse_pair (0 : Nat))
                            (mkT (28 : Nat)
                              [((0 : Nat), AV.rsl (2 : Nat) (0 : Nat) m0 m1), ((2 : Nat), AV.int Go.IntKind.i64 (Go.IntKind.wrap Go.IntKind.i64 (n2 + (1 : Int)))),
                                ((3 : Nat), AV.int Go.IntKind.i64 (Go.IntKind.wrap Go.IntKind.i64 (n3 - (1 : Int))))])
                            [some
                                (Blk.arr (2 : Nat)
                                  (List.set (List.set xs4 (m0 + Int.toNat n2) (setR (List.getD xs4 (m0 + Int.toNat n2) []) (0 : Nat) [AV.int Go.IntKind.i64 n5, AV.int Go.IntKind.i64 n6])) (m0 + Int.toNat n3)
                                    (setR (List.getD (List.set xs4 (m0 + Int.toNat n2) (setR (List.getD xs4 (m0 + Int.toNat n2) []) (0 : Nat) [AV.int Go.IntKind.i64 n5, AV.int Go.IntKind.i64 n6])) (m0 + Int.toNat n3) []) (0 : Nat)
                                      [AV.int Go.IntKind.i64 n8, AV.int Go.IntKind.i64 n9])))]
                            R)
  (R (AV.tup []) [some (Blk.arr (2 : Nat) xs4)])) :
  Hold (runL PG ty nG G0 an_slices_Reverse_pair f_slices_Reverse_pair (0 : Nat) (1 : Nat)
  (mkT (28 : Nat) [((0 : Nat), AV.rsl (2 : Nat) (0 : Nat) m0 m1), ((2 : Nat), AV.int Go.IntKind.i64 n2), ((3 : Nat), AV.int Go.IntKind.i64 n3)]) [some (Blk.arr (2 : Nat) xs4)] R) := kshow h (by kernel_rfl)

theorem slices_Reverse_pair_nil_run (G0 : Nat → Option Go.Obj) (R : AV → List (Option Blk) → Prop) (h :
  Does PG nG G0 (fnOf PG f_slices_Reverse_pair) (0 : Nat) (lp PG f_slices_Reverse_pair (0 : Nat)) (mkT (28 : Nat) [((0 : Nat), AV.sl (2 : Nat) true none []), ((2 : Nat), AV.int Go.IntKind.i64 (0 : Int)), ((3 : Nat), AV.int Go.IntKind.i64 (-1 : Int))]) [] R) :
  Hold (runF PG ty nG G0 an_slices_Reverse_pair_nil f_slices_Reverse_pair [AV.sl (2 : Nat) true none []] [] R) := kshow h (by kernel_rfl)

theorem slices_Reverse_pair_nil_l0_run (G0 : Nat → Option Obj) (b0 : Bool) (xs1 : List (List AV)) (n2 : Int) (n3 : Int) (R : AV → List (Option Blk) → Prop) (h :
  ifK (decide (n2 < n3))
  ((0 : Int) ≤ n3 ∧
    ∃ n4 n5,
      xs1[Int.toNat n3]? = some [AV.int Go.IntKind.i64 n4, AV.int Go.IntKind.i64 n5] ∧
        (0 : Int) ≤ n2 ∧ ∃ n6 n7, xs1[Int.toNat n2]? = some [AV.int Go.IntKind.i64 n6, AV.int Go.IntKind.i64 n7] ∧ (0 : Int) ≤ n2 ∧ ∃ n8 n9, xs1[Int.toNat n2]? = some [AV.int Go.IntKind.i64 n8, AV.int Go.IntKind.i64 n9] ∧ False)
  (R (AV.tup []) [])) :
  Hold (runL PG ty nG G0 an_slices_Reverse_pair_nil f_slices_Reverse_pair (0 : Nat) (0 : Nat) (mkT (28 : Nat) [((0 : Nat), AV.sl (2 : Nat) b0 none xs1), ((2 : Nat), AV.int Go.IntKind.i64 n2), ((3 : Nat), AV.int Go.IntKind.i64 n3)]) [] R) := kshow h (by kernel_rfl)

theorem greatsealref_PathOf_run (nll0 : Bool) (l0 : List (List AV)) (i1 : Int) (G0 : Nat → Option Go.Obj) (R : AV → List (Option Blk) → Prop) (h :
  ∃ s0 n1,
  Good PG nG G0 f_greatsealref_RootOf [AV.sl (1 : Nat) nll0 none l0] [] (AV.tup [AV.str s0, AV.int Go.IntKind.i64 n1]) [] ∧
    ifK (n1 != (0 : Int)) (R (AV.tup [AV.sl (2 : Nat) true none [], AV.int Go.IntKind.i64 n1]) [])
      (ifK (decide (i1 < (0 : Int))) (R (AV.tup [AV.sl (2 : Nat) true none [], AV.int Go.IntKind.i64 (5 : Int)]) [])
        (ifK (decide (i1 ≥ (↑(List.length l0) : Int))) (R (AV.tup [AV.sl (2 : Nat) true none [], AV.int Go.IntKind.i64 (5 : Int)]) [])
          (∃ b2 xs3,
            ifK b2
              (Good PG nG G0 f_greatsealref_spans [AV.int Go.IntKind.i64 (↑(List.length l0) : Int), AV.int Go.IntKind.i64 i1] [] (AV.sl (2 : Nat) true none []) [] ∧
                Good PG nG G0 f_slices_Reverse_pair [AV.sl (2 : Nat) true none []] [] (AV.tup []) [] ∧
                  Does PG nG G0 (fnOf PG f_greatsealref_PathOf) (0 : Nat) (lp PG f_greatsealref_PathOf (0 : Nat))
                    (mkT (81 : Nat)
                      [((0 : Nat), AV.sl (1 : Nat) nll0 none l0), ((1 : Nat), AV.int Go.IntKind.i64 i1), ((9 : Nat), AV.sl (2 : Nat) true (some (0 : Nat)) []), ((38 : Nat), AV.sl (2 : Nat) true none []),
                        ((39 : Nat), AV.int Go.IntKind.i64 (0 : Int)), ((40 : Nat), AV.int Go.IntKind.i64 (0 : Int))])
                    [some (Blk.grow (2 : Nat) (0 : Nat))] R)
              (Good PG nG G0 f_greatsealref_spans [AV.int Go.IntKind.i64 (↑(List.length l0) : Int), AV.int Go.IntKind.i64 i1] [] (AV.rsl (2 : Nat) (0 : Nat) (0 : Nat) (List.length xs3)) [some (Blk.arr (2 : Nat) xs3)] ∧
                ∃ xs4,
                  Good PG nG G0 f_slices_Reverse_pair [AV.rsl (2 : Nat) (0 : Nat) (0 : Nat) (List.length xs3)] [some (Blk.arr (2 : Nat) xs3)] (AV.tup []) [some (Blk.arr (2 : Nat) xs4)] ∧
                    Does PG nG G0 (fnOf PG f_greatsealref_PathOf) (0 : Nat) (lp PG f_greatsealref_PathOf (0 : Nat))
                      (mkT (81 : Nat)
                        [((0 : Nat), AV.sl (1 : Nat) nll0 none l0), ((1 : Nat), AV.int Go.IntKind.i64 i1), ((9 : Nat), AV.sl (2 : Nat) true (some (0 : Nat)) []),
                          ((38 : Nat), AV.sl (2 : Nat) false none (List.take (List.length xs3) (List.drop (0 : Nat) xs4))), ((39 : Nat), AV.int Go.IntKind.i64 (↑(List.length (List.take (List.length xs3) (List.drop (0 : Nat) xs4))) : Int)),
                          ((40 : Nat), AV.int Go.IntKind.i64 (0 : Int))])
                      [some (Blk.grow (2 : Nat) (0 : Nat))] R))))) :
  Hold (runF PG ty nG G0 an_greatsealref_PathOf f_greatsealref_PathOf [AV.sl (1 : Nat) nll0 none l0, AV.int Go.IntKind.i64 i1] [] R) := kshow h (by kernel_rfl)

theorem greatsealref_PathOf_l0_run (G0 : Nat → Option Obj) (b5 : Bool) (xs6 : List (List AV)) (n7 : Int) (b8 : Bool) (xs9 : List (List AV)) (b10 : Bool) (xs11 : List (List AV)) (n12 : Int) (n13 : Int) (m14 : Nat) (R : AV → List (Option Blk) → Prop) (h :
  ifK (decide (n13 < n12))
  ((0 : Int) ≤ n13 ∧
    ∃ n15 n16,
      xs11[Int.toNat n13]? = some [AV.int Go.IntKind.i64 n15, AV.int Go.IntKind.i64 n16] ∧
        (0 : Int) ≤ (0 : Int) ∧
          (0 : Int) < (2 : Int) ∧
            (0 : Int) ≤ (1 : Int) ∧
              (1 : Int) < (2 : Int) ∧
                (0 : Int) ≤ (0 : Int) ∧
                  (0 : Int) < (2 : Int) ∧
                    ∃ n17,
                      Good PG nG G0 f_greatsealref_HalfOf [AV.int Go.IntKind.i64 (Go.IntKind.wrap Go.IntKind.i64 (n16 - n15))] [] (AV.int Go.IntKind.i64 n17) [] ∧
                        (0 : Int) ≤ (1 : Int) ∧
                          (1 : Int) < (2 : Int) ∧
                            (0 : Int) ≤ Go.IntKind.wrap Go.IntKind.i64 (n15 + n17) ∧
                              Go.IntKind.wrap Go.IntKind.i64 (n15 + n17) ≤ n16 ∧
                                n16 ≤ (↑(List.length xs6) : Int) ∧
                                  ifK (decide (n7 ≥ Go.IntKind.wrap Go.IntKind.i64 (n15 + n17)))
                                    ((0 : Int) ≤ (0 : Int) ∧
                                      (0 : Int) < (2 : Int) ∧
                                        (0 : Int) ≤ n15 ∧
                                          n15 ≤ Go.IntKind.wrap Go.IntKind.i64 (n15 + n17) ∧
                                            Go.IntKind.wrap Go.IntKind.i64 (n15 + n17) ≤ (↑(List.length xs6) : Int) ∧
                                              ∃ s18 n19,
                                                Good PG nG G0 f_greatsealref_RootOf [AV.sl (1 : Nat) b5 none (List.drop (Int.toNat n15) (List.take (Int.toNat (Go.IntKind.wrap Go.IntKind.i64 (n15 + n17))) xs6))] []
                                                    (AV.tup [AV.str s18, AV.int Go.IntKind.i64 n19]) [] ∧
                                                  (List.length xs9 + List.length [[AV.bool (decide (n7 ≥ Go.IntKind.wrap Go.IntKind.i64 (n15 + n17))), AV.str s18]]) * (24 : Nat) ≤ (140737488355328 : Nat) ∧
                                                    List.length xs9 = m14 ∧
                                                      Does PG nG G0 (fnOf PG f_greatsealref_PathOf) (0 : Nat) (lp PG f_greatsealref_PathOf (0 : Nat))
                                                        (mkT (81 : Nat)
                                                          [((0 : Nat), AV.sl (1 : Nat) b5 none xs6), ((1 : Nat), AV.int Go.IntKind.i64 n7),
                                                            ((9 : Nat),
                                                              AV.sl (2 : Nat) (b8 && List.isEmpty [[AV.bool (decide (n7 ≥ Go.IntKind.wrap Go.IntKind.i64 (n15 + n17))), AV.str s18]]) (some (0 : Nat))
                                                                (xs9 ++ [[AV.bool (decide (n7 ≥ Go.IntKind.wrap Go.IntKind.i64 (n15 + n17))), AV.str s18]])),
                                                            ((38 : Nat), AV.sl (2 : Nat) b10 none xs11), ((39 : Nat), AV.int Go.IntKind.i64 n12), ((40 : Nat), AV.int Go.IntKind.i64 (Go.IntKind.wrap Go.IntKind.i64 (n13 + (1 : Int))))])
                                                        [some (Blk.grow (2 : Nat) (m14 + List.length [[AV.bool (decide (n7 ≥ Go.IntKind.wrap Go.IntKind.i64 (n15 + n17))), AV.str s18]]))] R)
                                    (∃ s20 n21,
                                      Good PG nG G0 f_greatsealref_RootOf [AV.sl (1 : Nat) b5 none (List.drop (Int.toNat (Go.IntKind.wrap Go.IntKind.i64 (n15 + n17))) (List.take (Int.toNat n16) xs6))] []
                                          (AV.tup [AV.str s20, AV.int Go.IntKind.i64 n21]) [] ∧
                                        (List.length xs9 + List.length [[AV.bool (decide (n7 ≥ Go.IntKind.wrap Go.IntKind.i64 (n15 + n17))), AV.str s20]]) * (24 : Nat) ≤ (140737488355328 : Nat) ∧
                                          List.length xs9 = m14 ∧
                                            Does PG nG G0 (fnOf PG f_greatsealref_PathOf) (0 : Nat) (lp PG f_greatsealref_PathOf (0 : Nat))
                                              (mkT (81 : Nat)
                                                [((0 : Nat), AV.sl (1 : Nat) b5 none xs6), ((1 : Nat), AV.int Go.IntKind.i64 n7),
                                                  ((9 : Nat),
                                                    AV.sl (2 : Nat) (b8 && List.isEmpty [[AV.bool (decide (n7 ≥ Go.IntKind.wrap Go.IntKind.i64 (n15 + n17))), AV.str s20]]) (some (0 : Nat))
                                                      (xs9 ++ [[AV.bool (decide (n7 ≥ Go.IntKind.wrap Go.IntKind.i64 (n15 + n17))), AV.str s20]])),
                                                  ((38 : Nat), AV.sl (2 : Nat) b10 none xs11), ((39 : Nat), AV.int Go.IntKind.i64 n12), ((40 : Nat), AV.int Go.IntKind.i64 (Go.IntKind.wrap Go.IntKind.i64 (n13 + (1 : Int))))])
                                              [some (Blk.grow (2 : Nat) (m14 + List.length [[AV.bool (decide (n7 ≥ Go.IntKind.wrap Go.IntKind.i64 (n15 + n17))), AV.str s20]]))] R))
  (R (AV.tup [AV.sl (2 : Nat) b8 none xs9, AV.int Go.IntKind.i64 (0 : Int)]) [])) :
  Hold (runL PG ty nG G0 an_greatsealref_PathOf f_greatsealref_PathOf (0 : Nat) (0 : Nat)
  (mkT (81 : Nat)
    [((0 : Nat), AV.sl (1 : Nat) b5 none xs6), ((1 : Nat), AV.int Go.IntKind.i64 n7), ((9 : Nat), AV.sl (2 : Nat) b8 (some (0 : Nat)) xs9), ((38 : Nat), AV.sl (2 : Nat) b10 none xs11), ((39 : Nat), AV.int Go.IntKind.i64 n12),
      ((40 : Nat), AV.int Go.IntKind.i64 n13)])
  [some (Blk.grow (2 : Nat) m14)] R) := kshow h (by kernel_rfl)

theorem greatsealref_PathShows_run (root0 : List UInt8) (n1 : Int) (i2 : Int) (text3 : List UInt8) (nlsteps4 : Bool) (steps4 : List (List AV)) (G0 : Nat → Option Go.Obj) (R : AV → List (Option Blk) → Prop) (h :
  ∃ b0,
  Good PG nG G0 f_greatsealref_in [AV.int Go.IntKind.i64 n1, AV.int Go.IntKind.i64 (1 : Int), AV.int Go.IntKind.i64 (24 : Int)] [] (AV.bool b0) [] ∧
    ifK (!b0) (R (AV.int Go.IntKind.i64 (3 : Int)) [])
      (∃ b1,
        Good PG nG G0 f_greatsealref_in [AV.int Go.IntKind.i64 i2, AV.int Go.IntKind.i64 (0 : Int), AV.int Go.IntKind.i64 (Go.IntKind.wrap Go.IntKind.i64 (n1 - (1 : Int)))] [] (AV.bool b1) [] ∧
          ifK (!b1) (R (AV.int Go.IntKind.i64 (5 : Int)) [])
            (∃ b2 xs3,
              ifK b2
                (Good PG nG G0 f_greatsealref_spans [AV.int Go.IntKind.i64 n1, AV.int Go.IntKind.i64 i2] [] (AV.sl (2 : Nat) true none []) [] ∧
                  Good PG nG G0 f_slices_Reverse_pair [AV.sl (2 : Nat) true none []] [] (AV.tup []) [] ∧
                    ifK ((0 : Int) != (↑(List.length steps4) : Int)) (R (AV.int Go.IntKind.i64 (7 : Int)) [])
                      (∃ s4 n5,
                        Good PG nG G0 f_greatsealref_LeafOf [AV.str text3] [] (AV.tup [AV.str s4, AV.int Go.IntKind.i64 n5]) [] ∧
                          ifK (n5 != (0 : Int)) (R (AV.int Go.IntKind.i64 n5) [])
                            (Does PG nG G0 (fnOf PG f_greatsealref_PathShows) (0 : Nat) (lp PG f_greatsealref_PathShows (0 : Nat))
                              (mkT (94 : Nat)
                                [((0 : Nat), AV.str root0), ((2 : Nat), AV.int Go.IntKind.i64 i2), ((4 : Nat), AV.sl (2 : Nat) nlsteps4 none steps4), ((12 : Nat), AV.str s4), ((44 : Nat), AV.sl (2 : Nat) true none []),
                                  ((45 : Nat), AV.int Go.IntKind.i64 (0 : Int)), ((46 : Nat), AV.int Go.IntKind.i64 (0 : Int))])
                              [] R)))
                (Good PG nG G0 f_greatsealref_spans [AV.int Go.IntKind.i64 n1, AV.int Go.IntKind.i64 i2] [] (AV.rsl (2 : Nat) (0 : Nat) (0 : Nat) (List.length xs3)) [some (Blk.arr (2 : Nat) xs3)] ∧
                  ∃ xs6,
                    Good PG nG G0 f_slices_Reverse_pair [AV.rsl (2 : Nat) (0 : Nat) (0 : Nat) (List.length xs3)] [some (Blk.arr (2 : Nat) xs3)] (AV.tup []) [some (Blk.arr (2 : Nat) xs6)] ∧
                      ifK ((↑(List.length (List.take (List.length xs3) (List.drop (0 : Nat) xs6))) : Int) != (↑(List.length steps4) : Int)) (R (AV.int Go.IntKind.i64 (7 : Int)) [])
                        (∃ s7 n8,
                          Good PG nG G0 f_greatsealref_LeafOf [AV.str text3] [] (AV.tup [AV.str s7, AV.int Go.IntKind.i64 n8]) [] ∧
                            ifK (n8 != (0 : Int)) (R (AV.int Go.IntKind.i64 n8) [])
                              (Does PG nG G0 (fnOf PG f_greatsealref_PathShows) (0 : Nat) (lp PG f_greatsealref_PathShows (0 : Nat))
                                (mkT (94 : Nat)
                                  [((0 : Nat), AV.str root0), ((2 : Nat), AV.int Go.IntKind.i64 i2), ((4 : Nat), AV.sl (2 : Nat) nlsteps4 none steps4), ((12 : Nat), AV.str s7),
                                    ((44 : Nat), AV.sl (2 : Nat) false none (List.take (List.length xs3) (List.drop (0 : Nat) xs6))),
                                    ((45 : Nat), AV.int Go.IntKind.i64 (↑(List.length (List.take (List.length xs3) (List.drop (0 : Nat) xs6))) : Int)), ((46 : Nat), AV.int Go.IntKind.i64 (0 : Int))])
                                [] R)))))) :
  Hold (runF PG ty nG G0 an_greatsealref_PathShows f_greatsealref_PathShows [AV.str root0, AV.int Go.IntKind.i64 n1, AV.int Go.IntKind.i64 i2, AV.str text3, AV.sl (2 : Nat) nlsteps4 none steps4] [] R) := kshow h (by kernel_rfl)

theorem greatsealref_PathShows_l0_run (G0 : Nat → Option Obj) (s9 : List UInt8) (n10 : Int) (b11 : Bool) (xs12 : List (List AV)) (s13 : List UInt8) (b14 : Bool) (xs15 : List (List AV)) (n16 : Int) (n17 : Int) (R : AV → List (Option Blk) → Prop) (h :
  ifK (decide (n17 < n16))
  ((0 : Int) ≤ n17 ∧
    ∃ n18 n19,
      xs15[Int.toNat n17]? = some [AV.int Go.IntKind.i64 n18, AV.int Go.IntKind.i64 n19] ∧
        (0 : Int) ≤ n17 ∧
          ∃ b20 s21,
            xs12[Int.toNat n17]? = some [AV.bool b20, AV.str s21] ∧
              (0 : Int) ≤ (0 : Int) ∧
                (0 : Int) < (2 : Int) ∧
                  (0 : Int) ≤ (1 : Int) ∧
                    (1 : Int) < (2 : Int) ∧
                      (0 : Int) ≤ (0 : Int) ∧
                        (0 : Int) < (2 : Int) ∧
                          ∃ n22,
                            Good PG nG G0 f_greatsealref_HalfOf [AV.int Go.IntKind.i64 (Go.IntKind.wrap Go.IntKind.i64 (n19 - n18))] [] (AV.int Go.IntKind.i64 n22) [] ∧
                              ifK (!b20 == decide (n10 ≥ Go.IntKind.wrap Go.IntKind.i64 (n18 + n22))) (R (AV.int Go.IntKind.i64 (7 : Int)) [])
                                ((0 : Int) ≤ n17 ∧
                                  ∃ b23 s24,
                                    xs12[Int.toNat n17]? = some [AV.bool b23, AV.str s24] ∧
                                      (0 : Int) ≤ n17 ∧
                                        ∃ b25 s26,
                                          xs12[Int.toNat n17]? = some [AV.bool b25, AV.str s26] ∧
                                            ifK b25
                                              (∃ s27 n28,
                                                Good PG nG G0 f_greatsealref_NodeOf [AV.str s24, AV.str s13] [] (AV.tup [AV.str s27, AV.int Go.IntKind.i64 n28]) [] ∧
                                                  ifK (n28 != (0 : Int)) (R (AV.int Go.IntKind.i64 n28) [])
                                                    (Does PG nG G0 (fnOf PG f_greatsealref_PathShows) (0 : Nat) (lp PG f_greatsealref_PathShows (0 : Nat))
                                                      (mkT (94 : Nat)
                                                        [((0 : Nat), AV.str s9), ((2 : Nat), AV.int Go.IntKind.i64 n10), ((4 : Nat), AV.sl (2 : Nat) b11 none xs12), ((12 : Nat), AV.str s27), ((44 : Nat), AV.sl (2 : Nat) b14 none xs15),
                                                          ((45 : Nat), AV.int Go.IntKind.i64 n16), ((46 : Nat), AV.int Go.IntKind.i64 (Go.IntKind.wrap Go.IntKind.i64 (n17 + (1 : Int))))])
                                                      [] R))
                                              (∃ s29 n30,
                                                Good PG nG G0 f_greatsealref_NodeOf [AV.str s13, AV.str s24] [] (AV.tup [AV.str s29, AV.int Go.IntKind.i64 n30]) [] ∧
                                                  ifK (n30 != (0 : Int)) (R (AV.int Go.IntKind.i64 n30) [])
                                                    (Does PG nG G0 (fnOf PG f_greatsealref_PathShows) (0 : Nat) (lp PG f_greatsealref_PathShows (0 : Nat))
                                                      (mkT (94 : Nat)
                                                        [((0 : Nat), AV.str s9), ((2 : Nat), AV.int Go.IntKind.i64 n10), ((4 : Nat), AV.sl (2 : Nat) b11 none xs12), ((12 : Nat), AV.str s29), ((44 : Nat), AV.sl (2 : Nat) b14 none xs15),
                                                          ((45 : Nat), AV.int Go.IntKind.i64 n16), ((46 : Nat), AV.int Go.IntKind.i64 (Go.IntKind.wrap Go.IntKind.i64 (n17 + (1 : Int))))])
                                                      [] R))))
  (ifK (s13 == s9) (R (AV.int Go.IntKind.i64 (0 : Int)) []) (R (AV.int Go.IntKind.i64 (7 : Int)) []))) :
  Hold (runL PG ty nG G0 an_greatsealref_PathShows f_greatsealref_PathShows (0 : Nat) (0 : Nat)
  (mkT (94 : Nat)
    [((0 : Nat), AV.str s9), ((2 : Nat), AV.int Go.IntKind.i64 n10), ((4 : Nat), AV.sl (2 : Nat) b11 none xs12), ((12 : Nat), AV.str s13), ((44 : Nat), AV.sl (2 : Nat) b14 none xs15), ((45 : Nat), AV.int Go.IntKind.i64 n16),
      ((46 : Nat), AV.int Go.IntKind.i64 n17)])
  [] R) := kshow h (by kernel_rfl)

end Go.Ab

namespace Go.Gs

/-- A part of a list. -/
def sub {α : Type} (l : List α) (f t : Nat) : List α := (l.take t).drop f

theorem sub_all {α : Type} (l : List α) : sub l 0 l.length = l := by simp [sub]
theorem sub_len {α : Type} {l : List α} {f t : Nat} (ht : t ≤ l.length) : (sub l f t).length = t - f := by
  simp only [sub, List.length_drop, List.length_take]; omega
theorem sub_take {α : Type} (l : List α) {f t k : Nat} (h : f + k ≤ t) : (sub l f t).take k = sub l f (f + k) := by
  unfold sub
  rw [List.take_drop, List.take_take, Nat.min_eq_left h]
theorem sub_drop {α : Type} (l : List α) (f t k : Nat) : (sub l f t).drop k = sub l (f + k) t := by
  unfold sub
  rw [List.drop_drop]

/-- Parts around a place, from above, ahead of the last one. -/
def spansF (f t i : Nat) : List (Nat × Nat) :=
  if _h : t - f ≤ 1 then [] else (f, t) :: (if i < f + halfN (t - f) then spansF f (f + halfN (t - f)) i else spansF (f + halfN (t - f)) t i)
  termination_by t - f
  decreasing_by
  all_goals
    have := halfN_pos (t - f)
    have := halfN_lt (n := t - f) (by omega)
    omega

theorem spansF_one {f t i : Nat} (h : t - f ≤ 1) : spansF f t i = [] := by rw [spansF, dif_pos h]
theorem spansF_two {f t i : Nat} (h : ¬ t - f ≤ 1) : spansF f t i = (f, t) :: (if i < f + halfN (t - f) then spansF f (f + halfN (t - f)) i else spansF (f + halfN (t - f)) t i) := by rw [spansF, dif_neg h]

theorem spansF_in : ∀ (n f t i : Nat), t - f ≤ n → ∀ p ∈ spansF f t i, f ≤ p.1 ∧ p.2 ≤ t ∧ 2 ≤ p.2 - p.1 := by
  intro n
  induction n with
  | zero => intro f t i h p hp; rw [spansF_one (by omega)] at hp; cases hp
  | succ n ih =>
    intro f t i h p hp
    by_cases h1 : t - f ≤ 1
    · rw [spansF_one h1] at hp; cases hp
    · have hk1 := halfN_pos (t - f)
      have hk2 := halfN_lt (n := t - f) (by omega)
      rw [spansF_two h1] at hp
      rcases List.mem_cons.1 hp with rfl | hp
      · exact ⟨Nat.le_refl _, Nat.le_refl _, by omega⟩
      · split at hp
        · have := ih f (f + halfN (t - f)) i (by omega) p hp; omega
        · have := ih (f + halfN (t - f)) t i (by omega) p hp; omega

/-- Where a part is parted; whether what stands beside stands left of a place; what stands beside. -/
def midOf (p : Nat × Nat) : Nat := p.1 + halfN (p.2 - p.1)
def sideOf (i : Nat) (p : Nat × Nat) : Bool := decide (midOf p ≤ i)
def besideOf (l : List By) (i : Nat) (p : Nat × Nat) : List By := if midOf p ≤ i then sub l p.1 (midOf p) else sub l (midOf p) p.2
def stepOf (l : List By) (i : Nat) (p : Nat × Nat) : Bool × By := (sideOf i p, (tRoot (besideOf l i p)).1)

theorem spans_turns : ∀ (n f t i : Nat), t - f ≤ n → f ≤ i → (spansF f t i).reverse.map (sideOf i) = turnsN (t - f) (i - f) := by
  intro n
  induction n with
  | zero => intro f t i h hi; rw [spansF_one (by omega), turnsN_one (by omega)]; rfl
  | succ n ih =>
    intro f t i h hi
    by_cases h1 : t - f ≤ 1
    · rw [spansF_one h1, turnsN_one h1]; rfl
    · have hk1 := halfN_pos (t - f)
      have hk2 := halfN_lt (n := t - f) (by omega)
      rw [spansF_two h1, turnsN_two (by omega), List.reverse_cons, List.map_append]
      by_cases hc : i < f + halfN (t - f)
      · rw [if_pos hc, if_pos (by omega), ih f _ i (by omega) hi]
        have e1 : f + halfN (t - f) - f = halfN (t - f) := by omega
        rw [e1]
        have e0 : sideOf i (f, t) = false := decide_eq_false (show ¬ midOf (f, t) ≤ i from Nat.not_le.2 hc)
        simp only [List.map_cons, List.map_nil, e0]
      · rw [if_neg hc, if_neg (by omega), ih _ t i (by omega) (by omega)]
        have e1 : t - (f + halfN (t - f)) = t - f - halfN (t - f) := by omega
        have e2 : i - (f + halfN (t - f)) = i - f - halfN (t - f) := by omega
        rw [e1, e2]
        have e0 : sideOf i (f, t) = true := decide_eq_true (show midOf (f, t) ≤ i from Nat.not_lt.1 hc)
        simp only [List.map_cons, List.map_nil, e0]

theorem spans_path (l : List By) : ∀ (n f t i : Nat), t - f ≤ n → f ≤ i → t ≤ l.length → (spansF f t i).reverse.map (stepOf l i) = pathOf (sub l f t) (i - f) := by
  intro n
  induction n with
  | zero => intro f t i h hi ht; rw [spansF_one (by omega), pathOf_one (by rw [sub_len ht]; omega)]; rfl
  | succ n ih =>
    intro f t i h hi ht
    by_cases h1 : t - f ≤ 1
    · rw [spansF_one h1, pathOf_one (by rw [sub_len ht]; exact h1)]; rfl
    · have hk1 := halfN_pos (t - f)
      have hk2 := halfN_lt (n := t - f) (by omega)
      have hl := sub_len (f := f) ht
      rw [spansF_two h1, pathOf_two (by omega), List.reverse_cons, List.map_append, hl, sub_take l (by omega), sub_drop]
      by_cases hc : i < f + halfN (t - f)
      · rw [if_pos hc, if_pos (by omega), ih f _ i (by omega) hi (by omega)]
        have e0 : sideOf i (f, t) = false := decide_eq_false (show ¬ midOf (f, t) ≤ i from Nat.not_le.2 hc)
        simp only [List.map_cons, List.map_nil, stepOf, e0, besideOf]
        rw [if_neg (show ¬ midOf (f, t) ≤ i from Nat.not_le.2 hc)]
        rfl
      · rw [if_neg hc, if_neg (by omega), ih _ t i (by omega) (by omega) ht]
        have e2 : i - (f + halfN (t - f)) = i - f - halfN (t - f) := by omega
        rw [e2]
        have e0 : sideOf i (f, t) = true := decide_eq_true (show midOf (f, t) ≤ i from Nat.not_lt.1 hc)
        simp only [List.map_cons, List.map_nil, stepOf, e0, besideOf]
        rw [if_pos (show midOf (f, t) ≤ i from Nat.not_lt.1 hc)]
        rfl

theorem tRoot_sub : ∀ (n : Nat) (l : List By) (f t i : Nat), t - f ≤ n → t ≤ l.length → (tRoot (sub l f t)).2 = 0 → ∀ p ∈ spansF f t i, (tRoot (besideOf l i p)).2 = 0 ∧ (tRoot (sub l p.1 (midOf p))).2 = 0 ∧ (tRoot (sub l (midOf p) p.2)).2 = 0 := by
  intro n
  induction n with
  | zero => intro l f t i h _ _ p hp; rw [spansF_one (by omega)] at hp; cases hp
  | succ n ih =>
    intro l f t i h ht hr p hp
    by_cases h1 : t - f ≤ 1
    · rw [spansF_one h1] at hp; cases hp
    · have hk1 := halfN_pos (t - f)
      have hk2 := halfN_lt (n := t - f) (by omega)
      have hl := sub_len (f := f) ht
      obtain ⟨r1, r2, _⟩ := tRoot_split hr (by omega)
      rw [hl, sub_take l (by omega)] at r1
      rw [hl, sub_drop] at r2
      rw [spansF_two h1] at hp
      rcases List.mem_cons.1 hp with rfl | hp
      · refine ⟨?_, r1, r2⟩
        unfold besideOf
        split
        · exact r1
        · exact r2
      · split at hp
        · exact ih l f _ i (by omega) (by omega) r1 p hp
        · exact ih l _ t i (by omega) ht r2 p hp

theorem spansF_len : ∀ (n f t i : Nat), t - f ≤ n → (spansF f t i).length ≤ t - f := by
  intro n
  induction n with
  | zero => intro f t i h; rw [spansF_one (by omega)]; simp
  | succ n ih =>
    intro f t i h
    by_cases h1 : t - f ≤ 1
    · rw [spansF_one h1]; simp
    · have hk1 := halfN_pos (t - f)
      have hk2 := halfN_lt (n := t - f) (by omega)
      rw [spansF_two h1, List.length_cons]
      split
      · have := ih f (f + halfN (t - f)) i (by omega); omega
      · have := ih (f + halfN (t - f)) t i (by omega); omega

/-- The path of a place, or what is wrong. -/
def rootOf2 (l : List By) : By × Int := rootOf l
def pathR (l : List By) (i : Int) : List (Bool × By) × Int := if (rootOf l).2 ≠ 0 then ([], (rootOf l).2) else if i < 0 ∨ l.length ≤ i then ([], 5) else (pathOf l i.toNat, 0)
end Go.Gs

namespace Go.Ab
open Go.Proofs Go.Gs
variable {G0 : Nat → Option Obj}

theorem getX {α : Type} {X : α → List AV} {l : List α} {i : Nat} (h : i < l.length) : (l.map X)[i]? = some (X l[i]) := by rw [List.getElem?_map, List.getElem?_eq_getElem h]; rfl

theorem wrapI {n : Int} (h0 : 0 ≤ n) (h1 : n ≤ 9223372036854775807) : IntKind.i64.wrap n = n := wrap64 (by omega) h1

/-- Lists held together, place by place. -/
theorem eq_gen {α : Type} [DecidableEq α] {D : Nat → Prop} {Q : Bool → Prop} (a b : List α) (hl : a.length = b.length)
    (hstep : ∀ i, (h : i < a.length) → (a[i] ≠ b[i] → Q false) → (a[i] = b[i] → D (i + 1)) → D i) (hend : Q true → D a.length) (hQ : Q (decide (a = b))) : D 0 := by
  have key : ∀ (m i : Nat), a.length - i ≤ m → i ≤ a.length → (∀ j, j < i → a[j]? = b[j]?) → D i := by
    intro m
    induction m with
    | zero =>
      intro i h1 h2 h3
      obtain rfl : i = a.length := by omega
      have : a = b := List.ext_getElem? fun j => by
        rcases Nat.lt_or_ge j a.length with hj | hj
        · exact h3 j hj
        · rw [List.getElem?_eq_none (by omega), List.getElem?_eq_none (by omega)]
      rw [decide_eq_true this] at hQ
      exact hend hQ
    | succ m ih =>
      intro i h1 h2 h3
      by_cases hi : i = a.length
      · exact ih i (by omega) h2 h3
      · refine hstep i (by omega) (fun h => ?_) fun h => ih (i + 1) (by omega) (by omega) fun j hj => ?_
        · have : a ≠ b := by
            intro e
            apply h
            have h5 := congrArg (fun l => l[i]?) e
            rw [List.getElem?_eq_getElem (by omega), List.getElem?_eq_getElem (by omega)] at h5
            exact Option.some.inj h5
          rw [decide_eq_false this] at hQ
          exact hQ
        · rcases Nat.lt_or_ge j i with hj2 | hj2
          · exact h3 j hj2
          · obtain rfl : j = i := by omega
            rw [List.getElem?_eq_getElem (by omega), List.getElem?_eq_getElem (by omega), h]
  exact key a.length 0 (by omega) (by omega) fun j hj => by omega

theorem eqAll_S2 (p q : Bool × By) : eqAll [.bool p.1, .str p.2] [.bool q.1, .str q.2] = decide (p = q) := by
  obtain ⟨a, b⟩ := p
  obtain ⟨c, d⟩ := q
  by_cases h1 : a = c <;> by_cases h2 : b = d <;> simp [eqAll, eqC, h1, h2]

theorem good_EqualStep (a b : List (Bool × By)) (na nb : Bool) (hb : (a.length : Int) ≤ 9223372036854775806) : Good PG nG G0 f_slices_Equal_Step [.sl 2 na none (a.map S2), .sl 2 nb none (b.map S2)] [] (.bool (decide (a = b))) [] := by
  refine good_of_run prOk (by kernel_rfl) (slices_Equal_Step_run na _ nb _ G0 _ ?_)
  simp only [ifK_iff, bne_iff_ne, ne_eq, List.length_map, bne_eq_false_iff_eq]
  refine ⟨fun h => ⟨?_, trivial⟩, fun h => ?_⟩
  · have : a ≠ b := by rintro rfl; exact h rfl
    simp [this]
  · refine eq_gen (D := fun i : Nat => Does PG nG G0 (fnOf PG f_slices_Equal_Step) 0 (lp PG f_slices_Equal_Step 0) (mkT 26 [(0, .sl 2 na none (a.map S2)), (1, .sl 2 nb none (b.map S2)), (12, .int .i64 a.length), (13, .int .i64 i)]) [] fun r' H'' => r' = .bool (decide (a = b)) ∧ H'' = [])
      (Q := fun c => c = decide (a = b)) a b (by omega) (fun i hi h1 h2 => ?_) (fun h1 => ?_) rfl
    · refine does_of_run prOk (slices_Equal_Step_l0_run G0 na _ nb _ _ _ _ ?_)
      simp only [ifK_iff, decide_eq_true_eq, decide_eq_false_iff_not, Int.toNat_natCast]
      rw [wrapI (by omega) (by omega)]
      refine ⟨fun _ => ⟨by omega, _, _, getX hi, by omega, _, _, getX (by omega), fun h4 => ?_, fun h4 => ?_⟩, fun h => by omega⟩
      · rw [eqAll_S2] at h4
        exact ⟨by rw [← h1 (by simpa using h4)], trivial⟩
      · rw [eqAll_S2] at h4
        exact h2 (by simpa using h4)
    · refine does_of_run prOk (slices_Equal_Step_l0_run G0 na _ nb _ _ _ _ ?_)
      simp only [ifK_iff, decide_eq_true_eq, decide_eq_false_iff_not]
      exact ⟨fun h => by omega, fun _ => ⟨by rw [← h1], trivial⟩⟩

theorem good_turns : ∀ (m n i : Nat), n ≤ m → 1 ≤ n → n ≤ 24 → i < n →
    Good PG nG G0 f_path_turns [.int .i64 n, .int .i64 i] [] (.sl 1 (turnsN n i).isEmpty (some 0) ((turnsN n i).map BX)) [some (.grow 1 (turnsN n i).length)] := by
  intro m
  induction m with
  | zero => intro n i h1 h2; omega
  | succ m ih =>
    intro n i hm h1 h2 hi
    refine good_of_run prOk (by kernel_rfl) (path_turns_run n i G0 _ ?_)
    simp only [ifK_iff, beq_iff_eq, beq_eq_false_iff_ne, decide_eq_true_eq, decide_eq_false_iff_not]
    refine ⟨fun h => ?_, fun h => ?_⟩
    · rw [turnsN_one (by omega)]; exact ⟨rfl, rfl⟩
    · have hk1 := halfN_pos n
      have hk2 := halfN_lt (n := n) (by omega)
      have hlen : ∀ a b : Nat, a ≤ 24 → (turnsN a b).length ≤ a := by
        intro a b _
        have := spansF_len a 0 a b (by omega)
        have h2 := congrArg List.length (spans_turns a 0 a b (by omega) (Nat.zero_le _))
        simp only [List.length_map, List.length_reverse, Nat.sub_zero] at h2
        omega
      refine ⟨_, _, good_Half' n (by omega) h2, fun hc => ?_, fun hc => ?_⟩
      · have := ih (halfN n) i (by omega) (by omega) (by omega) (by omega)
        rw [← List.length_map (f := BX)] at this
        refine ⟨_, _, this, ?_, trivial, ?_⟩
        · have := hlen (halfN n) i (by omega)
          simp only [List.length_map]; omega
        · rw [turnsN_two (n := n) (i := i) (by omega), if_pos (by omega)]
          simp [BX]
      · rw [wrapI (by omega) (by omega), wrapI (by omega) (by omega)]
        have e1 : (n : Int) - (halfN n : Nat) = ((n - halfN n : Nat) : Int) := by omega
        have e2 : (i : Int) - (halfN n : Nat) = ((i - halfN n : Nat) : Int) := by omega
        rw [e1, e2]
        have := ih (n - halfN n) (i - halfN n) (by omega) (by omega) (by omega) (by omega)
        rw [← List.length_map (f := BX)] at this
        refine ⟨_, _, this, ?_, trivial, ?_⟩
        · have := hlen (n - halfN n) (i - halfN n) (by omega)
          simp only [List.length_map]; omega
        · rw [turnsN_two (n := n) (i := i) (by omega), if_neg (by omega)]
          simp [BX]

theorem pathOf_len (l : List By) (i : Nat) : (pathOf l i).length ≤ l.length := by
  have h1 := congrArg List.length (pathOf_sides _ l i (Nat.le_refl _))
  have h2 := congrArg List.length (spans_turns l.length 0 l.length i (by omega) (Nat.zero_le _))
  have h3 := spansF_len l.length 0 l.length i (by omega)
  simp only [List.length_map, List.length_reverse, Nat.sub_zero] at h1 h2 h3
  omega

theorem good_pathof (hG : GlobOk G0) : ∀ (m : Nat) (l : List By) (nl : Bool) (i : Nat), l.length ≤ m → l.length ≤ 24 → (tRoot l).2 = 0 → i < l.length →
    Good PG nG G0 f_path_of [.sl 1 nl none (l.map S1), .int .i64 i] [] (.tup [.sl 2 (pathOf l i).isEmpty (some 0) ((pathOf l i).map S2), .int .i64 0]) [some (.grow 2 (pathOf l i).length)] := by
  intro m
  induction m with
  | zero => intro l nl i h1 h2 h3 h4; omega
  | succ m ih =>
    intro l nl i hm h24 hr hi
    refine good_of_run prOk (by kernel_rfl) (path_of_run nl _ i G0 _ ?_)
    simp only [ifK_iff, beq_iff_eq, beq_eq_false_iff_ne, decide_eq_true_eq, decide_eq_false_iff_not, List.length_map, bne_iff_ne, ne_eq, bne_eq_false_iff_eq]
    refine ⟨fun h => ?_, fun h => ?_⟩
    · rw [pathOf_one (by omega)]; exact ⟨rfl, rfl⟩
    · have h2 : 2 ≤ l.length := by omega
      have hk1 := halfN_pos l.length
      have hk2 := halfN_lt h2
      obtain ⟨r1, r2, _⟩ := tRoot_split hr h2
      have lt1 : (l.take (halfN l.length)).length = halfN l.length := by simp only [List.length_take]; omega
      have ld1 : (l.drop (halfN l.length)).length = l.length - halfN l.length := by simp only [List.length_drop]
      have e1 : List.drop 0 (List.take (Int.toNat (halfN l.length : Int)) (l.map S1)) = (l.take (halfN l.length)).map S1 := by simp
      have e2 : List.drop (Int.toNat (halfN l.length : Int)) (List.take (Int.toNat (l.length : Int)) (l.map S1)) = (l.drop (halfN l.length)).map S1 := by
        simp [List.take_of_length_le]
      have q1 : rootOf (l.take (halfN l.length)) = tRoot (l.take (halfN l.length)) := by rw [rootOf, if_neg (by omega)]
      have q2 : rootOf (l.drop (halfN l.length)) = tRoot (l.drop (halfN l.length)) := by rw [rootOf, if_neg (by omega)]
      have g1 := good_Root' (G0 := G0) hG (l.take (halfN l.length)) nl
      have g2 := good_Root' (G0 := G0) hG (l.drop (halfN l.length)) nl
      rw [q1, r1] at g1
      rw [q2, r2] at g2
      have hpl := fun l' i' => pathOf_len l' i'
      refine ⟨_, _, good_Half' l.length h2 h24, by omega, by omega, by omega, by omega, by omega, by omega, fun hc => ?_, fun hc => ?_⟩
      · rw [wrapI (by omega) (by omega), e1, e2]
        have e3 : (i : Int) - (halfN l.length : Nat) = ((i - halfN l.length : Nat) : Int) := by omega
        rw [e3]
        have := ih (l.drop (halfN l.length)) nl (i - halfN l.length) (by omega) (by omega) r2 (by omega)
        rw [← List.length_map (f := S2)] at this
        refine ⟨_, _, _, this, fun h => absurd rfl h, fun _ => ⟨_, _, g1, fun h => absurd rfl h, fun _ => ⟨?_, trivial, ?_⟩⟩⟩
        · have := hpl (l.drop (halfN l.length)) (i - halfN l.length)
          simp only [List.length_map, List.length_cons, List.length_nil]; omega
        · rw [pathOf_two (l := l) (i := i) h2, if_neg (by omega)]
          simp [S2]
      · rw [e1, e2]
        have := ih (l.take (halfN l.length)) nl i (by omega) (by omega) r1 (by omega)
        rw [← List.length_map (f := S2)] at this
        refine ⟨_, _, _, this, fun h => absurd rfl h, fun _ => ⟨_, _, g2, fun h => absurd rfl h, fun _ => ⟨?_, trivial, ?_⟩⟩⟩
        · have := hpl (l.take (halfN l.length)) i
          simp only [List.length_map, List.length_cons, List.length_nil]; omega
        · rw [pathOf_two (l := l) (i := i) h2, if_pos (by omega)]
          simp [S2]

theorem rootOf_ok' {l : List By} (h : (rootOf l).2 = 0) : l.length ≤ 24 ∧ rootOf l = tRoot l := by
  unfold rootOf at h ⊢
  split
  · rename_i hc; rw [if_pos hc] at h; cases h
  · exact ⟨by omega, rfl⟩

theorem good_pathOf (hG : GlobOk G0) (l : List By) (nl : Bool) (i : Int) :
    Good PG nG G0 f_path_Of [.sl 1 nl none (l.map S1), .int .i64 i] [] (.tup [.sl 2 (pathR l i).1.isEmpty none ((pathR l i).1.map S2), .int .i64 (pathR l i).2]) [] := by
  refine good_of_run prOk (by kernel_rfl) (path_Of_run nl _ i G0 _ ⟨_, _, good_Root' hG l nl, ?_⟩)
  simp only [ifK_iff, decide_eq_true_eq, decide_eq_false_iff_not, List.length_map, bne_iff_ne, ne_eq, bne_eq_false_iff_eq]
  refine ⟨fun h => ?_, fun h => ⟨fun h2 => ?_, fun h2 => ⟨fun h3 => ?_, fun h3 => ?_⟩⟩⟩
  · rw [pathR, if_pos h]; exact ⟨rfl, trivial⟩
  · rw [pathR, if_neg (by simpa using h), if_pos (.inl h2)]; exact ⟨rfl, trivial⟩
  · rw [pathR, if_neg (by simpa using h), if_pos (.inr h3)]; exact ⟨rfl, trivial⟩
  · rw [pathR, if_neg (by simpa using h), if_neg (by omega)]
    obtain ⟨k, rfl⟩ := Int.eq_ofNat_of_zero_le (show 0 ≤ i by omega)
    rw [Int.toNat_natCast]
    obtain ⟨a, b⟩ := rootOf_ok' h
    rw [b] at h
    have := good_pathof hG _ l nl k (Nat.le_refl _) a h (by omega)
    rw [← List.length_map (f := S2)] at this
    exact ⟨_, _, _, this, rfl, trivial⟩

theorem pathS_loop (hG : GlobOk G0) (root : By) (bs : List Bool) (nb : Bool) (st : List (Bool × By)) (ns : Bool) (hl : bs.length = st.length) (hb : st.length ≤ 1000) {R : AV → List (Option Blk) → Prop} :
    ∀ (d k : Nat) (now : By), st.length - k ≤ d → k ≤ st.length → R (.int .i64 (fin7 root (climb now (bs.drop k) (st.drop k)))) [] →
      Does PG nG G0 (fnOf PG f_path_Shows) 0 (lp PG f_path_Shows 0) (mkT 82 [(0, .str root), (11, .sl 1 nb none (bs.map BX)), (12, .str now), (45, .sl 2 ns none (st.map S2)), (46, .int .i64 st.length), (47, .int .i64 k)]) [] R := by
  intro d
  have last : ∀ (k : Nat) (now : By), k = st.length → R (.int .i64 (fin7 root (climb now (bs.drop k) (st.drop k)))) [] →
      Does PG nG G0 (fnOf PG f_path_Shows) 0 (lp PG f_path_Shows 0) (mkT 82 [(0, .str root), (11, .sl 1 nb none (bs.map BX)), (12, .str now), (45, .sl 2 ns none (st.map S2)), (46, .int .i64 st.length), (47, .int .i64 k)]) [] R := by
    intro k now hk hR
    refine does_of_run prOk (path_Shows_l0_run G0 _ _ _ _ _ _ _ _ R ?_)
    simp only [ifK_iff, decide_eq_true_eq, decide_eq_false_iff_not]
    have hcl : climb now (bs.drop k) (st.drop k) = (now, 0) := by
      rw [List.drop_eq_nil_of_le (show bs.length ≤ k by omega)]; rfl
    rw [hcl, fin7_end] at hR
    refine ⟨fun h => absurd h (by omega), fun _ => ⟨fun h => ?_, fun h => ?_⟩⟩
    · have h : now ≠ root := by simpa using h
      simpa [h] using hR
    · have h : now = root := by simpa using h
      simpa [h] using hR
  induction d with
  | zero => intro k now h1 h2 hR; exact last k now (by omega) hR
  | succ d ih =>
    intro k now h1 h2 hR
    by_cases hk : k = st.length
    · exact last k now hk hR
    · have hks : k < st.length := by omega
      have hkb : k < bs.length := by omega
      refine does_of_run prOk (path_Shows_l0_run G0 _ _ _ _ _ _ _ _ R ?_)
      rw [Int.toNat_natCast]
      simp only [ifK_iff, decide_eq_true_eq, decide_eq_false_iff_not, bne_iff_ne, ne_eq, bne_eq_false_iff_eq]
      rw [wrapI (by omega) (by omega)]
      rw [List.drop_eq_getElem_cons hks, List.drop_eq_getElem_cons hkb, climb] at hR
      have ih := fun now => ih (k + 1) now (by omega) (by omega)
      refine ⟨fun _ => ⟨by omega, _, _, getX hks, by omega, _, getX hkb, fun h => ?_, fun h => ⟨fun hb => ⟨_, _, good_Node hG _ _, fun h3 => ?_, fun h3 => ih _ ?_⟩, fun hb => ⟨_, _, good_Node hG _ _, fun h3 => ?_, fun h3 => ih _ ?_⟩⟩⟩, fun h => absurd (show (k : Int) < st.length by omega) h⟩
      · have h : st[k].1 ≠ bs[k] := by simpa using h
        rw [if_pos h, fin7_err (by decide)] at hR
        exact hR
      · have h : st[k].1 = bs[k] := by simpa using h
        rw [if_neg (show ¬ st[k].1 ≠ bs[k] by simpa using h)] at hR
        simp only [up1, hb, if_true] at hR
        rw [if_pos h3, fin7_err h3] at hR
        exact hR
      · have h : st[k].1 = bs[k] := by simpa using h
        rw [if_neg (show ¬ st[k].1 ≠ bs[k] by simpa using h)] at hR
        simp only [up1, hb, if_true] at hR
        rw [if_neg (show ¬ (tNode st[k].2 now).2 ≠ 0 by simpa using h3)] at hR
        exact hR
      · have h : st[k].1 = bs[k] := by simpa using h
        rw [if_neg (show ¬ st[k].1 ≠ bs[k] by simpa using h)] at hR
        simp only [up1, hb, Bool.false_eq_true, if_false] at hR
        rw [if_pos h3, fin7_err h3] at hR
        exact hR
      · have h : st[k].1 = bs[k] := by simpa using h
        rw [if_neg (show ¬ st[k].1 ≠ bs[k] by simpa using h)] at hR
        simp only [up1, hb, Bool.false_eq_true, if_false] at hR
        rw [if_neg (show ¬ (tNode now st[k].2).2 ≠ 0 by simpa using h3)] at hR
        exact hR

theorem turnsN_len {n i : Nat} : (turnsN n i).length ≤ n := by
  have := spansF_len n 0 n i (by omega)
  have h2 := congrArg List.length (spans_turns n 0 n i (by omega) (Nat.zero_le _))
  simp only [List.length_map, List.length_reverse, Nat.sub_zero] at h2
  omega

theorem good_pathShows (hG : GlobOk G0) (root : By) (n i : Int) (text : By) (ns : Bool) (st : List (Bool × By)) :
    Good PG nG G0 f_path_Shows [.str root, .int .i64 n, .int .i64 i, .str text, .sl 2 ns none (st.map S2)] [] (.int .i64 (pathShows root n i text st)) [] := by
  refine good_of_run prOk (by kernel_rfl) (path_Shows_run root n i text ns _ G0 _ ?_)
  simp only [ifK_iff, decide_eq_true_eq, decide_eq_false_iff_not, List.length_map, bne_iff_ne, ne_eq, bne_eq_false_iff_eq]
  refine ⟨fun h => ?_, fun h1 => ⟨fun h => ?_, fun h2 => ⟨fun h => ?_, fun h3 => ⟨fun h => ?_, fun h4 => ?_⟩⟩⟩⟩
  · rw [pathShows, if_pos (.inl h)]; exact ⟨rfl, trivial⟩
  · rw [pathShows, if_pos (.inr h)]; exact ⟨rfl, trivial⟩
  · rw [pathShows, if_neg (by omega), if_pos (.inl h)]; exact ⟨rfl, trivial⟩
  · rw [pathShows, if_neg (by omega), if_pos (.inr h)]; exact ⟨rfl, trivial⟩
  · obtain ⟨a, rfl⟩ := Int.eq_ofNat_of_zero_le (show 0 ≤ n by omega)
    obtain ⟨b, rfl⟩ := Int.eq_ofNat_of_zero_le (show 0 ≤ i by omega)
    have g := (good_turns (G0 := G0) a a b (Nat.le_refl _) (by omega) (by omega) (by omega))
    rw [← List.length_map (f := BX)] at g
    refine ⟨_, _, g.forget, ?_⟩
    rw [pathShows, if_neg (by omega), if_neg (by omega), Int.toNat_natCast, Int.toNat_natCast, List.length_map]
    have hlen := turnsN_len (n := a) (i := b)
    refine ⟨fun h => ?_, fun h5 => ⟨_, _, good_Leaf text, fun h => ?_, fun h6 => ?_⟩⟩
    · rw [if_pos (by omega)]; exact ⟨rfl, trivial⟩
    · rw [if_neg (by omega), if_pos h]; exact ⟨rfl, trivial⟩
    · rw [if_neg (show ¬ (turnsN a b).length ≠ st.length by omega), if_neg (show ¬ (tLeaf text).2 ≠ 0 by simpa using h6)]
      exact pathS_loop hG root (turnsN a b) _ st ns (by omega) (by omega) st.length 0 _ (by omega) (by omega) ⟨rfl, rfl⟩
end Go.Ab

namespace Go.Ab
open Go.Proofs
set_option maxRecDepth 100000

def an_book_Check : FAnn := ⟨[], [(0, [10, 11, 12], [])], none, []⟩
def an_book_Text : FAnn := ⟨[], [], none, []⟩
def an_book_Texts : FAnn := ⟨[], [(0, [3, 7, 8, 9], [3])], none, []⟩
def an_book_Values : FAnn := ⟨[], [(0, [5, 15, 16, 17], [])], none, []⟩
def an_book_Put : FAnn := ⟨[(4, 2, ⟨[], [0], []⟩)], [], none, []⟩
def an_book_Head : FAnn := ⟨[], [], none, []⟩
def an_slices_Clone_Entry : FAnn := ⟨[], [], some [2], []⟩
def an_slices_Equal_Entry : FAnn := ⟨[], [(0, [0, 1, 12, 13], [])], none, []⟩
def an_greatsealref_CheckBook : FAnn := ⟨[], [(0, [10, 11, 12], [])], none, []⟩
def an_greatsealref_TextOf : FAnn := ⟨[], [], none, []⟩
def an_greatsealref_TextsOf : FAnn := ⟨[], [(0, [3, 11, 12, 13], [])], none, []⟩
def an_greatsealref_ValuesOf : FAnn := ⟨[], [(0, [1, 3, 4], [])], none, []⟩
def an_greatsealref_HeadOf : FAnn := ⟨[], [], none, []⟩
def an_greatseallaw_entries : FAnn := ⟨[], [], none, []⟩
def an_greatseallaw_booked : FAnn := ⟨[], [], none, []⟩

theorem book_Check_run (nlb0_0 : Bool) (b0_0 : List (List AV)) (G0 : Nat → Option Go.Obj) (R : AV → List (Option Blk) → Prop) (h :
  ifK (decide ((↑(List.length b0_0) : Int) > (24 : Int))) (R (AV.int Go.IntKind.i64 (2 : Int)) [])
  (Does PG nG G0 (fnOf PG f_book_Check) (0 : Nat) (lp PG f_book_Check (0 : Nat))
    (mkT (29 : Nat) [((10 : Nat), AV.sl (2 : Nat) nlb0_0 none b0_0), ((11 : Nat), AV.int Go.IntKind.i64 (↑(List.length b0_0) : Int)), ((12 : Nat), AV.int Go.IntKind.i64 (0 : Int))]) [] R)) :
  Hold (runF PG ty nG G0 an_book_Check f_book_Check [AV.agg [AV.sl (2 : Nat) nlb0_0 none b0_0]] [] R) := kshow h (by kernel_rfl)

theorem book_Check_l0_run (G0 : Nat → Option Obj) (b0 : Bool) (xs1 : List (List AV)) (n2 : Int) (n3 : Int) (R : AV → List (Option Blk) → Prop) (h :
  ifK (decide (n3 < n2))
  ((0 : Int) ≤ n3 ∧
    ∃ n4 s5,
      xs1[Int.toNat n3]? = some [AV.int Go.IntKind.i64 n4, AV.str s5] ∧
        ifK (decide (n4 < (0 : Int))) (R (AV.int Go.IntKind.i64 (5 : Int)) [])
          (ifK (decide (n4 ≥ (16 : Int))) (R (AV.int Go.IntKind.i64 (5 : Int)) [])
            (ifK (decide ((↑(List.length s5) : Int) > (12 : Int))) (R (AV.int Go.IntKind.i64 (2 : Int)) [])
              (Does PG nG G0 (fnOf PG f_book_Check) (0 : Nat) (lp PG f_book_Check (0 : Nat))
                (mkT (29 : Nat) [((10 : Nat), AV.sl (2 : Nat) b0 none xs1), ((11 : Nat), AV.int Go.IntKind.i64 n2), ((12 : Nat), AV.int Go.IntKind.i64 (Go.IntKind.wrap Go.IntKind.i64 (n3 + (1 : Int))))]) [] R))))
  (R (AV.int Go.IntKind.i64 (0 : Int)) [])) :
  Hold (runL PG ty nG G0 an_book_Check f_book_Check (0 : Nat) (0 : Nat) (mkT (29 : Nat) [((10 : Nat), AV.sl (2 : Nat) b0 none xs1), ((11 : Nat), AV.int Go.IntKind.i64 n2), ((12 : Nat), AV.int Go.IntKind.i64 n3)]) [] R) := kshow h (by kernel_rfl)

theorem book_Text_run (e0_0 : Int) (e0_1 : List UInt8) (G0 : Nat → Option Go.Obj) (R : AV → List (Option Blk) → Prop) (h :
  ∃ s0,
  Good PG nG G0 f_strconv_Itoa [AV.int Go.IntKind.i64 e0_0] [] (AV.str s0) [] ∧
    List.length s0 + (1 : Nat) ≤ (9223372036854775807 : Nat) ∧ List.length (s0 ++ [(32 : UInt8)]) + List.length e0_1 ≤ (9223372036854775807 : Nat) ∧ R (AV.str (s0 ++ [(32 : UInt8)] ++ e0_1)) []) :
  Hold (runF PG ty nG G0 an_book_Text f_book_Text [AV.agg [AV.int Go.IntKind.i64 e0_0, AV.str e0_1]] [] R) := kshow h (by kernel_rfl)

theorem book_Texts_run (nlb0_0 : Bool) (b0_0 : List (List AV)) (G0 : Nat → Option Go.Obj) (R : AV → List (Option Blk) → Prop) (h :
  Does PG nG G0 (fnOf PG f_book_Texts) (0 : Nat) (lp PG f_book_Texts (0 : Nat))
  (mkT (20 : Nat) [((3 : Nat), AV.sl (1 : Nat) true (some (0 : Nat)) []), ((7 : Nat), AV.sl (2 : Nat) nlb0_0 none b0_0), ((8 : Nat), AV.int Go.IntKind.i64 (↑(List.length b0_0) : Int)), ((9 : Nat), AV.int Go.IntKind.i64 (0 : Int))])
  [some (Blk.grow (1 : Nat) (0 : Nat))] R) :
  Hold (runF PG ty nG G0 an_book_Texts f_book_Texts [AV.agg [AV.sl (2 : Nat) nlb0_0 none b0_0]] [] R) := kshow h (by kernel_rfl)

theorem book_Texts_l0_run (G0 : Nat → Option Obj) (b0 : Bool) (xs1 : List (List AV)) (b2 : Bool) (xs3 : List (List AV)) (n4 : Int) (n5 : Int) (m6 : Nat) (R : AV → List (Option Blk) → Prop) (h :
  ifK (decide (n5 < n4))
  ((0 : Int) ≤ n5 ∧
    ∃ n7 s8,
      xs3[Int.toNat n5]? = some [AV.int Go.IntKind.i64 n7, AV.str s8] ∧
        ∃ s9,
          Good PG nG G0 f_book_Text [AV.agg [AV.int Go.IntKind.i64 n7, AV.str s8]] [] (AV.str s9) [] ∧
            (List.length xs1 + List.length [[AV.str s9]]) * (16 : Nat) ≤ (140737488355328 : Nat) ∧
              List.length xs1 = m6 ∧
                Does PG nG G0 (fnOf PG f_book_Texts) (0 : Nat) (lp PG f_book_Texts (0 : Nat))
                  (mkT (20 : Nat)
                    [((3 : Nat), AV.sl (1 : Nat) (b0 && List.isEmpty [[AV.str s9]]) (some (0 : Nat)) (xs1 ++ [[AV.str s9]])), ((7 : Nat), AV.sl (2 : Nat) b2 none xs3), ((8 : Nat), AV.int Go.IntKind.i64 n4),
                      ((9 : Nat), AV.int Go.IntKind.i64 (Go.IntKind.wrap Go.IntKind.i64 (n5 + (1 : Int))))])
                  [some (Blk.grow (1 : Nat) (m6 + List.length [[AV.str s9]]))] R)
  (R (AV.sl (1 : Nat) b0 none xs1) [])) :
  Hold (runL PG ty nG G0 an_book_Texts f_book_Texts (0 : Nat) (0 : Nat)
  (mkT (20 : Nat) [((3 : Nat), AV.sl (1 : Nat) b0 (some (0 : Nat)) xs1), ((7 : Nat), AV.sl (2 : Nat) b2 none xs3), ((8 : Nat), AV.int Go.IntKind.i64 n4), ((9 : Nat), AV.int Go.IntKind.i64 n5)]) [some (Blk.grow (1 : Nat) m6)] R) := kshow h (by kernel_rfl)

theorem book_Values_run (nlb0_0 : Bool) (b0_0 : List (List AV)) (G0 : Nat → Option Go.Obj) (R : AV → List (Option Blk) → Prop) (h :
  ∃ n0,
  Good PG nG G0 f_book_Check [AV.agg [AV.sl (2 : Nat) nlb0_0 none b0_0]] [] (AV.int Go.IntKind.i64 n0) [] ∧
    ifK (n0 != (0 : Int)) (R (AV.tup [AV.mp true [], AV.int Go.IntKind.i64 n0]) [])
      (Does PG nG G0 (fnOf PG f_book_Values) (0 : Nat) (lp PG f_book_Values (0 : Nat))
        (mkT (28 : Nat) [((5 : Nat), AV.rmp (0 : Nat)), ((15 : Nat), AV.sl (2 : Nat) nlb0_0 none b0_0), ((16 : Nat), AV.int Go.IntKind.i64 (↑(List.length b0_0) : Int)), ((17 : Nat), AV.int Go.IntKind.i64 (0 : Int))]) [some (Blk.mp [])] R)) :
  Hold (runF PG ty nG G0 an_book_Values f_book_Values [AV.agg [AV.sl (2 : Nat) nlb0_0 none b0_0]] [] R) := kshow h (by kernel_rfl)

theorem book_Values_l0_run (G0 : Nat → Option Obj) (b1 : Bool) (xs2 : List (List AV)) (n3 : Int) (n4 : Int) (es5 : List (AV × AV)) (R : AV → List (Option Blk) → Prop) (h :
  ifK (decide (n4 < n3))
  ((0 : Int) ≤ n4 ∧
    ∃ n6 s7,
      xs2[Int.toNat n4]? = some [AV.int Go.IntKind.i64 n6, AV.str s7] ∧
        ∃ xs8,
          mupd Go.IntKind.i64 n6 (AV.str s7) es5 = some xs8 ∧
            Does PG nG G0 (fnOf PG f_book_Values) (0 : Nat) (lp PG f_book_Values (0 : Nat))
              (mkT (28 : Nat) [((5 : Nat), AV.rmp (0 : Nat)), ((15 : Nat), AV.sl (2 : Nat) b1 none xs2), ((16 : Nat), AV.int Go.IntKind.i64 n3), ((17 : Nat), AV.int Go.IntKind.i64 (Go.IntKind.wrap Go.IntKind.i64 (n4 + (1 : Int))))])
              [some (Blk.mp xs8)] R)
  (R (AV.tup [AV.mp false es5, AV.int Go.IntKind.i64 (0 : Int)]) [])) :
  Hold (runL PG ty nG G0 an_book_Values f_book_Values (0 : Nat) (0 : Nat)
  (mkT (28 : Nat) [((5 : Nat), AV.rmp (0 : Nat)), ((15 : Nat), AV.sl (2 : Nat) b1 none xs2), ((16 : Nat), AV.int Go.IntKind.i64 n3), ((17 : Nat), AV.int Go.IntKind.i64 n4)]) [some (Blk.mp es5)] R) := kshow h (by kernel_rfl)

theorem book_Put_run (nlb0_0 : Bool) (b0_0 : List (List AV)) (e1_0 : Int) (e1_1 : List UInt8) (G0 : Nat → Option Go.Obj) (R : AV → List (Option Blk) → Prop) (h :
  ∃ n0,
  Good PG nG G0 f_book_Check [AV.agg [AV.sl (2 : Nat) nlb0_0 none b0_0]] [] (AV.int Go.IntKind.i64 n0) [] ∧
    ifK (n0 != (0 : Int)) (R (AV.tup [AV.agg [AV.sl (2 : Nat) true none []], AV.int Go.IntKind.i64 n0]) [])
      (∃ b1 xs2,
        Good PG nG G0 f_slices_Clone_Entry [AV.sl (2 : Nat) nlb0_0 none b0_0] [] (AV.sl (2 : Nat) b1 (some (0 : Nat)) xs2) [some (Blk.grow (2 : Nat) (List.length xs2))] ∧
          (List.length xs2 + List.length [[AV.int Go.IntKind.i64 e1_0, AV.str e1_1]]) * (24 : Nat) ≤ (140737488355328 : Nat) ∧
            List.length xs2 = List.length xs2 ∧
              ∃ n3,
                Good PG nG G0 f_book_Check [AV.agg [AV.sl (2 : Nat) (b1 && List.isEmpty [[AV.int Go.IntKind.i64 e1_0, AV.str e1_1]]) none (xs2 ++ [[AV.int Go.IntKind.i64 e1_0, AV.str e1_1]])]] [] (AV.int Go.IntKind.i64 n3) [] ∧
                  ifK (n3 != (0 : Int)) (R (AV.tup [AV.agg [AV.sl (2 : Nat) true none []], AV.int Go.IntKind.i64 n3]) [])
                    (R (AV.tup [AV.agg [AV.sl (2 : Nat) (b1 && List.isEmpty [[AV.int Go.IntKind.i64 e1_0, AV.str e1_1]]) none (xs2 ++ [[AV.int Go.IntKind.i64 e1_0, AV.str e1_1]])], AV.int Go.IntKind.i64 (0 : Int)]) []))) :
  Hold (runF PG ty nG G0 an_book_Put f_book_Put [AV.agg [AV.sl (2 : Nat) nlb0_0 none b0_0], AV.agg [AV.int Go.IntKind.i64 e1_0, AV.str e1_1]] [] R) := kshow h (by kernel_rfl)

theorem book_Head_run (nlb0_0 : Bool) (b0_0 : List (List AV)) (G0 : Nat → Option Go.Obj) (R : AV → List (Option Blk) → Prop) (h :
  ∃ b0 xs1 n2,
  Good PG nG G0 f_book_Values [AV.agg [AV.sl (2 : Nat) nlb0_0 none b0_0]] [] (AV.tup [AV.mp b0 xs1, AV.int Go.IntKind.i64 n2]) [] ∧
    ifK (n2 != (0 : Int)) (R (AV.tup [AV.agg [AV.int Go.IntKind.i64 (0 : Int), AV.str [], AV.str []], AV.int Go.IntKind.i64 n2]) [])
      (∃ b3 xs4,
        Good PG nG G0 f_book_Texts [AV.agg [AV.sl (2 : Nat) nlb0_0 none b0_0]] [] (AV.sl (1 : Nat) b3 none xs4) [] ∧
          ∃ s5 n6,
            Good PG nG G0 f_tree_Root [AV.sl (1 : Nat) b3 none xs4] [] (AV.tup [AV.str s5, AV.int Go.IntKind.i64 n6]) [] ∧
              ifK (n6 != (0 : Int)) (R (AV.tup [AV.agg [AV.int Go.IntKind.i64 (0 : Int), AV.str [], AV.str []], AV.int Go.IntKind.i64 n6]) [])
                (∃ s7 n8,
                  Good PG nG G0 f_trie_Root [AV.mp b0 xs1] [] (AV.tup [AV.str s7, AV.int Go.IntKind.i64 n8]) [] ∧
                    ifK (n8 != (0 : Int)) (R (AV.tup [AV.agg [AV.int Go.IntKind.i64 (0 : Int), AV.str [], AV.str []], AV.int Go.IntKind.i64 n8]) [])
                      (R (AV.tup [AV.agg [AV.int Go.IntKind.i64 (↑(List.length b0_0) : Int), AV.str s5, AV.str s7], AV.int Go.IntKind.i64 (0 : Int)]) [])))) :
  Hold (runF PG ty nG G0 an_book_Head f_book_Head [AV.agg [AV.sl (2 : Nat) nlb0_0 none b0_0]] [] R) := kshow h (by kernel_rfl)

theorem slices_Clone_Entry_run (nls0 : Bool) (s0 : List (List AV)) (G0 : Nat → Option Go.Obj) (R : AV → List (Option Blk) → Prop) (h :
  ifK nls0 (R (AV.sl (2 : Nat) true (some (0 : Nat)) []) [some (Blk.grow (2 : Nat) (0 : Nat))])
  (((0 : Nat) + List.length s0) * (24 : Nat) ≤ (140737488355328 : Nat) ∧ (0 : Nat) = (0 : Nat) ∧ R (AV.sl (2 : Nat) (false && List.isEmpty s0) (some (0 : Nat)) ([] ++ s0)) [some (Blk.grow (2 : Nat) ((0 : Nat) + List.length s0))])) :
  Hold (runF PG ty nG G0 an_slices_Clone_Entry f_slices_Clone_Entry [AV.sl (2 : Nat) nls0 none s0] [] R) := kshow h (by kernel_rfl)

theorem slices_Equal_Entry_run (nls10 : Bool) (s10 : List (List AV)) (nls21 : Bool) (s21 : List (List AV)) (G0 : Nat → Option Go.Obj) (R : AV → List (Option Blk) → Prop) (h :
  ifK ((↑(List.length s10) : Int) != (↑(List.length s21) : Int)) (R (AV.bool false) [])
  (Does PG nG G0 (fnOf PG f_slices_Equal_Entry) (0 : Nat) (lp PG f_slices_Equal_Entry (0 : Nat))
    (mkT (26 : Nat) [((0 : Nat), AV.sl (2 : Nat) nls10 none s10), ((1 : Nat), AV.sl (2 : Nat) nls21 none s21), ((12 : Nat), AV.int Go.IntKind.i64 (↑(List.length s10) : Int)), ((13 : Nat), AV.int Go.IntKind.i64 (0 : Int))]) [] R)) :
  Hold (runF PG ty nG G0 an_slices_Equal_Entry f_slices_Equal_Entry [AV.sl (2 : Nat) nls10 none s10, AV.sl (2 : Nat) nls21 none s21] [] R) := kshow h (by kernel_rfl)

theorem slices_Equal_Entry_l0_run (G0 : Nat → Option Obj) (b0 : Bool) (xs1 : List (List AV)) (b2 : Bool) (xs3 : List (List AV)) (n4 : Int) (n5 : Int) (R : AV → List (Option Blk) → Prop) (h :
  ifK (decide (n5 < n4))
  ((0 : Int) ≤ n5 ∧
    ∃ n6 s7,
      xs1[Int.toNat n5]? = some [AV.int Go.IntKind.i64 n6, AV.str s7] ∧
        (0 : Int) ≤ n5 ∧
          ∃ n8 s9,
            xs3[Int.toNat n5]? = some [AV.int Go.IntKind.i64 n8, AV.str s9] ∧
              ifK (!eqAll [AV.int Go.IntKind.i64 n6, AV.str s7] [AV.int Go.IntKind.i64 n8, AV.str s9]) (R (AV.bool false) [])
                (Does PG nG G0 (fnOf PG f_slices_Equal_Entry) (0 : Nat) (lp PG f_slices_Equal_Entry (0 : Nat))
                  (mkT (26 : Nat)
                    [((0 : Nat), AV.sl (2 : Nat) b0 none xs1), ((1 : Nat), AV.sl (2 : Nat) b2 none xs3), ((12 : Nat), AV.int Go.IntKind.i64 n4), ((13 : Nat), AV.int Go.IntKind.i64 (Go.IntKind.wrap Go.IntKind.i64 (n5 + (1 : Int))))])
                  [] R))
  (R (AV.bool true) [])) :
  Hold (runL PG ty nG G0 an_slices_Equal_Entry f_slices_Equal_Entry (0 : Nat) (0 : Nat)
  (mkT (26 : Nat) [((0 : Nat), AV.sl (2 : Nat) b0 none xs1), ((1 : Nat), AV.sl (2 : Nat) b2 none xs3), ((12 : Nat), AV.int Go.IntKind.i64 n4), ((13 : Nat), AV.int Go.IntKind.i64 n5)]) [] R) := kshow h (by kernel_rfl)

theorem greatsealref_CheckBook_run (nlb0_0 : Bool) (b0_0 : List (List AV)) (G0 : Nat → Option Go.Obj) (R : AV → List (Option Blk) → Prop) (h :
  ifK (decide ((↑(List.length b0_0) : Int) > (24 : Int))) (R (AV.int Go.IntKind.i64 (2 : Int)) [])
  (Does PG nG G0 (fnOf PG f_greatsealref_CheckBook) (0 : Nat) (lp PG f_greatsealref_CheckBook (0 : Nat))
    (mkT (27 : Nat) [((10 : Nat), AV.sl (2 : Nat) nlb0_0 none b0_0), ((11 : Nat), AV.int Go.IntKind.i64 (↑(List.length b0_0) : Int)), ((12 : Nat), AV.int Go.IntKind.i64 (0 : Int))]) [] R)) :
  Hold (runF PG ty nG G0 an_greatsealref_CheckBook f_greatsealref_CheckBook [AV.agg [AV.sl (2 : Nat) nlb0_0 none b0_0]] [] R) := kshow h (by kernel_rfl)

theorem greatsealref_CheckBook_l0_run (G0 : Nat → Option Obj) (b0 : Bool) (xs1 : List (List AV)) (n2 : Int) (n3 : Int) (R : AV → List (Option Blk) → Prop) (h :
  ifK (decide (n3 < n2))
  ((0 : Int) ≤ n3 ∧
    ∃ n4 s5,
      xs1[Int.toNat n3]? = some [AV.int Go.IntKind.i64 n4, AV.str s5] ∧
        ∃ b6,
          Good PG nG G0 f_greatsealref_in [AV.int Go.IntKind.i64 n4, AV.int Go.IntKind.i64 (0 : Int), AV.int Go.IntKind.i64 (15 : Int)] [] (AV.bool b6) [] ∧
            ifK (!b6) (R (AV.int Go.IntKind.i64 (5 : Int)) [])
              (ifK (decide ((↑(List.length s5) : Int) > (12 : Int))) (R (AV.int Go.IntKind.i64 (2 : Int)) [])
                (Does PG nG G0 (fnOf PG f_greatsealref_CheckBook) (0 : Nat) (lp PG f_greatsealref_CheckBook (0 : Nat))
                  (mkT (27 : Nat) [((10 : Nat), AV.sl (2 : Nat) b0 none xs1), ((11 : Nat), AV.int Go.IntKind.i64 n2), ((12 : Nat), AV.int Go.IntKind.i64 (Go.IntKind.wrap Go.IntKind.i64 (n3 + (1 : Int))))]) [] R)))
  (R (AV.int Go.IntKind.i64 (0 : Int)) [])) :
  Hold (runL PG ty nG G0 an_greatsealref_CheckBook f_greatsealref_CheckBook (0 : Nat) (0 : Nat) (mkT (27 : Nat) [((10 : Nat), AV.sl (2 : Nat) b0 none xs1), ((11 : Nat), AV.int Go.IntKind.i64 n2), ((12 : Nat), AV.int Go.IntKind.i64 n3)]) [] R) := kshow h (by kernel_rfl)

theorem greatsealref_TextOf_run (e0_0 : Int) (e0_1 : List UInt8) (G0 : Nat → Option Go.Obj) (R : AV → List (Option Blk) → Prop) (h :
  ∃ s0,
  Good PG nG G0 f_strconv_Itoa [AV.int Go.IntKind.i64 e0_0] [] (AV.str s0) [] ∧
    List.length s0 + (1 : Nat) ≤ (9223372036854775807 : Nat) ∧ List.length (s0 ++ [(32 : UInt8)]) + List.length e0_1 ≤ (9223372036854775807 : Nat) ∧ R (AV.str (s0 ++ [(32 : UInt8)] ++ e0_1)) []) :
  Hold (runF PG ty nG G0 an_greatsealref_TextOf f_greatsealref_TextOf [AV.agg [AV.int Go.IntKind.i64 e0_0, AV.str e0_1]] [] R) := kshow h (by kernel_rfl)

theorem greatsealref_TextsOf_run (nlb0_0 : Bool) (b0_0 : List (List AV)) (G0 : Nat → Option Go.Obj) (R : AV → List (Option Blk) → Prop) (h :
  (↑(List.length b0_0) : Int) = (↑(List.length b0_0) : Int) ∧
  (0 : Int) ≤ (↑(List.length b0_0) : Int) ∧
    (16 : Int) * (↑(List.length b0_0) : Int) ≤ (281474976710656 : Int) ∧
      (↑(List.length b0_0) : Int) ≤ (9223372036854775807 : Int) ∧
        Does PG nG G0 (fnOf PG f_greatsealref_TextsOf) (0 : Nat) (lp PG f_greatsealref_TextsOf (0 : Nat))
          (mkT (25 : Nat)
            [((3 : Nat), AV.rsl (1 : Nat) (0 : Nat) (0 : Nat) (Int.toNat (↑(List.length b0_0) : Int))), ((11 : Nat), AV.sl (2 : Nat) nlb0_0 none b0_0), ((12 : Nat), AV.int Go.IntKind.i64 (↑(List.length b0_0) : Int)),
              ((13 : Nat), AV.int Go.IntKind.i64 (0 : Int))])
          [some (Blk.arr (1 : Nat) (List.replicate (Int.toNat (↑(List.length b0_0) : Int)) [AV.str []]))] R) :
  Hold (runF PG ty nG G0 an_greatsealref_TextsOf f_greatsealref_TextsOf [AV.agg [AV.sl (2 : Nat) nlb0_0 none b0_0]] [] R) := kshow h (by kernel_rfl)

theorem greatsealref_TextsOf_l0_run (G0 : Nat → Option Obj) (m0 : Nat) (m1 : Nat) (b2 : Bool) (xs3 : List (List AV)) (n4 : Int) (n5 : Int) (xs6 : List (List AV)) (R : AV → List (Option Blk) → Prop) (h :
  ifK (decide (n5 < n4))
  ((0 : Int) ≤ n5 ∧
    ∃ n7 s8,
      xs3[Int.toNat n5]? = some [AV.int Go.IntKind.i64 n7, AV.str s8] ∧
        ∃ s9,
          Good PG nG G0 f_greatsealref_TextOf [AV.agg [AV.int Go.IntKind.i64 n7, AV.str s8]] [] (AV.str s9) [] ∧
            (0 : Int) ≤ n5 ∧
              n5 < (↑m1 : Int) ∧
                Does PG nG G0 (fnOf PG f_greatsealref_TextsOf) (0 : Nat) (lp PG f_greatsealref_TextsOf (0 : Nat))
                  (mkT (25 : Nat)
                    [((3 : Nat), AV.rsl (1 : Nat) (0 : Nat) m0 m1), ((11 : Nat), AV.sl (2 : Nat) b2 none xs3), ((12 : Nat), AV.int Go.IntKind.i64 n4), ((13 : Nat), AV.int Go.IntKind.i64 (Go.IntKind.wrap Go.IntKind.i64 (n5 + (1 : Int))))])
                  [some (Blk.arr (1 : Nat) (List.set xs6 (m0 + Int.toNat n5) (setR (List.getD xs6 (m0 + Int.toNat n5) []) (0 : Nat) [AV.str s9])))] R)
  (R (AV.sl (1 : Nat) false none (List.take m1 (List.drop m0 xs6))) [])) :
  Hold (runL PG ty nG G0 an_greatsealref_TextsOf f_greatsealref_TextsOf (0 : Nat) (0 : Nat)
  (mkT (25 : Nat) [((3 : Nat), AV.rsl (1 : Nat) (0 : Nat) m0 m1), ((11 : Nat), AV.sl (2 : Nat) b2 none xs3), ((12 : Nat), AV.int Go.IntKind.i64 n4), ((13 : Nat), AV.int Go.IntKind.i64 n5)]) [some (Blk.arr (1 : Nat) xs6)] R) := kshow h (by kernel_rfl)

theorem greatsealref_ValuesOf_run (nlb0_0 : Bool) (b0_0 : List (List AV)) (G0 : Nat → Option Go.Obj) (R : AV → List (Option Blk) → Prop) (h :
  Does PG nG G0 (fnOf PG f_greatsealref_ValuesOf) (0 : Nat) (lp PG f_greatsealref_ValuesOf (0 : Nat))
  (mkT (43 : Nat) [((1 : Nat), AV.ref (0 : Nat) (0 : Nat)), ((3 : Nat), AV.rmp (1 : Nat)), ((4 : Nat), AV.int Go.IntKind.i64 (Go.IntKind.wrap Go.IntKind.i64 ((↑(List.length b0_0) : Int) - (1 : Int))))])
  [some (Blk.var [AV.sl (2 : Nat) nlb0_0 none b0_0]), some (Blk.mp [])] R) :
  Hold (runF PG ty nG G0 an_greatsealref_ValuesOf f_greatsealref_ValuesOf [AV.agg [AV.sl (2 : Nat) nlb0_0 none b0_0]] [] R) := kshow h (by kernel_rfl)

theorem greatsealref_ValuesOf_l0_run (G0 : Nat → Option Obj) (n0 : Int) (b1 : Bool) (xs2 : List (List AV)) (es3 : List (AV × AV)) (R : AV → List (Option Blk) → Prop) (h :
  ifK (decide (n0 ≥ (0 : Int)))
  ((0 : Int) ≤ n0 ∧
    ∃ n4 s5,
      xs2[Int.toNat n0]? = some [AV.int Go.IntKind.i64 n4, AV.str s5] ∧
        ∃ s6 b7,
          mlookD Go.IntKind.i64 n4 (AV.str []) es3 = some (AV.str s6, b7) ∧
            ifK (!b7)
              ((0 : Int) ≤ n0 ∧
                ∃ n8 s9,
                  xs2[Int.toNat n0]? = some [AV.int Go.IntKind.i64 n8, AV.str s9] ∧
                    (0 : Int) ≤ n0 ∧
                      ∃ n10 s11,
                        xs2[Int.toNat n0]? = some [AV.int Go.IntKind.i64 n10, AV.str s11] ∧
                          ∃ xs12,
                            mupd Go.IntKind.i64 n8 (AV.str s11) es3 = some xs12 ∧
                              Does PG nG G0 (fnOf PG f_greatsealref_ValuesOf) (0 : Nat) (lp PG f_greatsealref_ValuesOf (0 : Nat))
                                (mkT (43 : Nat) [((1 : Nat), AV.ref (0 : Nat) (0 : Nat)), ((3 : Nat), AV.rmp (1 : Nat)), ((4 : Nat), AV.int Go.IntKind.i64 (Go.IntKind.wrap Go.IntKind.i64 (n0 - (1 : Int))))])
                                [some (Blk.var [AV.sl (2 : Nat) b1 none xs2]), some (Blk.mp xs12)] R)
              (Does PG nG G0 (fnOf PG f_greatsealref_ValuesOf) (0 : Nat) (lp PG f_greatsealref_ValuesOf (0 : Nat))
                (mkT (43 : Nat) [((1 : Nat), AV.ref (0 : Nat) (0 : Nat)), ((3 : Nat), AV.rmp (1 : Nat)), ((4 : Nat), AV.int Go.IntKind.i64 (Go.IntKind.wrap Go.IntKind.i64 (n0 - (1 : Int))))])
                [some (Blk.var [AV.sl (2 : Nat) b1 none xs2]), some (Blk.mp es3)] R))
  (R (AV.mp false es3) [])) :
  Hold (runL PG ty nG G0 an_greatsealref_ValuesOf f_greatsealref_ValuesOf (0 : Nat) (0 : Nat) (mkT (43 : Nat) [((1 : Nat), AV.ref (0 : Nat) (0 : Nat)), ((3 : Nat), AV.rmp (1 : Nat)), ((4 : Nat), AV.int Go.IntKind.i64 n0)])
  [some (Blk.var [AV.sl (2 : Nat) b1 none xs2]), some (Blk.mp es3)] R) := kshow h (by kernel_rfl)

theorem greatsealref_HeadOf_run (nlb0_0 : Bool) (b0_0 : List (List AV)) (G0 : Nat → Option Go.Obj) (R : AV → List (Option Blk) → Prop) (h :
  ∃ n0,
  Good PG nG G0 f_greatsealref_CheckBook [AV.agg [AV.sl (2 : Nat) nlb0_0 none b0_0]] [] (AV.int Go.IntKind.i64 n0) [] ∧
    ifK (n0 != (0 : Int)) (R (AV.tup [AV.agg [AV.int Go.IntKind.i64 (0 : Int), AV.str [], AV.str []], AV.int Go.IntKind.i64 n0]) [])
      (∃ b1 xs2,
        Good PG nG G0 f_greatsealref_TextsOf [AV.agg [AV.sl (2 : Nat) nlb0_0 none b0_0]] [] (AV.sl (1 : Nat) b1 none xs2) [] ∧
          ∃ s3 n4,
            Good PG nG G0 f_greatsealref_RootOf [AV.sl (1 : Nat) b1 none xs2] [] (AV.tup [AV.str s3, AV.int Go.IntKind.i64 n4]) [] ∧
              ∃ b5 xs6,
                Good PG nG G0 f_greatsealref_ValuesOf [AV.agg [AV.sl (2 : Nat) nlb0_0 none b0_0]] [] (AV.mp b5 xs6) [] ∧
                  ∃ b7 xs8,
                    Good PG nG G0 f_greatsealref_MapRoots [AV.mp b5 xs6] [] (AV.sl (1 : Nat) b7 none xs8) [] ∧
                      (0 : Int) ≤ (4 : Int) ∧
                        ∃ b9 xs10,
                          xs8[(4 : Nat)]? = some [AV.sl (1 : Nat) b9 none xs10] ∧
                            (0 : Int) ≤ (0 : Int) ∧ ∃ s11, xs10[(0 : Nat)]? = some [AV.str s11] ∧ R (AV.tup [AV.agg [AV.int Go.IntKind.i64 (↑(List.length b0_0) : Int), AV.str s3, AV.str s11], AV.int Go.IntKind.i64 (0 : Int)]) [])) :
  Hold (runF PG ty nG G0 an_greatsealref_HeadOf f_greatsealref_HeadOf [AV.agg [AV.sl (2 : Nat) nlb0_0 none b0_0]] [] R) := kshow h (by kernel_rfl)

theorem greatseallaw_entries_run (G0 : Nat → Option Go.Obj) (R : AV → List (Option Blk) → Prop) (h :
  R (AV.agg [AV.sl (2 : Nat) false none [[AV.int Go.IntKind.i64 (5 : Int), AV.str [(120 : UInt8)]], [AV.int Go.IntKind.i64 (9 : Int), AV.str [(121 : UInt8)]], [AV.int Go.IntKind.i64 (5 : Int), AV.str [(122 : UInt8)]]]]) []) :
  Hold (runF PG ty nG G0 an_greatseallaw_entries f_greatseallaw_entries [] [] R) := kshow h (by kernel_rfl)

theorem greatseallaw_booked_run (G0 : Nat → Option Go.Obj) (R : AV → List (Option Blk) → Prop) (h :
  ∃ b0 xs1,
  Good PG nG G0 f_greatseallaw_entries [] [] (AV.agg [AV.sl (2 : Nat) b0 none xs1]) [] ∧
    ∃ n2 s3 s4 n5,
      Good PG nG G0 f_book_Head [AV.agg [AV.sl (2 : Nat) b0 none xs1]] [] (AV.tup [AV.agg [AV.int Go.IntKind.i64 n2, AV.str s3, AV.str s4], AV.int Go.IntKind.i64 n5]) [] ∧
        ∃ b6 xs7,
          Good PG nG G0 f_greatseallaw_entries [] [] (AV.agg [AV.sl (2 : Nat) b6 none xs7]) [] ∧
            ∃ b8 xs9 n10,
              Good PG nG G0 f_book_Values [AV.agg [AV.sl (2 : Nat) b6 none xs7]] [] (AV.tup [AV.mp b8 xs9, AV.int Go.IntKind.i64 n10]) [] ∧
                ∃ b11 xs12,
                  Good PG nG G0 f_greatseallaw_entries [] [] (AV.agg [AV.sl (2 : Nat) b11 none xs12]) [] ∧
                    ∃ b13 xs14 n15,
                      Good PG nG G0 f_book_Put [AV.agg [AV.sl (2 : Nat) b11 none xs12], AV.agg [AV.int Go.IntKind.i64 (16 : Int), AV.str []]] [] (AV.tup [AV.agg [AV.sl (2 : Nat) b13 none xs14], AV.int Go.IntKind.i64 n15]) [] ∧
                        ∃ b16 xs17,
                          Good PG nG G0 f_greatseallaw_entries [] [] (AV.agg [AV.sl (2 : Nat) b16 none xs17]) [] ∧
                            ∃ b18 xs19 n20,
                              Good PG nG G0 f_book_Put [AV.agg [AV.sl (2 : Nat) b16 none xs17], AV.agg [AV.int Go.IntKind.i64 (1 : Int), AV.str [(119 : UInt8)]]] []
                                  (AV.tup [AV.agg [AV.sl (2 : Nat) b18 none xs19], AV.int Go.IntKind.i64 n20]) [] ∧
                                ifK (n5 == (0 : Int))
                                  (ifK (n10 == (0 : Int))
                                    (ifK (n15 == (5 : Int))
                                      (ifK (n20 == (0 : Int))
                                        (ifK (n2 == (3 : Int))
                                          (ifK
                                            (s3 ==
                                              [(78 : UInt8), (49 : UInt8), (49 : UInt8), (58 : UInt8), (78 : UInt8), (52 : UInt8), (58 : UInt8), (76 : UInt8), (53 : UInt8), (32 : UInt8), (120 : UInt8), (76 : UInt8), (57 : UInt8),
                                                (32 : UInt8), (121 : UInt8), (76 : UInt8), (53 : UInt8), (32 : UInt8), (122 : UInt8)])
                                            (ifK ((↑(List.length xs9) : Int) == (2 : Int))
                                              (∃ s21 b22,
                                                mlookD Go.IntKind.i64 (5 : Int) (AV.str []) xs9 = some (AV.str s21, b22) ∧
                                                  ifK (s21 == [(122 : UInt8)])
                                                    (ifK ((↑(List.length xs19) : Int) == (4 : Int))
                                                      (∃ n23,
                                                        Good PG nG G0 f_book_Check [AV.agg [AV.sl (2 : Nat) b18 none xs19]] [] (AV.int Go.IntKind.i64 n23) [] ∧
                                                          ifK (n23 == (0 : Int))
                                                            ((0 : Int) ≤ (3 : Int) ∧
                                                              ∃ n24 s25,
                                                                xs19[(3 : Nat)]? = some [AV.int Go.IntKind.i64 n24, AV.str s25] ∧
                                                                  ∃ s26,
                                                                    Good PG nG G0 f_book_Text [AV.agg [AV.int Go.IntKind.i64 n24, AV.str s25]] [] (AV.str s26) [] ∧ R (AV.bool (s26 == [(49 : UInt8), (32 : UInt8), (119 : UInt8)])) [])
                                                            (R (AV.bool false) []))
                                                      (R (AV.bool false) []))
                                                    (R (AV.bool false) []))
                                              (R (AV.bool false) []))
                                            (R (AV.bool false) []))
                                          (R (AV.bool false) []))
                                        (R (AV.bool false) []))
                                      (R (AV.bool false) []))
                                    (R (AV.bool false) []))
                                  (R (AV.bool false) [])) :
  Hold (runF PG ty nG G0 an_greatseallaw_booked f_greatseallaw_booked [] [] R) := kshow h (by kernel_rfl)

end Go.Ab

namespace Go.Gs

/-- The last value of a key. -/
def lastG : Bk → Int → Option By
  | [], _ => none
  | e :: r, k => match lastG r k with
    | some v => some v
    | none => if k = e.1 then some e.2 else none

/-- Values, told from behind. -/
def valsRev : Bk → Mp
  | [] => []
  | e :: r => if (mGet (valsRev r) e.1).isSome then valsRev r else mPut (valsRev r) e.1 e.2

theorem valsRev_get (b : Bk) (k : Int) : mGet (valsRev b) k = lastG b k := by
  induction b with
  | nil => rfl
  | cons e r ih =>
    unfold valsRev lastG
    split
    · rename_i h
      rw [ih]
      cases hl : lastG r k with
      | some v => rfl
      | none =>
        simp only
        rw [if_neg]
        rintro rfl
        rw [ih, hl] at h
        cases h
    · rename_i h
      rw [mGet_put, ih]
      split
      · rename_i h1
        subst h1
        have : lastG r e.1 = none := by
          rw [← ih]; simpa using h
        rw [this]
      · cases lastG r k <;> rfl

theorem foldl_get (b : Bk) : ∀ (m : Mp) (k : Int), mGet (b.foldl (fun m e => mPut m e.1 e.2) m) k = match lastG b k with | some v => some v | none => mGet m k := by
  induction b with
  | nil => intro m k; rfl
  | cons e r ih =>
    intro m k
    rw [List.foldl_cons, ih, mGet_put]
    rw [lastG]
    cases lastG r k with
    | some v => rfl
    | none =>
      simp only
      split <;> rfl

theorem valsOf_get (b : Bk) (k : Int) : mGet (valsOf b) k = lastG b k := by
  unfold valsOf
  rw [foldl_get]
  cases lastG b k <;> rfl

theorem valsRev_nodup (b : Bk) : ((valsRev b).map (·.1)).Nodup := by
  induction b with
  | nil => simp [valsRev]
  | cons e r ih =>
    unfold valsRev
    split
    · exact ih
    · exact mPut_nodup ih _ _

theorem valsRev_fM (b : Bk) : fM (valsRev b) = fM (valsOf b) := by
  funext k
  unfold fM
  rw [valsRev_get, valsOf_get]

theorem vals_eq (b : Bk) : mEq (valsOf b) (valsRev b) = true := (mEq_iff (valsOf_nodup b) (valsRev_nodup b)).2 fun k => by rw [valsRev_get, valsOf_get]

theorem valsRev_mem {b : Bk} {p : Int × By} (h : p ∈ valsRev b) : p ∈ b := by
  induction b with
  | nil => cases h
  | cons e r ih =>
    unfold valsRev at h
    split at h
    · exact List.mem_cons_of_mem _ (ih h)
    · rcases mPut_mem h with rfl | h
      · exact List.mem_cons_self
      · exact List.mem_cons_of_mem _ (ih h)

theorem valsRev_check {b : Bk} (h : checkB b = 0) : checkM (valsRev b) = 0 := checkM_mk fun p hp => (checkB_ok h).2 p (valsRev_mem hp)

theorem decDigits_pow : ∀ (k u : Nat), u < 10 ^ (k + 1) → (Lib.decDigits u).length ≤ k + 1 := by
  intro k
  induction k with
  | zero =>
    intro u h
    rw [Lib.decDigits, dif_pos (by simpa using h)]
    simp
  | succ k ih =>
    intro u h
    rw [Lib.decDigits]
    split
    · simp
    · have := ih (u / 10) (by rw [Nat.pow_succ] at h; omega)
      simp only [List.length_append, List.length_cons, List.length_nil]; omega

theorem itoa_len20 {n : Int} (h0 : -9223372036854775808 ≤ n) (h1 : n ≤ 9223372036854775807) : (Lib.itoa n).length ≤ 20 := by
  have := decDigits_pow 18 n.natAbs (by omega)
  have := decDigits_pow 18 n.toNat (by omega)
  unfold Lib.itoa
  split
  · simp only [List.length_cons]; omega
  · omega

theorem loop_down {D : Nat → Prop} (n : Nat) (hend : D n) (hstep : ∀ i, i < n → D (i + 1) → D i) : D 0 := by
  have key : ∀ m i, n - i ≤ m → i ≤ n → D i := by
    intro m
    induction m with
    | zero => intro i h1 h2; obtain rfl : i = n := by omega
              exact hend
    | succ m ih =>
      intro i h1 h2
      rcases Nat.lt_or_ge i n with h | h
      · exact hstep i h (ih (i + 1) (by omega) (by omega))
      · obtain rfl : i = n := by omega
        exact hend
  exact key n 0 (by omega) (by omega)

theorem firstBad_drop {b : Bk} {i : Nat} (h : i < b.length) : firstBad (b.drop i) = if badE b[i] ≠ 0 then badE b[i] else firstBad (b.drop (i + 1)) := by
  rw [List.drop_eq_getElem_cons h]
  rfl
end Go.Gs

namespace Go.Ab
open Go.Proofs Go.Gs
variable {G0 : Nat → Option Obj}

theorem good_bookCheck (b : Bk) (nl : Bool) : Good PG nG G0 f_book_Check [.agg [.sl 2 nl none (b.map E2)]] [] (.int .i64 (checkB b)) [] := by
  suffices main : ∀ R : AV → List (Option Blk) → Prop, R (.int .i64 (checkB b)) [] → Hold (runF PG ty nG G0 an_book_Check f_book_Check [.agg [.sl 2 nl none (b.map E2)]] [] R) from
    good_of_run prOk (by kernel_rfl) (main _ ⟨rfl, rfl⟩)
  intro R hR
  refine book_Check_run nl _ G0 R ?_
  simp only [ifK_iff, decide_eq_true_eq, decide_eq_false_iff_not, List.length_map]
  unfold checkB at hR
  refine ⟨fun h => by rw [if_pos (by omega)] at hR; exact hR, fun h => ?_⟩
  rw [if_neg (by omega)] at hR
  refine loop_down (D := fun i : Nat => firstBad (b.drop i) = firstBad b → Does PG nG G0 (fnOf PG f_book_Check) 0 (lp PG f_book_Check 0) (mkT 29 [(10, .sl 2 nl none (b.map E2)), (11, .int .i64 b.length), (12, .int .i64 i)]) [] R) b.length (fun h1 => ?_) (fun i hi ih h1 => ?_) rfl
  · refine does_of_run prOk (book_Check_l0_run G0 _ _ _ _ R ?_)
    simp only [ifK_iff, decide_eq_true_eq, decide_eq_false_iff_not]
    refine ⟨fun h => by omega, fun _ => ?_⟩
    rw [← h1, List.drop_length] at hR
    exact hR
  · refine does_of_run prOk (book_Check_l0_run G0 _ _ _ _ R ?_)
    simp only [ifK_iff, decide_eq_true_eq, decide_eq_false_iff_not, Int.toNat_natCast]
    rw [wrapI (by omega) (by omega)]
    rw [firstBad_drop hi] at h1
    refine ⟨fun _ => ⟨by omega, _, _, getX hi, ?_⟩, fun h => by omega⟩
    unfold badE at h1
    refine ⟨fun h2 => ?_, fun h2 => ⟨fun h3 => ?_, fun h3 => ⟨fun h4 => ?_, fun h4 => ?_⟩⟩⟩
    · rw [if_pos (by rw [if_pos (.inl h2)]; decide), if_pos (.inl h2)] at h1
      rw [← h1] at hR; exact hR
    · rw [if_pos (by rw [if_pos (.inr h3)]; decide), if_pos (.inr h3)] at h1
      rw [← h1] at hR; exact hR
    · rw [if_neg (show ¬ (b[i].1 < 0 ∨ 16 ≤ b[i].1) by omega), if_pos (show 12 < b[i].2.length by omega)] at h1
      rw [← h1] at hR; exact hR
    · rw [if_neg (show ¬ (b[i].1 < 0 ∨ 16 ≤ b[i].1) by omega), if_neg (show ¬ 12 < b[i].2.length by omega)] at h1
      exact ih h1

theorem good_CheckBook (b : Bk) (nl : Bool) : Good PG nG G0 f_greatsealref_CheckBook [.agg [.sl 2 nl none (b.map E2)]] [] (.int .i64 (checkB b)) [] := by
  suffices main : ∀ R : AV → List (Option Blk) → Prop, R (.int .i64 (checkB b)) [] → Hold (runF PG ty nG G0 an_greatsealref_CheckBook f_greatsealref_CheckBook [.agg [.sl 2 nl none (b.map E2)]] [] R) from
    good_of_run prOk (by kernel_rfl) (main _ ⟨rfl, rfl⟩)
  intro R hR
  refine greatsealref_CheckBook_run nl _ G0 R ?_
  simp only [ifK_iff, decide_eq_true_eq, decide_eq_false_iff_not, List.length_map]
  unfold checkB at hR
  refine ⟨fun h => by rw [if_pos (by omega)] at hR; exact hR, fun h => ?_⟩
  rw [if_neg (by omega)] at hR
  refine loop_down (D := fun i : Nat => firstBad (b.drop i) = firstBad b → Does PG nG G0 (fnOf PG f_greatsealref_CheckBook) 0 (lp PG f_greatsealref_CheckBook 0) (mkT 27 [(10, .sl 2 nl none (b.map E2)), (11, .int .i64 b.length), (12, .int .i64 i)]) [] R) b.length (fun h1 => ?_) (fun i hi ih h1 => ?_) rfl
  · refine does_of_run prOk (greatsealref_CheckBook_l0_run G0 _ _ _ _ R ?_)
    simp only [ifK_iff, decide_eq_true_eq, decide_eq_false_iff_not]
    refine ⟨fun h => by omega, fun _ => ?_⟩
    rw [← h1, List.drop_length] at hR
    exact hR
  · refine does_of_run prOk (greatsealref_CheckBook_l0_run G0 _ _ _ _ R ?_)
    simp only [ifK_iff, decide_eq_true_eq, decide_eq_false_iff_not, Int.toNat_natCast]
    rw [wrapI (by omega) (by omega)]
    rw [firstBad_drop hi] at h1
    refine ⟨fun _ => ⟨by omega, _, _, getX hi, _, good_in _ _ _, ?_⟩, fun h => by omega⟩
    unfold badE at h1
    simp only [Bool.not_eq_true', Bool.not_eq_false', decide_eq_true_eq, decide_eq_false_iff_not]
    refine ⟨fun h2 => ?_, fun h2 => ⟨fun h4 => ?_, fun h4 => ?_⟩⟩
    · rw [if_pos (by rw [if_pos (by omega)]; decide), if_pos (by omega)] at h1
      rw [← h1] at hR; exact hR
    · rw [if_neg (show ¬ (b[i].1 < 0 ∨ 16 ≤ b[i].1) by omega), if_pos (show 12 < b[i].2.length by omega)] at h1
      rw [← h1] at hR; exact hR
    · rw [if_neg (show ¬ (b[i].1 < 0 ∨ 16 ≤ b[i].1) by omega), if_neg (show ¬ 12 < b[i].2.length by omega)] at h1
      exact ih h1
end Go.Ab

namespace Go.Ab
open Go.Proofs Go.Gs
variable {G0 : Nat → Option Obj}

/-- A book as an argument can be. -/
def BkR (b : Bk) : Prop := ∀ e ∈ b, (-9223372036854775808 ≤ e.1 ∧ e.1 ≤ 9223372036854775807) ∧ e.2.length ≤ 140737488351232

theorem BkR_of_check {b : Bk} (h : checkB b = 0) : BkR b := fun e he => by
  have := (checkB_ok h).2 e he
  exact ⟨⟨by omega, by omega⟩, by omega⟩

theorem good_Text (hG : GlobOk G0) (e : En) (h : (-9223372036854775808 ≤ e.1 ∧ e.1 ≤ 9223372036854775807) ∧ e.2.length ≤ 140737488351232) : Good PG nG G0 f_book_Text [.agg [.int .i64 e.1, .str e.2]] [] (.str (textE e)) [] := by
  refine good_of_run prOk (by kernel_rfl) (book_Text_run _ _ G0 _ ⟨_, good_itoa hG _ h.1.1 h.1.2, ?_⟩)
  have := itoa_len20 h.1.1 h.1.2
  refine ⟨by omega, by simp only [List.length_append, List.length_cons, List.length_nil]; omega, ?_, rfl⟩
  unfold textE
  rw [List.append_assoc]; rfl

theorem good_TextOf (hG : GlobOk G0) (e : En) (h : (-9223372036854775808 ≤ e.1 ∧ e.1 ≤ 9223372036854775807) ∧ e.2.length ≤ 140737488351232) : Good PG nG G0 f_greatsealref_TextOf [.agg [.int .i64 e.1, .str e.2]] [] (.str (textE e)) [] := by
  refine good_of_run prOk (by kernel_rfl) (greatsealref_TextOf_run _ _ G0 _ ⟨_, good_itoa hG _ h.1.1 h.1.2, ?_⟩)
  have := itoa_len20 h.1.1 h.1.2
  refine ⟨by omega, by simp only [List.length_append, List.length_cons, List.length_nil]; omega, ?_, rfl⟩
  unfold textE
  rw [List.append_assoc]; rfl

theorem take_snoc {α : Type} {l : List α} {i : Nat} (h : i < l.length) : l.take (i + 1) = l.take i ++ [l[i]] := by
  rw [List.take_add_one, List.getElem?_eq_getElem h]; rfl

theorem good_Texts (hG : GlobOk G0) (b : Bk) (nl : Bool) (hb : BkR b) (hl : b.length * 24 ≤ 140737488355328) : Good PG nG G0 f_book_Texts [.agg [.sl 2 nl none (b.map E2)]] [] (.sl 1 b.isEmpty none ((textsOf b).map S1)) [] := by
  suffices main : ∀ R : AV → List (Option Blk) → Prop, R (.sl 1 b.isEmpty none ((textsOf b).map S1)) [] → Hold (runF PG ty nG G0 an_book_Texts f_book_Texts [.agg [.sl 2 nl none (b.map E2)]] [] R) from
    good_of_run prOk (by kernel_rfl) (main _ ⟨rfl, rfl⟩)
  intro R hR
  refine book_Texts_run nl _ G0 R ?_
  rw [List.length_map]
  refine loop_down (D := fun i : Nat => Does PG nG G0 (fnOf PG f_book_Texts) 0 (lp PG f_book_Texts 0) (mkT 20 [(3, .sl 1 (b.take i).isEmpty (some 0) ((textsOf (b.take i)).map S1)), (7, .sl 2 nl none (b.map E2)), (8, .int .i64 b.length), (9, .int .i64 i)]) [some (.grow 1 (b.take i).length)] R) b.length ?_ (fun i hi ih => ?_)
  · refine does_of_run prOk (book_Texts_l0_run G0 _ _ _ _ _ _ _ R ?_)
    simp only [ifK_iff, decide_eq_true_eq, decide_eq_false_iff_not, List.take_length]
    exact ⟨fun h => by omega, fun _ => hR⟩
  · refine does_of_run prOk (book_Texts_l0_run G0 _ _ _ _ _ _ _ R ?_)
    simp only [ifK_iff, decide_eq_true_eq, decide_eq_false_iff_not, Int.toNat_natCast]
    rw [wrapI (by omega) (by omega)]
    rw [take_snoc hi] at ih
    refine ⟨fun _ => ⟨by omega, _, _, getX hi, _, good_Text hG _ (hb _ (List.getElem_mem hi)), ?_, ?_, ?_⟩, fun h => by omega⟩
    · simp only [List.length_map, textsOf, List.length_take, List.length_cons, List.length_nil]; omega
    · simp only [List.length_map, textsOf]
    · have e1 : textsOf (b.take i ++ [b[i]]) = textsOf (b.take i) ++ [textE b[i]] := by rw [textsOf, List.map_append]; rfl
      have e2 : (b.take i ++ [b[i]]).isEmpty = ((b.take i).isEmpty && List.isEmpty [[AV.str (textE b[i])]]) := by cases b.take i <;> rfl
      rw [e1, e2, List.map_append, List.length_append] at ih
      exact ih

theorem setR_one (y : List AV) (a : AV) (h : y.length = 1) : setR y 0 [a] = [a] := by
  match y, h with
  | [c], _ => rfl

theorem good_TextsOf (hG : GlobOk G0) (b : Bk) (nl : Bool) (hb : BkR b) (hl : b.length * 24 ≤ 140737488355328) : Good PG nG G0 f_greatsealref_TextsOf [.agg [.sl 2 nl none (b.map E2)]] [] (.sl 1 false none ((textsOf b).map S1)) [] := by
  suffices main : ∀ R : AV → List (Option Blk) → Prop, R (.sl 1 false none ((textsOf b).map S1)) [] → Hold (runF PG ty nG G0 an_greatsealref_TextsOf f_greatsealref_TextsOf [.agg [.sl 2 nl none (b.map E2)]] [] R) from
    good_of_run prOk (by kernel_rfl) (main _ ⟨rfl, rfl⟩)
  intro R hR
  refine greatsealref_TextsOf_run nl _ G0 R ?_
  rw [List.length_map, Int.toNat_natCast]
  refine ⟨rfl, by omega, by omega, by omega, ?_⟩
  have st := loop_down (D := fun i : Nat => ∀ s : List By, s.length = b.length → s.take i = textsOf (b.take i) → Does PG nG G0 (fnOf PG f_greatsealref_TextsOf) 0 (lp PG f_greatsealref_TextsOf 0) (mkT 25 [(3, .rsl 1 0 0 b.length), (11, .sl 2 nl none (b.map E2)), (12, .int .i64 b.length), (13, .int .i64 i)]) [some (.arr 1 (s.map S1))] R) b.length (fun s h1 h2 => ?_) (fun i hi ih s h1 h2 => ?_)
  · have := st (List.replicate b.length []) (by simp) rfl
    rw [List.map_replicate] at this
    exact this
  · refine does_of_run prOk (greatsealref_TextsOf_l0_run G0 _ _ _ _ _ _ _ R ?_)
    simp only [ifK_iff, decide_eq_true_eq, decide_eq_false_iff_not, List.drop_zero]
    refine ⟨fun h => by omega, fun _ => ?_⟩
    rw [← List.map_take, h2, List.take_length]
    exact hR
  · refine does_of_run prOk (greatsealref_TextsOf_l0_run G0 _ _ _ _ _ _ _ R ?_)
    simp only [ifK_iff, decide_eq_true_eq, decide_eq_false_iff_not, Int.toNat_natCast, Nat.zero_add]
    rw [wrapI (by omega) (by omega)]
    refine ⟨fun _ => ⟨by omega, _, _, getX hi, _, good_TextOf hG _ (hb _ (List.getElem_mem hi)), by omega, by omega, ?_⟩, fun h => by omega⟩
    have e1 : (s.map S1).getD i [] = S1 (s[i]'(by omega)) := by rw [List.getD_eq_getElem?_getD, getX (by omega)]; rfl
    rw [e1, setR_one _ _ rfl]
    have := ih (s.set i (textE b[i])) (by simpa using h1) (by
      rw [take_snoc hi, take_snoc (by simpa using (show i < s.length by omega)), List.take_set_of_le (Nat.le_refl i), h2, List.getElem_set_self]
      rw [textsOf, textsOf, List.map_append]; rfl)
    rw [List.map_set] at this
    exact this

theorem good_Values (b : Bk) (nl : Bool) (hc : checkB b = 0) : Good PG nG G0 f_book_Values [.agg [.sl 2 nl none (b.map E2)]] [] (.tup [.mp false ((valsOf b).map KV), .int .i64 0]) [] := by
  suffices main : ∀ R : AV → List (Option Blk) → Prop, R (.tup [.mp false ((valsOf b).map KV), .int .i64 0]) [] → Hold (runF PG ty nG G0 an_book_Values f_book_Values [.agg [.sl 2 nl none (b.map E2)]] [] R) from
    good_of_run prOk (by kernel_rfl) (main _ ⟨rfl, rfl⟩)
  intro R hR
  refine book_Values_run nl _ G0 R ⟨_, good_bookCheck b nl, ?_⟩
  have e : (checkB b != 0) = false := by rw [hc]; rfl
  rw [e, ifF, List.length_map]
  have hb := (checkB_ok hc).1
  refine loop_down (D := fun i : Nat => Does PG nG G0 (fnOf PG f_book_Values) 0 (lp PG f_book_Values 0) (mkT 28 [(5, .rmp 0), (15, .sl 2 nl none (b.map E2)), (16, .int .i64 b.length), (17, .int .i64 i)]) [some (.mp ((valsOf (b.take i)).map KV))] R) b.length ?_ (fun i hi ih => ?_)
  · refine does_of_run prOk (book_Values_l0_run G0 _ _ _ _ _ R ?_)
    simp only [ifK_iff, decide_eq_true_eq, decide_eq_false_iff_not, List.take_length]
    exact ⟨fun h => by omega, fun _ => hR⟩
  · refine does_of_run prOk (book_Values_l0_run G0 _ _ _ _ _ R ?_)
    simp only [ifK_iff, decide_eq_true_eq, decide_eq_false_iff_not, Int.toNat_natCast]
    rw [wrapI (by omega) (by omega)]
    rw [take_snoc hi, valsOf_snoc] at ih
    exact ⟨fun _ => ⟨by omega, _, _, getX hi, _, mupd_KV _ _ _, ih⟩, fun h => by omega⟩

theorem good_Values_bad (b : Bk) (nl : Bool) (hc : checkB b ≠ 0) : Good PG nG G0 f_book_Values [.agg [.sl 2 nl none (b.map E2)]] [] (.tup [.mp true [], .int .i64 (checkB b)]) [] := by
  refine good_of_run prOk (by kernel_rfl) (book_Values_run nl _ G0 _ ⟨_, good_bookCheck b nl, ?_⟩)
  have e : (checkB b != 0) = true := by simpa using hc
  rw [e, ifT]
  exact ⟨rfl, rfl⟩

theorem good_ValuesOf (b : Bk) (nl : Bool) (hl : b.length ≤ 1000000) : Good PG nG G0 f_greatsealref_ValuesOf [.agg [.sl 2 nl none (b.map E2)]] [] (.mp false ((valsRev b).map KV)) [] := by
  suffices main : ∀ R : AV → List (Option Blk) → Prop, R (.mp false ((valsRev b).map KV)) [] → Hold (runF PG ty nG G0 an_greatsealref_ValuesOf f_greatsealref_ValuesOf [.agg [.sl 2 nl none (b.map E2)]] [] R) from
    good_of_run prOk (by kernel_rfl) (main _ ⟨rfl, rfl⟩)
  intro R hR
  refine greatsealref_ValuesOf_run nl _ G0 R ?_
  rw [List.length_map, wrap64 (by omega) (by omega)]
  have st : ∀ i : Nat, i ≤ b.length → Does PG nG G0 (fnOf PG f_greatsealref_ValuesOf) 0 (lp PG f_greatsealref_ValuesOf 0) (mkT 43 [(1, .ref 0 0), (3, .rmp 1), (4, .int .i64 ((i : Int) - 1))]) [some (.var [.sl 2 nl none (b.map E2)]), some (.mp ((valsRev (b.drop i)).map KV))] R := by
    intro i
    induction i with
    | zero =>
      intro _
      refine does_of_run prOk (greatsealref_ValuesOf_l0_run G0 _ _ _ _ R ?_)
      simp only [ifK_iff, decide_eq_true_eq, decide_eq_false_iff_not]
      exact ⟨fun h => absurd h (by decide), fun _ => hR⟩
    | succ i ih =>
      intro hi
      have ih := ih (by omega)
      rw [List.drop_eq_getElem_cons (show i < b.length by omega)] at ih
      unfold valsRev at ih
      have e0 : ((i + 1 : Nat) : Int) - 1 = (i : Int) := by omega
      rw [e0]
      refine does_of_run prOk (greatsealref_ValuesOf_l0_run G0 _ _ _ _ R ?_)
      simp only [ifK_iff, decide_eq_true_eq, decide_eq_false_iff_not, Int.toNat_natCast]
      rw [wrap64 (by omega) (by omega)]
      refine ⟨fun _ => ⟨by omega, _, _, getX (by omega), _, _, mlookD_KV _ _, fun h => ?_, fun h => ?_⟩, fun h => by omega⟩
      · rw [if_neg (by simpa using h)] at ih
        exact ⟨by omega, _, _, getX (by omega), by omega, _, _, getX (by omega), _, mupd_KV _ _ _, ih⟩
      · rw [if_pos (by simpa using h)] at ih
        exact ih
  have := st b.length (Nat.le_refl _)
  rw [List.drop_length] at this
  exact this
end Go.Ab

namespace Go.Ab
open Go.Proofs Go.Gs
variable {G0 : Nat → Option Obj}

theorem good_CloneEntry (b : Bk) (nl : Bool) (hnl : nl = true → b = []) (hl : b.length * 24 ≤ 140737488355328) : Good PG nG G0 f_slices_Clone_Entry [.sl 2 nl none (b.map E2)] [] (.sl 2 nl (some 0) (b.map E2)) [some (.grow 2 (b.map E2).length)] := by
  refine good_of_run prOk (by kernel_rfl) (slices_Clone_Entry_run nl _ G0 _ ?_)
  simp only [ifK_iff, List.length_map, Nat.zero_add, List.nil_append, Bool.false_and]
  refine ⟨fun h => ?_, fun h => ⟨hl, trivial, ?_⟩⟩
  · have := hnl h
    subst this; subst h
    exact ⟨rfl, rfl⟩
  · subst h; exact ⟨rfl, trivial⟩

theorem eqAll_E2 (p q : En) : eqAll [.int .i64 p.1, .str p.2] [.int .i64 q.1, .str q.2] = decide (p = q) := by
  obtain ⟨a, b⟩ := p
  obtain ⟨c, d⟩ := q
  by_cases h1 : a = c <;> by_cases h2 : b = d <;> simp [eqAll, eqC, h1, h2]

theorem good_EqualEntry (a b : Bk) (na nb : Bool) (hb : (a.length : Int) ≤ 9223372036854775806) : Good PG nG G0 f_slices_Equal_Entry [.sl 2 na none (a.map E2), .sl 2 nb none (b.map E2)] [] (.bool (decide (a = b))) [] := by
  refine good_of_run prOk (by kernel_rfl) (slices_Equal_Entry_run na _ nb _ G0 _ ?_)
  simp only [ifK_iff, bne_iff_ne, ne_eq, List.length_map, bne_eq_false_iff_eq]
  refine ⟨fun h => ⟨?_, trivial⟩, fun h => ?_⟩
  · have : a ≠ b := by rintro rfl; exact h rfl
    simp [this]
  · refine eq_gen (D := fun i : Nat => Does PG nG G0 (fnOf PG f_slices_Equal_Entry) 0 (lp PG f_slices_Equal_Entry 0) (mkT 26 [(0, .sl 2 na none (a.map E2)), (1, .sl 2 nb none (b.map E2)), (12, .int .i64 a.length), (13, .int .i64 i)]) [] fun r' H'' => r' = .bool (decide (a = b)) ∧ H'' = [])
      (Q := fun c => c = decide (a = b)) a b (by omega) (fun i hi h1 h2 => ?_) (fun h1 => ?_) rfl
    · refine does_of_run prOk (slices_Equal_Entry_l0_run G0 na _ nb _ _ _ _ ?_)
      simp only [ifK_iff, decide_eq_true_eq, decide_eq_false_iff_not, Int.toNat_natCast]
      rw [wrapI (by omega) (by omega)]
      refine ⟨fun _ => ⟨by omega, _, _, getX hi, by omega, _, _, getX (by omega), fun h4 => ?_, fun h4 => ?_⟩, fun h => by omega⟩
      · rw [eqAll_E2] at h4
        exact ⟨by rw [← h1 (by simpa using h4)], trivial⟩
      · rw [eqAll_E2] at h4
        exact h2 (by simpa using h4)
    · refine does_of_run prOk (slices_Equal_Entry_l0_run G0 na _ nb _ _ _ _ ?_)
      simp only [ifK_iff, decide_eq_true_eq, decide_eq_false_iff_not]
      exact ⟨fun h => by omega, fun _ => ⟨by rw [← h1], trivial⟩⟩

theorem ifK_ne0 {n : Int} {A B : Prop} (h : n ≠ 0 → A) (h0 : n = 0 → B) : ifK (n != 0) A B := by
  rw [ifK_iff]
  exact ⟨fun e => h (by simpa using e), fun e => h0 (by simpa using e)⟩

theorem good_Put (b : Bk) (nl : Bool) (hnl : nl = true → b = []) (e : En) : Good PG nG G0 f_book_Put [.agg [.sl 2 nl none (b.map E2)], .agg [.int .i64 e.1, .str e.2]] []
    (.tup [.agg [.sl 2 (decide ((putBk b e).2 ≠ 0)) none ((putBk b e).1.map E2)], .int .i64 (putBk b e).2]) [] := by
  refine good_of_run prOk (by kernel_rfl) (book_Put_run nl _ _ _ G0 _ ⟨_, good_bookCheck b nl, ?_⟩)
  have done : ∀ x : Bk × Int, x = putBk b e → AV.tup [.agg [.sl 2 (decide (x.2 ≠ 0)) none (x.1.map E2)], .int .i64 x.2] = .tup [.agg [.sl 2 (decide ((putBk b e).2 ≠ 0)) none ((putBk b e).1.map E2)], .int .i64 (putBk b e).2] := by rintro x rfl; rfl
  refine ifK_ne0 (fun h => ⟨?_, rfl⟩) fun h => ?_
  · rw [← done ([], checkB b) (by rw [putBk, if_pos h]), decide_eq_true h]; rfl
  · have hb := (checkB_ok h).1
    have gc := good_bookCheck (G0 := G0) (b ++ [e]) false
    rw [List.map_append] at gc
    refine ⟨_, _, good_CloneEntry b nl hnl (by omega), by simp only [List.length_map, List.length_cons, List.length_nil]; omega, rfl, ?_⟩
    have e0 : ∀ x : List AV, (nl && List.isEmpty [x]) = false := fun x => by cases nl <;> rfl
    rw [e0]
    refine ⟨_, gc, ifK_ne0 (fun h2 => ⟨?_, rfl⟩) fun h2 => ⟨?_, rfl⟩⟩
    · rw [← done ([], checkB (b ++ [e])) (by rw [putBk, if_neg (by simpa using h), if_pos h2]), decide_eq_true h2]; rfl
    · rw [← done (b ++ [e], 0) (by rw [putBk, if_neg (by simpa using h), if_neg (by simpa using h2)]), List.map_append]; rfl

def hdV (h : Hd) : AV := .agg [.int .i64 h.n, .str h.log, .str h.mp]

theorem texts_len (b : Bk) : (textsOf b).length = b.length := by simp [textsOf]

theorem good_Head (hG : GlobOk G0) (b : Bk) (nl : Bool) : Good PG nG G0 f_book_Head [.agg [.sl 2 nl none (b.map E2)]] [] (.tup [hdV (headOf b).1, .int .i64 (headOf b).2]) [] := by
  by_cases hc : checkB b = 0
  · refine good_of_run prOk (by kernel_rfl) (book_Head_run nl _ G0 _ ⟨_, _, _, good_Values b nl hc, ?_⟩)
    have hb := (checkB_ok hc).1
    refine ⟨_, _, good_Texts hG b nl (BkR_of_check hc) (by omega), _, _, good_Root' hG _ _, ?_⟩
    have h1 := (texts_good hc).1
    have e1 : rootOf (textsOf b) = tRoot (textsOf b) := by rw [rootOf, if_neg (by rw [texts_len]; omega)]
    rw [e1, h1]
    refine ⟨_, _, good_trieRoot hG _ _ (valsOf_nodup b), ?_⟩
    rw [mapRoot_code, valsOf_check hc, headOf_ok hc, List.length_map]
    exact ⟨rfl, rfl⟩
  · refine good_of_run prOk (by kernel_rfl) (book_Head_run nl _ G0 _ ⟨_, _, _, good_Values_bad b nl hc, ?_⟩)
    refine ifK_ne0 (fun h => ⟨?_, rfl⟩) fun h => absurd h hc
    rw [headOf, if_pos hc]; rfl

theorem good_HeadOf (hG : GlobOk G0) (b : Bk) (nl : Bool) : Good PG nG G0 f_greatsealref_HeadOf [.agg [.sl 2 nl none (b.map E2)]] [] (.tup [hdV (headOf b).1, .int .i64 (headOf b).2]) [] := by
  refine good_of_run prOk (by kernel_rfl) (greatsealref_HeadOf_run nl _ G0 _ ⟨_, good_CheckBook b nl, ?_⟩)
  refine ifK_ne0 (fun hc => ⟨?_, rfl⟩) fun hc => ?_
  · rw [headOf, if_pos hc]; rfl
  · have hb := (checkB_ok hc).1
    refine ⟨_, _, good_TextsOf hG b nl (BkR_of_check hc) (by omega), _, _, good_RootOf hG _ _, _, _, good_ValuesOf b nl (by omega), _, _, good_MapRoots hG _ _ (valsRev_check hc), (by decide), _, _, rfl, Int.le_refl _, _, rfl, ?_⟩
    have e1 : rootOf (textsOf b) = tRoot (textsOf b) := by rw [rootOf, if_neg (by rw [texts_len]; omega)]
    rw [e1, headOf_ok hc, List.length_map, mapRoot_ok (valsOf_check hc), valsRev_fM]
    exact ⟨rfl, rfl⟩

def bk3 : Bk := [(5, [120]), (9, [121]), (5, [122])]

theorem good_entries : Good PG nG G0 f_greatseallaw_entries [] [] (.agg [.sl 2 false none (bk3.map E2)]) [] := good_of_run prOk (by kernel_rfl) (greatseallaw_entries_run G0 _ ⟨rfl, rfl⟩)

theorem good_booked (hG : GlobOk G0) : Good PG nG G0 f_greatseallaw_booked [] [] (.bool true) [] := by
  have ge := good_entries (G0 := G0)
  have g1 := good_Head (G0 := G0) hG bk3 false
  have e1 : headOf bk3 = (⟨3, [78, 49, 49, 58, 78, 52, 58, 76, 53, 32, 120, 76, 57, 32, 121, 76, 53, 32, 122], (headOf bk3).1.mp⟩, 0) := by decide +kernel
  rw [e1] at g1
  have g2 := good_Values (G0 := G0) bk3 false (by decide +kernel)
  have g3 := good_Put (G0 := G0) bk3 false (fun h => by cases h) (16, [])
  have e3 : putBk bk3 (16, []) = ([], 5) := by decide +kernel
  rw [e3] at g3
  have g4 := good_Put (G0 := G0) bk3 false (fun h => by cases h) (1, [119])
  have e4 : putBk bk3 (1, [119]) = (bk3 ++ [(1, [119])], 0) := by decide +kernel
  rw [e4] at g4
  have g5 := good_bookCheck (G0 := G0) (bk3 ++ [(1, [119])]) false
  have e5 : checkB (bk3 ++ [(1, [119])]) = 0 := by decide +kernel
  rw [e5] at g5
  have g6 := good_Text (G0 := G0) hG (1, [119]) (by decide)
  have e6 : textE (1, [119]) = [49, 32, 119] := by decide +kernel
  rw [e6] at g6
  refine good_of_run prOk (by kernel_rfl) (greatseallaw_booked_run G0 _ ⟨_, _, ge, _, _, _, _, g1, _, _, ge, _, _, _, g2, _, _, ge, _, _, _, g3, _, _, ge, _, _, _, g4, ?_⟩)
  have m5 := mlookD_KV (valsOf bk3) 5
  have e7 : (mGet (valsOf bk3) 5).getD [] = [122] := by decide +kernel
  have e8 : ((valsOf bk3).map KV).length = 2 := by decide +kernel
  rw [e7] at m5
  rw [e8]
  exact ⟨_, _, m5, _, g5, by decide, _, _, rfl, _, g6, rfl, rfl⟩
end Go.Ab

namespace Go.Ab
open Go.Proofs
set_option maxRecDepth 100000

def an_greatseallaw_BookOne : FAnn := ⟨[], [(0, [5, 12, 13, 91], [])], none, []⟩
def an_greatseallaw_BookBegins : FAnn := ⟨[], [(0, [1, 3, 4, 5], [3])], none, []⟩
def an_greatseallaw_BookSays : FAnn := ⟨[(12, 2, ⟨[], [0], []⟩)], [], none, []⟩

theorem greatseallaw_BookOne_run (nlb0_0 : Bool) (b0_0 : List (List AV)) (nlc1_0 : Bool) (c1_0 : List (List AV)) (x2_0 : Int) (x2_1 : List UInt8) (G0 : Nat → Option Go.Obj) (R : AV → List (Option Blk) → Prop) (h :
  ∃ n0 s1 s2 n3,
  Good PG nG G0 f_book_Head [AV.agg [AV.sl (2 : Nat) nlb0_0 none b0_0]] [] (AV.tup [AV.agg [AV.int Go.IntKind.i64 n0, AV.str s1, AV.str s2], AV.int Go.IntKind.i64 n3]) [] ∧
    ∃ n4 s5 s6 n7,
      Good PG nG G0 f_book_Head [AV.agg [AV.sl (2 : Nat) nlc1_0 none c1_0]] [] (AV.tup [AV.agg [AV.int Go.IntKind.i64 n4, AV.str s5, AV.str s6], AV.int Go.IntKind.i64 n7]) [] ∧
        ∃ b8,
          Good PG nG G0 f_greatseallaw_booked [] [] (AV.bool b8) [] ∧
            ifK (!b8) (R (AV.bool false) [])
              (ifK (n3 == (0 : Int))
                (ifK (n7 == (0 : Int))
                  (∃ b9,
                    Good PG nG G0 f_slices_Equal_Entry [AV.sl (2 : Nat) nlb0_0 none b0_0, AV.sl (2 : Nat) nlc1_0 none c1_0] [] (AV.bool b9) [] ∧
                      ifK (!eqAll [AV.int Go.IntKind.i64 n0, AV.str s1, AV.str s2] [AV.int Go.IntKind.i64 n4, AV.str s5, AV.str s6] == b9) (R (AV.bool false) [])
                        (∃ b10 xs11 n12,
                          Good PG nG G0 f_book_Put [AV.agg [AV.sl (2 : Nat) nlb0_0 none b0_0], AV.agg [AV.int Go.IntKind.i64 x2_0, AV.str x2_1]] [] (AV.tup [AV.agg [AV.sl (2 : Nat) b10 none xs11], AV.int Go.IntKind.i64 n12]) [] ∧
                            ifK (n12 != (0 : Int)) (R (AV.bool true) [])
                              (∃ b13 xs14 n15,
                                Good PG nG G0 f_book_Values [AV.agg [AV.sl (2 : Nat) nlb0_0 none b0_0]] [] (AV.tup [AV.mp b13 xs14, AV.int Go.IntKind.i64 n15]) [] ∧
                                  ∃ b16 xs17 n18,
                                    Good PG nG G0 f_book_Values [AV.agg [AV.sl (2 : Nat) b10 none xs11]] [] (AV.tup [AV.mp b16 xs17, AV.int Go.IntKind.i64 n18]) [] ∧
                                      ifK (n15 != (0 : Int)) (R (AV.bool false) [])
                                        (ifK (n18 != (0 : Int)) (R (AV.bool false) [])
                                          (∃ s19 b20,
                                            mlookD Go.IntKind.i64 x2_0 (AV.str []) xs17 = some (AV.str s19, b20) ∧
                                              ifK (!s19 == x2_1) (R (AV.bool false) [])
                                                (ifK ((↑(List.length xs11) : Int) != Go.IntKind.wrap Go.IntKind.i64 ((↑(List.length b0_0) : Int) + (1 : Int))) (R (AV.bool false) [])
                                                  (Does PG nG G0 (fnOf PG f_greatseallaw_BookOne) (0 : Nat) (lp PG f_greatseallaw_BookOne (0 : Nat))
                                                    (mkT (121 : Nat) [((5 : Nat), AV.ref (0 : Nat) (0 : Nat)), ((12 : Nat), AV.mp b13 xs14), ((13 : Nat), AV.mp b16 xs17), ((91 : Nat), AV.iter (1 : Nat))])
                                                    [some (Blk.var [AV.int Go.IntKind.i64 x2_0, AV.str x2_1]), some (Blk.iter xs14 none)] R)))))))
                  (∃ b21 xs22 n23,
                    Good PG nG G0 f_book_Put [AV.agg [AV.sl (2 : Nat) nlb0_0 none b0_0], AV.agg [AV.int Go.IntKind.i64 x2_0, AV.str x2_1]] [] (AV.tup [AV.agg [AV.sl (2 : Nat) b21 none xs22], AV.int Go.IntKind.i64 n23]) [] ∧
                      ifK (n23 != (0 : Int)) (R (AV.bool true) [])
                        (∃ b24 xs25 n26,
                          Good PG nG G0 f_book_Values [AV.agg [AV.sl (2 : Nat) nlb0_0 none b0_0]] [] (AV.tup [AV.mp b24 xs25, AV.int Go.IntKind.i64 n26]) [] ∧
                            ∃ b27 xs28 n29,
                              Good PG nG G0 f_book_Values [AV.agg [AV.sl (2 : Nat) b21 none xs22]] [] (AV.tup [AV.mp b27 xs28, AV.int Go.IntKind.i64 n29]) [] ∧
                                ifK (n26 != (0 : Int)) (R (AV.bool false) [])
                                  (ifK (n29 != (0 : Int)) (R (AV.bool false) [])
                                    (∃ s30 b31,
                                      mlookD Go.IntKind.i64 x2_0 (AV.str []) xs28 = some (AV.str s30, b31) ∧
                                        ifK (!s30 == x2_1) (R (AV.bool false) [])
                                          (ifK ((↑(List.length xs22) : Int) != Go.IntKind.wrap Go.IntKind.i64 ((↑(List.length b0_0) : Int) + (1 : Int))) (R (AV.bool false) [])
                                            (Does PG nG G0 (fnOf PG f_greatseallaw_BookOne) (0 : Nat) (lp PG f_greatseallaw_BookOne (0 : Nat))
                                              (mkT (121 : Nat) [((5 : Nat), AV.ref (0 : Nat) (0 : Nat)), ((12 : Nat), AV.mp b24 xs25), ((13 : Nat), AV.mp b27 xs28), ((91 : Nat), AV.iter (1 : Nat))])
                                              [some (Blk.var [AV.int Go.IntKind.i64 x2_0, AV.str x2_1]), some (Blk.iter xs25 none)] R)))))))
                (∃ b32 xs33 n34,
                  Good PG nG G0 f_book_Put [AV.agg [AV.sl (2 : Nat) nlb0_0 none b0_0], AV.agg [AV.int Go.IntKind.i64 x2_0, AV.str x2_1]] [] (AV.tup [AV.agg [AV.sl (2 : Nat) b32 none xs33], AV.int Go.IntKind.i64 n34]) [] ∧
                    ifK (n34 != (0 : Int)) (R (AV.bool true) [])
                      (∃ b35 xs36 n37,
                        Good PG nG G0 f_book_Values [AV.agg [AV.sl (2 : Nat) nlb0_0 none b0_0]] [] (AV.tup [AV.mp b35 xs36, AV.int Go.IntKind.i64 n37]) [] ∧
                          ∃ b38 xs39 n40,
                            Good PG nG G0 f_book_Values [AV.agg [AV.sl (2 : Nat) b32 none xs33]] [] (AV.tup [AV.mp b38 xs39, AV.int Go.IntKind.i64 n40]) [] ∧
                              ifK (n37 != (0 : Int)) (R (AV.bool false) [])
                                (ifK (n40 != (0 : Int)) (R (AV.bool false) [])
                                  (∃ s41 b42,
                                    mlookD Go.IntKind.i64 x2_0 (AV.str []) xs39 = some (AV.str s41, b42) ∧
                                      ifK (!s41 == x2_1) (R (AV.bool false) [])
                                        (ifK ((↑(List.length xs33) : Int) != Go.IntKind.wrap Go.IntKind.i64 ((↑(List.length b0_0) : Int) + (1 : Int))) (R (AV.bool false) [])
                                          (Does PG nG G0 (fnOf PG f_greatseallaw_BookOne) (0 : Nat) (lp PG f_greatseallaw_BookOne (0 : Nat))
                                            (mkT (121 : Nat) [((5 : Nat), AV.ref (0 : Nat) (0 : Nat)), ((12 : Nat), AV.mp b35 xs36), ((13 : Nat), AV.mp b38 xs39), ((91 : Nat), AV.iter (1 : Nat))])
                                            [some (Blk.var [AV.int Go.IntKind.i64 x2_0, AV.str x2_1]), some (Blk.iter xs36 none)] R)))))))) :
  Hold (runF PG ty nG G0 an_greatseallaw_BookOne f_greatseallaw_BookOne [AV.agg [AV.sl (2 : Nat) nlb0_0 none b0_0], AV.agg [AV.sl (2 : Nat) nlc1_0 none c1_0], AV.agg [AV.int Go.IntKind.i64 x2_0, AV.str x2_1]] [] R) := kshow h (by kernel_rfl)

theorem greatseallaw_BookOne_l0_run (G0 : Nat → Option Obj) (b43 : Bool) (es44 : List (AV × AV)) (b45 : Bool) (es46 : List (AV × AV)) (n47 : Int) (s48 : List UInt8) (es49 : List (AV × AV)) (R : AV → List (Option Blk) → Prop) (h :
  (∀ (i : Nat) (p : AV × AV), es49[i]? = some p → ∃ n50 s51, p = (AV.int Go.IntKind.i64 n50, AV.str s51)) ∧
  (es49 = [] →
      ifK (decide ((↑(List.length es46) : Int) ≥ (↑(List.length es44) : Int))) (R (AV.bool (decide ((↑(List.length es46) : Int) ≤ Go.IntKind.wrap Go.IntKind.i64 ((↑(List.length es44) : Int) + (1 : Int))))) []) (R (AV.bool false) [])) ∧
    ∀ (i : Nat) (n : Int) (s : List UInt8),
      es49[i]? = some (AV.int Go.IntKind.i64 n, AV.str s) →
        ifK (n != n47)
          (∃ s52 b53,
            mlookD Go.IntKind.i64 n (AV.str []) es46 = some (AV.str s52, b53) ∧
              ifK (!s52 == s) (R (AV.bool false) [])
                (Does PG nG G0 (fnOf PG f_greatseallaw_BookOne) (0 : Nat) (lp PG f_greatseallaw_BookOne (0 : Nat))
                  (mkT (121 : Nat) [((5 : Nat), AV.ref (0 : Nat) (0 : Nat)), ((12 : Nat), AV.mp b43 es44), ((13 : Nat), AV.mp b45 es46), ((91 : Nat), AV.iter (1 : Nat))])
                  [some (Blk.var [AV.int Go.IntKind.i64 n47, AV.str s48]), some (Blk.iter (List.eraseIdx es49 i) none)] R))
          (Does PG nG G0 (fnOf PG f_greatseallaw_BookOne) (0 : Nat) (lp PG f_greatseallaw_BookOne (0 : Nat))
            (mkT (121 : Nat) [((5 : Nat), AV.ref (0 : Nat) (0 : Nat)), ((12 : Nat), AV.mp b43 es44), ((13 : Nat), AV.mp b45 es46), ((91 : Nat), AV.iter (1 : Nat))])
            [some (Blk.var [AV.int Go.IntKind.i64 n47, AV.str s48]), some (Blk.iter (List.eraseIdx es49 i) none)] R)) :
  Hold (runL PG ty nG G0 an_greatseallaw_BookOne f_greatseallaw_BookOne (0 : Nat) (0 : Nat) (mkT (121 : Nat) [((5 : Nat), AV.ref (0 : Nat) (0 : Nat)), ((12 : Nat), AV.mp b43 es44), ((13 : Nat), AV.mp b45 es46), ((91 : Nat), AV.iter (1 : Nat))])
  [some (Blk.var [AV.int Go.IntKind.i64 n47, AV.str s48]), some (Blk.iter es49 none)] R) := kshow h (by kernel_rfl)

theorem greatseallaw_BookBegins_run (nlb0_0 : Bool) (b0_0 : List (List AV)) (G0 : Nat → Option Go.Obj) (R : AV → List (Option Blk) → Prop) (h :
  ∃ b0,
  Good PG nG G0 f_greatseallaw_booked [] [] (AV.bool b0) [] ∧
    ifK (!b0) (∃ b1, Good PG nG G0 f_greatseallaw_booked [] [] (AV.bool b1) [] ∧ R (AV.bool b1) [])
      (∃ n2,
        Good PG nG G0 f_book_Check [AV.agg [AV.sl (2 : Nat) nlb0_0 none b0_0]] [] (AV.int Go.IntKind.i64 n2) [] ∧
          ifK (n2 != (0 : Int)) (∃ b3, Good PG nG G0 f_greatseallaw_booked [] [] (AV.bool b3) [] ∧ R (AV.bool b3) [])
            (Does PG nG G0 (fnOf PG f_greatseallaw_BookBegins) (0 : Nat) (lp PG f_greatseallaw_BookBegins (0 : Nat))
              (mkT (83 : Nat) [((1 : Nat), AV.ref (0 : Nat) (0 : Nat)), ((3 : Nat), AV.sl (3 : Nat) true (some (1 : Nat)) []), ((4 : Nat), AV.ref (2 : Nat) (0 : Nat)), ((5 : Nat), AV.int Go.IntKind.i64 (0 : Int))])
              [some (Blk.var [AV.sl (2 : Nat) nlb0_0 none b0_0]), some (Blk.grow (3 : Nat) (0 : Nat)), some (Blk.var [AV.sl (2 : Nat) true none []])] R))) :
  Hold (runF PG ty nG G0 an_greatseallaw_BookBegins f_greatseallaw_BookBegins [AV.agg [AV.sl (2 : Nat) nlb0_0 none b0_0]] [] R) := kshow h (by kernel_rfl)

theorem greatseallaw_BookBegins_l0_run (G0 : Nat → Option Obj) (b4 : Bool) (xs5 : List (List AV)) (n6 : Int) (b7 : Bool) (xs8 : List (List AV)) (m9 : Nat) (b10 : Bool) (xs11 : List (List AV)) (R : AV → List (Option Blk) → Prop) (h :
  ∃ n12 s13 s14 n15,
  Good PG nG G0 f_book_Head [AV.agg [AV.sl (2 : Nat) b10 none xs11]] [] (AV.tup [AV.agg [AV.int Go.IntKind.i64 n12, AV.str s13, AV.str s14], AV.int Go.IntKind.i64 n15]) [] ∧
    (0 : Int) ≤ (0 : Int) ∧
      (0 : Int) ≤ n6 ∧
        n6 ≤ (↑(List.length xs8) : Int) ∧
          ∃ n16 s17 s18 n19,
            Good PG nG G0 f_book_Head [AV.agg [AV.sl (2 : Nat) b7 none (List.drop (0 : Nat) (List.take (Int.toNat n6) xs8))]] [] (AV.tup [AV.agg [AV.int Go.IntKind.i64 n16, AV.str s17, AV.str s18], AV.int Go.IntKind.i64 n19]) [] ∧
              ifK (n15 != (0 : Int)) (R (AV.bool false) [])
                (ifK (n19 != (0 : Int)) (R (AV.bool false) [])
                  (ifK (!eqAll [AV.int Go.IntKind.i64 n12, AV.str s13, AV.str s14] [AV.int Go.IntKind.i64 n16, AV.str s17, AV.str s18]) (R (AV.bool false) [])
                    (ifK (n12 != n6) (R (AV.bool false) [])
                      (∃ b20,
                        Good PG nG G0 f_slices_Contains_Head [AV.sl (3 : Nat) b4 none xs5, AV.agg [AV.int Go.IntKind.i64 n12, AV.str s13, AV.str s14]] [] (AV.bool b20) [] ∧
                          ifK b20 (R (AV.bool false) [])
                            (∃ n21,
                              Good PG nG G0 f_note_Check [AV.agg [AV.int Go.IntKind.i64 n12, AV.str s13, AV.str s14]] [] (AV.int Go.IntKind.i64 n21) [] ∧
                                ifK (n21 != (0 : Int)) (R (AV.bool false) [])
                                  ((List.length xs5 + List.length [[AV.int Go.IntKind.i64 n12, AV.str s13, AV.str s14]]) * (40 : Nat) ≤ (140737488355328 : Nat) ∧
                                    List.length xs5 = m9 ∧
                                      ifK (n6 == (↑(List.length xs8) : Int)) (R (AV.bool true) [])
                                        ((0 : Int) ≤ n6 ∧
                                          ∃ n22 s23,
                                            xs8[Int.toNat n6]? = some [AV.int Go.IntKind.i64 n22, AV.str s23] ∧
                                              ∃ b24 xs25 n26,
                                                Good PG nG G0 f_book_Put [AV.agg [AV.sl (2 : Nat) b10 none xs11], AV.agg [AV.int Go.IntKind.i64 n22, AV.str s23]] []
                                                    (AV.tup [AV.agg [AV.sl (2 : Nat) b24 none xs25], AV.int Go.IntKind.i64 n26]) [] ∧
                                                  ifK (n26 != (0 : Int)) (R (AV.bool false) [])
                                                    (Does PG nG G0 (fnOf PG f_greatseallaw_BookBegins) (0 : Nat) (lp PG f_greatseallaw_BookBegins (0 : Nat))
                                                      (mkT (83 : Nat)
                                                        [((1 : Nat), AV.ref (0 : Nat) (0 : Nat)),
                                                          ((3 : Nat),
                                                            AV.sl (3 : Nat) (b4 && List.isEmpty [[AV.int Go.IntKind.i64 n12, AV.str s13, AV.str s14]]) (some (1 : Nat)) (xs5 ++ [[AV.int Go.IntKind.i64 n12, AV.str s13, AV.str s14]])),
                                                          ((4 : Nat), AV.ref (2 : Nat) (0 : Nat)), ((5 : Nat), AV.int Go.IntKind.i64 (Go.IntKind.wrap Go.IntKind.i64 (n6 + (1 : Int))))])
                                                      [some (Blk.var [AV.sl (2 : Nat) b7 none xs8]), some (Blk.grow (3 : Nat) (m9 + List.length [[AV.int Go.IntKind.i64 n12, AV.str s13, AV.str s14]])),
                                                        some (Blk.var [AV.sl (2 : Nat) b24 none xs25])]
                                                      R))))))))) :
  Hold (runL PG ty nG G0 an_greatseallaw_BookBegins f_greatseallaw_BookBegins (0 : Nat) (0 : Nat)
  (mkT (83 : Nat) [((1 : Nat), AV.ref (0 : Nat) (0 : Nat)), ((3 : Nat), AV.sl (3 : Nat) b4 (some (1 : Nat)) xs5), ((4 : Nat), AV.ref (2 : Nat) (0 : Nat)), ((5 : Nat), AV.int Go.IntKind.i64 n6)])
  [some (Blk.var [AV.sl (2 : Nat) b7 none xs8]), some (Blk.grow (3 : Nat) m9), some (Blk.var [AV.sl (2 : Nat) b10 none xs11])] R) := kshow h (by kernel_rfl)

theorem greatseallaw_BookSays_run (nlb0_0 : Bool) (b0_0 : List (List AV)) (x1_0 : Int) (x1_1 : List UInt8) (G0 : Nat → Option Go.Obj) (R : AV → List (Option Blk) → Prop) (h :
  ∃ b0 xs1 n2,
  Good PG nG G0 f_book_Values [AV.agg [AV.sl (2 : Nat) nlb0_0 none b0_0]] [] (AV.tup [AV.mp b0 xs1, AV.int Go.IntKind.i64 n2]) [] ∧
    ∃ b3 xs4 n5,
      Good PG nG G0 f_book_Put [AV.agg [AV.sl (2 : Nat) nlb0_0 none b0_0], AV.agg [AV.int Go.IntKind.i64 x1_0, AV.str x1_1]] [] (AV.tup [AV.agg [AV.sl (2 : Nat) b3 none xs4], AV.int Go.IntKind.i64 n5]) [] ∧
        ∃ n6 s7 s8 n9,
          Good PG nG G0 f_book_Head [AV.agg [AV.sl (2 : Nat) nlb0_0 none b0_0]] [] (AV.tup [AV.agg [AV.int Go.IntKind.i64 n6, AV.str s7, AV.str s8], AV.int Go.IntKind.i64 n9]) [] ∧
            ∃ n10,
              Good PG nG G0 f_greatsealref_CheckBook [AV.agg [AV.sl (2 : Nat) nlb0_0 none b0_0]] [] (AV.int Go.IntKind.i64 n10) [] ∧
                ∃ n11 s12 s13 n14,
                  Good PG nG G0 f_greatsealref_HeadOf [AV.agg [AV.sl (2 : Nat) nlb0_0 none b0_0]] [] (AV.tup [AV.agg [AV.int Go.IntKind.i64 n11, AV.str s12, AV.str s13], AV.int Go.IntKind.i64 n14]) [] ∧
                    ∃ b15,
                      Good PG nG G0 f_greatseallaw_booked [] [] (AV.bool b15) [] ∧
                        ifK (!b15) (R (AV.bool false) [])
                          (∃ n16,
                            Good PG nG G0 f_book_Check [AV.agg [AV.sl (2 : Nat) nlb0_0 none b0_0]] [] (AV.int Go.IntKind.i64 n16) [] ∧
                              ifK (n16 != n10) (R (AV.bool false) [])
                                (∃ s17,
                                  Good PG nG G0 f_book_Text [AV.agg [AV.int Go.IntKind.i64 x1_0, AV.str x1_1]] [] (AV.str s17) [] ∧
                                    ∃ s18,
                                      Good PG nG G0 f_greatsealref_TextOf [AV.agg [AV.int Go.IntKind.i64 x1_0, AV.str x1_1]] [] (AV.str s18) [] ∧
                                        ifK (!s17 == s18) (R (AV.bool false) [])
                                          (∃ b19 xs20,
                                            Good PG nG G0 f_book_Texts [AV.agg [AV.sl (2 : Nat) nlb0_0 none b0_0]] [] (AV.sl (1 : Nat) b19 none xs20) [] ∧
                                              ∃ b21 xs22,
                                                Good PG nG G0 f_greatsealref_TextsOf [AV.agg [AV.sl (2 : Nat) nlb0_0 none b0_0]] [] (AV.sl (1 : Nat) b21 none xs22) [] ∧
                                                  ∃ b23,
                                                    Good PG nG G0 f_slices_Equal_string [AV.sl (1 : Nat) b19 none xs20, AV.sl (1 : Nat) b21 none xs22] [] (AV.bool b23) [] ∧
                                                      ifK (!b23) (R (AV.bool false) [])
                                                        (ifK (n9 != n10) (R (AV.bool false) [])
                                                          (ifK (!eqAll [AV.int Go.IntKind.i64 n6, AV.str s7, AV.str s8] [AV.int Go.IntKind.i64 n11, AV.str s12, AV.str s13]) (R (AV.bool false) [])
                                                            (ifK (n2 != n10) (R (AV.bool false) [])
                                                              (ifK (n10 != (0 : Int))
                                                                (ifK (n5 == n10) (R (AV.bool (Go.IntKind.wrap Go.IntKind.i64 ((↑(List.length xs1) : Int) + (↑(List.length xs4) : Int)) == (0 : Int))) []) (R (AV.bool false) []))
                                                                (∃ b24 xs25,
                                                                  Good PG nG G0 f_greatsealref_ValuesOf [AV.agg [AV.sl (2 : Nat) nlb0_0 none b0_0]] [] (AV.mp b24 xs25) [] ∧
                                                                    ∃ b26,
                                                                      Good PG nG G0 f_maps_Equal_string [AV.mp b0 xs1, AV.mp b24 xs25] [] (AV.bool b26) [] ∧
                                                                        ifK (!b26) (R (AV.bool false) [])
                                                                          (∃ b27 xs28,
                                                                            Good PG nG G0 f_slices_Clone_Entry [AV.sl (2 : Nat) nlb0_0 none b0_0] [] (AV.sl (2 : Nat) b27 (some (0 : Nat)) xs28) [some (Blk.grow (2 : Nat) (List.length xs28))] ∧
                                                                              (List.length xs28 + List.length [[AV.int Go.IntKind.i64 x1_0, AV.str x1_1]]) * (24 : Nat) ≤ (140737488355328 : Nat) ∧
                                                                                List.length xs28 = List.length xs28 ∧
                                                                                  ∃ n29,
                                                                                    Good PG nG G0 f_greatsealref_CheckBook
                                                                                        [AV.agg [AV.sl (2 : Nat) (b27 && List.isEmpty [[AV.int Go.IntKind.i64 x1_0, AV.str x1_1]]) none (xs28 ++ [[AV.int Go.IntKind.i64 x1_0, AV.str x1_1]])]]
                                                                                        [] (AV.int Go.IntKind.i64 n29) [] ∧
                                                                                      ifK (n29 != (0 : Int)) (ifK (n5 == n29) (R (AV.bool ((↑(List.length xs4) : Int) == (0 : Int))) []) (R (AV.bool false) []))
                                                                                        (ifK (n5 == (0 : Int))
                                                                                          (∃ b30,
                                                                                            Good PG nG G0 f_slices_Equal_Entry
                                                                                                [AV.sl (2 : Nat) b3 none xs4,
                                                                                                  AV.sl (2 : Nat) (b27 && List.isEmpty [[AV.int Go.IntKind.i64 x1_0, AV.str x1_1]]) none (xs28 ++ [[AV.int Go.IntKind.i64 x1_0, AV.str x1_1]])]
                                                                                                [] (AV.bool b30) [] ∧
                                                                                              R (AV.bool b30) [])
                                                                                          (R (AV.bool false) [])))))))))))) :
  Hold (runF PG ty nG G0 an_greatseallaw_BookSays f_greatseallaw_BookSays [AV.agg [AV.sl (2 : Nat) nlb0_0 none b0_0], AV.agg [AV.int Go.IntKind.i64 x1_0, AV.str x1_1]] [] R) := kshow h (by kernel_rfl)

end Go.Ab

namespace Go.Ab
open Go.Proofs Go.Gs
variable {G0 : Nat → Option Obj}

theorem eqAll_hd (h k : Hd) : eqAll [.int .i64 h.n, .str h.log, .str h.mp] [.int .i64 k.n, .str k.log, .str k.mp] = decide (h = k) := by
  obtain ⟨a, b, c⟩ := h
  obtain ⟨d, e, f⟩ := k
  by_cases h1 : a = d <;> by_cases h2 : b = e <;> by_cases h3 : c = f <;> simp [eqAll, eqC, h1, h2, h3]

theorem putBk_bad {b : Bk} {e : En} (h : checkB b ≠ 0) : putBk b e = ([], checkB b) := by rw [putBk, if_pos h]
theorem putBk_full {b : Bk} {e : En} (h : checkB b = 0) (h2 : checkB (b ++ [e]) ≠ 0) : putBk b e = ([], checkB (b ++ [e])) := by rw [putBk, if_neg (by simpa using h), if_pos h2]
theorem putBk_ok {b : Bk} {e : En} (h : checkB b = 0) (h2 : checkB (b ++ [e]) = 0) : putBk b e = (b ++ [e], 0) := by rw [putBk, if_neg (by simpa using h), if_neg (by simpa using h2)]

theorem good_BookSays (hG : GlobOk G0) (b : Bk) (nl : Bool) (hnl : nl = true → b = []) (hb : BkR b) (hl : b.length * 24 ≤ 140737488355328) (x : En) (hx : (-9223372036854775808 ≤ x.1 ∧ x.1 ≤ 9223372036854775807) ∧ x.2.length ≤ 140737488351232) :
    Good PG nG G0 f_greatseallaw_BookSays [.agg [.sl 2 nl none (b.map E2)], .agg [.int .i64 x.1, .str x.2]] [] (.bool true) [] := by
  suffices main : ∀ R : AV → List (Option Blk) → Prop, R (.bool true) [] → Hold (runF PG ty nG G0 an_greatseallaw_BookSays f_greatseallaw_BookSays [.agg [.sl 2 nl none (b.map E2)], .agg [.int .i64 x.1, .str x.2]] [] R) from
    good_of_run prOk (by kernel_rfl) (main _ ⟨rfl, rfl⟩)
  intro R hR
  have gh := good_Head (G0 := G0) hG b nl
  rw [show (headOf b).2 = checkB b from headOf_code b] at gh
  have gh2 := good_HeadOf (G0 := G0) hG b nl
  rw [show (headOf b).2 = checkB b from headOf_code b] at gh2
  have bk := good_booked (G0 := G0) hG
  have gc := good_bookCheck (G0 := G0) b nl
  have gc2 := good_CheckBook (G0 := G0) b nl
  have gt1 := good_Text (G0 := G0) hG x hx
  have gt2 := good_TextOf (G0 := G0) hG x hx
  have gx1 := good_Texts (G0 := G0) hG b nl hb hl
  have gx2 := good_TextsOf (G0 := G0) hG b nl hb hl
  have gq := good_Equal (G0 := G0) (textsOf b) (textsOf b) b.isEmpty false (by rw [texts_len]; omega)
  rw [beq_self_eq_true] at gq
  have gp := good_Put (G0 := G0) b nl hnl x
  have z1 : (checkB b != checkB b) = false := by simp
  have z2 : (!textE x == textE x) = false := by simp
  by_cases hc : checkB b = 0
  · refine greatseallaw_BookSays_run nl _ _ _ G0 R ⟨_, _, _, good_Values b nl hc, _, _, _, gp, _, _, _, _, gh, _, gc2, _, _, _, _, gh2, _, bk, ?_⟩
    simp only [Bool.not_true, ifF]
    refine ⟨_, gc, ?_⟩
    rw [z1, ifF]
    refine ⟨_, gt1, _, gt2, ?_⟩
    rw [z2, ifF]
    refine ⟨_, _, gx1, _, _, gx2, _, gq, ?_⟩
    rw [eqAll_hd]
    simp only [hc, decide_true, Bool.not_true, bne_self_eq_false, ifF]
    have gm := good_mapsEqual (G0 := G0) (valsOf b) (valsRev b) false false
    rw [vals_eq] at gm
    refine ⟨_, _, good_ValuesOf b nl (by have := (checkB_ok hc).1; omega), _, gm, ?_⟩
    simp only [Bool.not_true, ifF]
    have hb24 := (checkB_ok hc).1
    have e0 : ∀ x : List AV, (nl && List.isEmpty [x]) = false := fun x => by cases nl <;> rfl
    have gc3 := good_CheckBook (G0 := G0) (b ++ [x]) false
    rw [List.map_append] at gc3
    refine ⟨_, _, good_CloneEntry b nl hnl hl, by simp only [List.length_map, List.length_cons, List.length_nil]; omega, trivial, checkB (b ++ [x]), ?_⟩
    rw [e0]
    refine ⟨gc3, ifK_ne0 (fun h2 => ?_) fun h2 => ?_⟩
    · rw [putBk_full hc h2]
      simp only [beq_self_eq_true, ifT]
      exact hR
    · rw [putBk_ok hc h2]
      simp only [beq_self_eq_true, ifT]
      have ge := good_EqualEntry (G0 := G0) (b ++ [x]) (b ++ [x]) false false (by simp only [List.length_append, List.length_cons, List.length_nil]; omega)
      rw [decide_eq_true rfl, List.map_append] at ge
      rw [List.map_append]
      exact ⟨_, ge, hR⟩
  · refine greatseallaw_BookSays_run nl _ _ _ G0 R ⟨_, _, _, good_Values_bad b nl hc, _, _, _, gp, _, _, _, _, gh, _, gc2, _, _, _, _, gh2, _, bk, ?_⟩
    simp only [Bool.not_true, ifF]
    refine ⟨_, gc, ?_⟩
    rw [z1, ifF]
    refine ⟨_, gt1, _, gt2, ?_⟩
    rw [z2, ifF]
    refine ⟨_, _, gx1, _, _, gx2, _, gq, ?_⟩
    rw [eqAll_hd]
    simp only [decide_true, Bool.not_true, ifF]
    refine ifK_ne0 (fun _ => ?_) fun h => absurd h hc
    rw [putBk_bad hc]
    simp only [beq_self_eq_true, ifT]
    exact hR

theorem good_BookOne (hG : GlobOk G0) (b c : Bk) (nl nc : Bool) (hnl : nl = true → b = []) (x : En) :
    Good PG nG G0 f_greatseallaw_BookOne [.agg [.sl 2 nl none (b.map E2)], .agg [.sl 2 nc none (c.map E2)], .agg [.int .i64 x.1, .str x.2]] [] (.bool true) [] := by
  suffices main : ∀ R : AV → List (Option Blk) → Prop, R (.bool true) [] → Hold (runF PG ty nG G0 an_greatseallaw_BookOne f_greatseallaw_BookOne [.agg [.sl 2 nl none (b.map E2)], .agg [.sl 2 nc none (c.map E2)], .agg [.int .i64 x.1, .str x.2]] [] R) from
    good_of_run prOk (by kernel_rfl) (main _ ⟨rfl, rfl⟩)
  intro R hR
  have gh := good_Head (G0 := G0) hG b nl
  rw [show (headOf b).2 = checkB b from headOf_code b] at gh
  have gh2 := good_Head (G0 := G0) hG c nc
  rw [show (headOf c).2 = checkB c from headOf_code c] at gh2
  have bk := good_booked (G0 := G0) hG
  have gp := good_Put (G0 := G0) b nl hnl x
  refine greatseallaw_BookOne_run nl _ nc _ _ _ G0 R ⟨_, _, _, _, gh, _, _, _, _, gh2, _, bk, ?_⟩
  simp only [Bool.not_true, ifF]
  -- the loop
  have loop : checkB b = 0 → ∀ (n : Nat) (es : Mp), es.length ≤ n → (∀ p ∈ es, mGet (valsOf b) p.1 = some p.2) →
      Does PG nG G0 (fnOf PG f_greatseallaw_BookOne) 0 (lp PG f_greatseallaw_BookOne 0)
        (mkT 121 [(5, .ref 0 0), (12, .mp false ((valsOf b).map KV)), (13, .mp false ((valsOf (b ++ [x])).map KV)), (91, .iter 1)]) [some (.var [.int .i64 x.1, .str x.2]), some (.iter (es.map KV) none)] R := by
    intro hc n
    have hb24 := (checkB_ok hc).1
    have hend : ifK (decide ((((valsOf (b ++ [x])).map KV).length : Int) ≥ (((valsOf b).map KV).length : Nat)))
        (R (.bool (decide ((((valsOf (b ++ [x])).map KV).length : Int) ≤ IntKind.i64.wrap ((((valsOf b).map KV).length : Nat) + 1)))) []) (R (.bool false) []) := by
      have h1 := valsOf_len b
      simp only [List.length_map]
      rw [wrap64 (by omega) (by omega), valsOf_snoc, mPut_len]
      have e1 : decide (((if (mGet (valsOf b) x.1).isSome then (valsOf b).length else (valsOf b).length + 1 : Nat) : Int) ≥ ((valsOf b).length : Nat)) = true := decide_eq_true (by split <;> omega)
      have e2 : decide (((if (mGet (valsOf b) x.1).isSome then (valsOf b).length else (valsOf b).length + 1 : Nat) : Int) ≤ ((valsOf b).length : Nat) + 1) = true := decide_eq_true (by split <;> omega)
      rw [e1, e2, ifT]
      exact hR
    induction n with
    | zero =>
      intro es hn _
      obtain rfl : es = [] := List.eq_nil_of_length_eq_zero (by omega)
      refine does_of_run prOk (greatseallaw_BookOne_l0_run G0 _ _ _ _ _ _ _ R ⟨fun i p h => by simp at h, fun _ => hend, fun i n s h => by simp at h⟩)
    | succ n ih =>
      intro es hn hes
      refine does_of_run prOk (greatseallaw_BookOne_l0_run G0 _ _ _ _ _ _ _ R ⟨KV_is es, fun _ => hend, fun i k s h => ?_⟩)
      have h := KV_get h
      have hm := List.mem_of_getElem? h
      have nxt := ih (es.eraseIdx i) (by have := len_erase h; omega) fun p hp => hes p (List.mem_of_mem_eraseIdx hp)
      rw [KV_erase]
      rw [ifK_iff]
      refine ⟨fun hk => ⟨_, _, mlookD_KV _ _, ?_⟩, fun _ => nxt⟩
      have hk : k ≠ x.1 := by simpa using hk
      have : mGet (valsOf (b ++ [x])) k = some s := by
        rw [valsOf_snoc, mGet_put, if_neg hk]
        exact hes _ hm
      rw [this]
      simp only [Option.getD_some, beq_self_eq_true, Bool.not_true, ifF]
      exact nxt
  have last : ∃ b10 xs11 n12,
      Good PG nG G0 f_book_Put [.agg [.sl 2 nl none (b.map E2)], .agg [.int .i64 x.1, .str x.2]] [] (.tup [.agg [.sl 2 b10 none xs11], .int .i64 n12]) [] ∧
        ifK (n12 != (0 : Int)) (R (.bool true) [])
          (∃ b13 xs14 n15, Good PG nG G0 f_book_Values [.agg [.sl 2 nl none (b.map E2)]] [] (.tup [.mp b13 xs14, .int .i64 n15]) [] ∧
            ∃ b16 xs17 n18, Good PG nG G0 f_book_Values [.agg [.sl 2 b10 none xs11]] [] (.tup [.mp b16 xs17, .int .i64 n18]) [] ∧
              ifK (n15 != (0 : Int)) (R (.bool false) [])
                (ifK (n18 != (0 : Int)) (R (.bool false) [])
                  (∃ s19 b20, mlookD .i64 x.1 (.str []) xs17 = some (.str s19, b20) ∧
                    ifK (!s19 == x.2) (R (.bool false) [])
                      (ifK (((List.length xs11 : Nat) : Int) != IntKind.i64.wrap (((List.length (b.map E2) : Nat) : Int) + 1)) (R (.bool false) [])
                        (Does PG nG G0 (fnOf PG f_greatseallaw_BookOne) 0 (lp PG f_greatseallaw_BookOne 0)
                          (mkT 121 [(5, .ref 0 0), (12, .mp b13 xs14), (13, .mp b16 xs17), (91, .iter 1)])
                          [some (.var [.int .i64 x.1, .str x.2]), some (.iter xs14 none)] R))))) := by
    refine ⟨_, _, _, gp, ifK_ne0 (fun _ => hR) fun h0 => ?_⟩
    by_cases hc : checkB b = 0
    · by_cases h2 : checkB (b ++ [x]) = 0
      · rw [putBk_ok hc h2]
        have hb24 := (checkB_ok hc).1
        refine ⟨_, _, _, good_Values b nl hc, _, _, _, good_Values (b ++ [x]) _ h2, ?_⟩
        simp only [bne_self_eq_false, ifF]
        refine ⟨_, _, mlookD_KV _ _, ?_⟩
        have e1 : mGet (valsOf (b ++ [x])) x.1 = some x.2 := by rw [valsOf_snoc, mGet_put, if_pos rfl]
        rw [e1]
        simp only [Option.getD_some, beq_self_eq_true, Bool.not_true, ifF, List.length_map]
        rw [wrap64 (by omega) (by omega), List.length_append]
        have e2 : (((b.length + [x].length : Nat) : Int) != (b.length : Int) + 1) = false := by simp
        rw [e2, ifF]
        exact loop hc _ _ (Nat.le_refl _) fun p hp => mGet_of_mem (valsOf_nodup b) hp
      · rw [putBk_full hc h2] at h0; exact absurd h0 h2
    · rw [putBk_bad hc] at h0; exact absurd h0 hc
  rw [ifK_iff]
  refine ⟨fun h1 => ?_, fun _ => last⟩
  have h1 : checkB b = 0 := by simpa using h1
  rw [ifK_iff]
  refine ⟨fun h2 => ?_, fun _ => last⟩
  have h2 : checkB c = 0 := by simpa using h2
  refine ⟨_, good_EqualEntry b c nl nc (by have := (checkB_ok h1).1; omega), ?_⟩
  rw [eqAll_hd]
  have : decide ((headOf b).1 = (headOf c).1) = decide (b = c) := by
    have := headOf_inj h1 h2
    have e3 : headOf b = headOf c ↔ (headOf b).1 = (headOf c).1 := ⟨fun h => by rw [h], fun h => Prod.ext h (by rw [headOf_code, headOf_code, h1, h2])⟩
    rw [e3] at this
    exact decide_eq_decide.2 this
  rw [this]
  simp only [beq_self_eq_true, Bool.not_true, ifF]
  exact last
end Go.Ab

namespace Go.Ab
open Go.Proofs
set_option maxRecDepth 100000

def an_note_Check : FAnn := ⟨[], [], none, []⟩
def an_greatsealref_CheckHead : FAnn := ⟨[], [], none, []⟩
def an_slices_Contains_Head : FAnn := ⟨[], [], none, []⟩
def an_slices_Index_Head : FAnn := ⟨[], [(0, [0, 3, 7, 8], [])], none, []⟩
def an_show_Entry : FAnn := ⟨[], [], none, []⟩
def an_show_Growth : FAnn := ⟨[], [], none, []⟩
def an_show_Value : FAnn := ⟨[], [], none, []⟩
def an_greatseallaw_shown : FAnn := ⟨[], [], none, []⟩
def an_meet_Same : FAnn := ⟨[], [], none, []⟩
def an_greatsealref_Meets : FAnn := ⟨[], [], none, []⟩
def an_greatseallaw_together : FAnn := ⟨[], [], none, []⟩
def an_client_Follow : FAnn := ⟨[], [], none, []⟩
def an_greatsealref_Follows : FAnn := ⟨[], [], none, []⟩
def an_client_Sees : FAnn := ⟨[], [], none, []⟩
def an_client_Finds : FAnn := ⟨[], [], none, []⟩
def an_greatseallaw_followed : FAnn := ⟨[], [], none, []⟩

theorem note_Check_run (h0_0 : Int) (h0_1 : List UInt8) (h0_2 : List UInt8) (G0 : Nat → Option Go.Obj) (R : AV → List (Option Blk) → Prop) (h :
  ifK (decide (h0_0 < (0 : Int))) (R (AV.int Go.IntKind.i64 (3 : Int)) [])
  (ifK (decide (h0_0 > (24 : Int))) (R (AV.int Go.IntKind.i64 (3 : Int)) [])
    (ifK (decide ((↑(List.length h0_1) : Int) > (20000 : Int))) (R (AV.int Go.IntKind.i64 (2 : Int)) [])
      (ifK (decide ((↑(List.length h0_2) : Int) > (20000 : Int))) (R (AV.int Go.IntKind.i64 (2 : Int)) []) (R (AV.int Go.IntKind.i64 (0 : Int)) []))))) :
  Hold (runF PG ty nG G0 an_note_Check f_note_Check [AV.agg [AV.int Go.IntKind.i64 h0_0, AV.str h0_1, AV.str h0_2]] [] R) := kshow h (by kernel_rfl)

theorem greatsealref_CheckHead_run (h0_0 : Int) (h0_1 : List UInt8) (h0_2 : List UInt8) (G0 : Nat → Option Go.Obj) (R : AV → List (Option Blk) → Prop) (h :
  ∃ b0,
  Good PG nG G0 f_greatsealref_in [AV.int Go.IntKind.i64 h0_0, AV.int Go.IntKind.i64 (0 : Int), AV.int Go.IntKind.i64 (24 : Int)] [] (AV.bool b0) [] ∧
    ifK (!b0) (R (AV.int Go.IntKind.i64 (3 : Int)) [])
      (ifK (decide ((if (↑(List.length h0_2) : Int) > (↑(List.length h0_1) : Int) then (↑(List.length h0_2) : Int) else (↑(List.length h0_1) : Int)) > (20000 : Int))) (R (AV.int Go.IntKind.i64 (2 : Int)) [])
        (R (AV.int Go.IntKind.i64 (0 : Int)) []))) :
  Hold (runF PG ty nG G0 an_greatsealref_CheckHead f_greatsealref_CheckHead [AV.agg [AV.int Go.IntKind.i64 h0_0, AV.str h0_1, AV.str h0_2]] [] R) := kshow h (by kernel_rfl)

theorem slices_Contains_Head_run (nls0 : Bool) (s0 : List (List AV)) (v1_0 : Int) (v1_1 : List UInt8) (v1_2 : List UInt8) (G0 : Nat → Option Go.Obj) (R : AV → List (Option Blk) → Prop) (h :
  ∃ n0, Good PG nG G0 f_slices_Index_Head [AV.sl (3 : Nat) nls0 none s0, AV.agg [AV.int Go.IntKind.i64 v1_0, AV.str v1_1, AV.str v1_2]] [] (AV.int Go.IntKind.i64 n0) [] ∧ R (AV.bool (decide (n0 ≥ (0 : Int)))) []) :
  Hold (runF PG ty nG G0 an_slices_Contains_Head f_slices_Contains_Head [AV.sl (3 : Nat) nls0 none s0, AV.agg [AV.int Go.IntKind.i64 v1_0, AV.str v1_1, AV.str v1_2]] [] R) := kshow h (by kernel_rfl)

theorem slices_Index_Head_run (nls0 : Bool) (s0 : List (List AV)) (v1_0 : Int) (v1_1 : List UInt8) (v1_2 : List UInt8) (G0 : Nat → Option Go.Obj) (R : AV → List (Option Blk) → Prop) (h :
  Does PG nG G0 (fnOf PG f_slices_Index_Head) (0 : Nat) (lp PG f_slices_Index_Head (0 : Nat))
  (mkT (19 : Nat) [((0 : Nat), AV.sl (3 : Nat) nls0 none s0), ((3 : Nat), AV.ref (0 : Nat) (0 : Nat)), ((7 : Nat), AV.int Go.IntKind.i64 (↑(List.length s0) : Int)), ((8 : Nat), AV.int Go.IntKind.i64 (0 : Int))])
  [some (Blk.var [AV.int Go.IntKind.i64 v1_0, AV.str v1_1, AV.str v1_2])] R) :
  Hold (runF PG ty nG G0 an_slices_Index_Head f_slices_Index_Head [AV.sl (3 : Nat) nls0 none s0, AV.agg [AV.int Go.IntKind.i64 v1_0, AV.str v1_1, AV.str v1_2]] [] R) := kshow h (by kernel_rfl)

theorem slices_Index_Head_l0_run (G0 : Nat → Option Obj) (b0 : Bool) (xs1 : List (List AV)) (n2 : Int) (n3 : Int) (n4 : Int) (s5 : List UInt8) (s6 : List UInt8) (R : AV → List (Option Blk) → Prop) (h :
  ifK (decide (n3 < n2))
  ((0 : Int) ≤ n3 ∧
    ∃ n7 s8 s9,
      xs1[Int.toNat n3]? = some [AV.int Go.IntKind.i64 n7, AV.str s8, AV.str s9] ∧
        ifK (eqAll [AV.int Go.IntKind.i64 n4, AV.str s5, AV.str s6] [AV.int Go.IntKind.i64 n7, AV.str s8, AV.str s9]) (R (AV.int Go.IntKind.i64 n3) [])
          (Does PG nG G0 (fnOf PG f_slices_Index_Head) (0 : Nat) (lp PG f_slices_Index_Head (0 : Nat))
            (mkT (19 : Nat) [((0 : Nat), AV.sl (3 : Nat) b0 none xs1), ((3 : Nat), AV.ref (0 : Nat) (0 : Nat)), ((7 : Nat), AV.int Go.IntKind.i64 n2), ((8 : Nat), AV.int Go.IntKind.i64 (Go.IntKind.wrap Go.IntKind.i64 (n3 + (1 : Int))))])
            [some (Blk.var [AV.int Go.IntKind.i64 n4, AV.str s5, AV.str s6])] R))
  (R (AV.int Go.IntKind.i64 (-1 : Int)) [])) :
  Hold (runL PG ty nG G0 an_slices_Index_Head f_slices_Index_Head (0 : Nat) (0 : Nat)
  (mkT (19 : Nat) [((0 : Nat), AV.sl (3 : Nat) b0 none xs1), ((3 : Nat), AV.ref (0 : Nat) (0 : Nat)), ((7 : Nat), AV.int Go.IntKind.i64 n2), ((8 : Nat), AV.int Go.IntKind.i64 n3)])
  [some (Blk.var [AV.int Go.IntKind.i64 n4, AV.str s5, AV.str s6])] R) := kshow h (by kernel_rfl)

theorem show_Entry_run (nlb0_0 : Bool) (b0_0 : List (List AV)) (i1 : Int) (G0 : Nat → Option Go.Obj) (R : AV → List (Option Blk) → Prop) (h :
  ∃ n0,
  Good PG nG G0 f_book_Check [AV.agg [AV.sl (2 : Nat) nlb0_0 none b0_0]] [] (AV.int Go.IntKind.i64 n0) [] ∧
    ifK (n0 != (0 : Int)) (R (AV.tup [AV.agg [AV.int Go.IntKind.i64 (0 : Int), AV.str []], AV.sl (2 : Nat) true none [], AV.int Go.IntKind.i64 n0]) [])
      (∃ b1 xs2,
        Good PG nG G0 f_book_Texts [AV.agg [AV.sl (2 : Nat) nlb0_0 none b0_0]] [] (AV.sl (1 : Nat) b1 none xs2) [] ∧
          ∃ b3 xs4 n5,
            Good PG nG G0 f_path_Of [AV.sl (1 : Nat) b1 none xs2, AV.int Go.IntKind.i64 i1] [] (AV.tup [AV.sl (2 : Nat) b3 none xs4, AV.int Go.IntKind.i64 n5]) [] ∧
              ifK (n5 != (0 : Int)) (R (AV.tup [AV.agg [AV.int Go.IntKind.i64 (0 : Int), AV.str []], AV.sl (2 : Nat) true none [], AV.int Go.IntKind.i64 n5]) [])
                ((0 : Int) ≤ i1 ∧ ∃ n6 s7, b0_0[Int.toNat i1]? = some [AV.int Go.IntKind.i64 n6, AV.str s7] ∧ R (AV.tup [AV.agg [AV.int Go.IntKind.i64 n6, AV.str s7], AV.sl (2 : Nat) b3 none xs4, AV.int Go.IntKind.i64 (0 : Int)]) []))) :
  Hold (runF PG ty nG G0 an_show_Entry f_show_Entry [AV.agg [AV.sl (2 : Nat) nlb0_0 none b0_0], AV.int Go.IntKind.i64 i1] [] R) := kshow h (by kernel_rfl)

theorem show_Growth_run (nlb0_0 : Bool) (b0_0 : List (List AV)) (m1 : Int) (G0 : Nat → Option Go.Obj) (R : AV → List (Option Blk) → Prop) (h :
  ∃ n0,
  Good PG nG G0 f_book_Check [AV.agg [AV.sl (2 : Nat) nlb0_0 none b0_0]] [] (AV.int Go.IntKind.i64 n0) [] ∧
    ifK (n0 != (0 : Int)) (R (AV.tup [AV.sl (1 : Nat) true none [], AV.int Go.IntKind.i64 n0]) [])
      (∃ b1 xs2,
        Good PG nG G0 f_book_Texts [AV.agg [AV.sl (2 : Nat) nlb0_0 none b0_0]] [] (AV.sl (1 : Nat) b1 none xs2) [] ∧
          ∃ b3 xs4 n5,
            Good PG nG G0 f_grow_Of [AV.sl (1 : Nat) b1 none xs2, AV.int Go.IntKind.i64 m1] [] (AV.tup [AV.sl (1 : Nat) b3 none xs4, AV.int Go.IntKind.i64 n5]) [] ∧
              R (AV.tup [AV.sl (1 : Nat) b3 none xs4, AV.int Go.IntKind.i64 n5]) [])) :
  Hold (runF PG ty nG G0 an_show_Growth f_show_Growth [AV.agg [AV.sl (2 : Nat) nlb0_0 none b0_0], AV.int Go.IntKind.i64 m1] [] R) := kshow h (by kernel_rfl)

theorem show_Value_run (nlb0_0 : Bool) (b0_0 : List (List AV)) (key1 : Int) (G0 : Nat → Option Go.Obj) (R : AV → List (Option Blk) → Prop) (h :
  ∃ b0 xs1 n2,
  Good PG nG G0 f_book_Values [AV.agg [AV.sl (2 : Nat) nlb0_0 none b0_0]] [] (AV.tup [AV.mp b0 xs1, AV.int Go.IntKind.i64 n2]) [] ∧
    ifK (n2 != (0 : Int)) (R (AV.tup [AV.str [], AV.bool false, AV.sl (1 : Nat) true none [], AV.int Go.IntKind.i64 n2]) [])
      (∃ b3 xs4 n5,
        Good PG nG G0 f_trie_Path [AV.mp b0 xs1, AV.int Go.IntKind.i64 key1] [] (AV.tup [AV.sl (1 : Nat) b3 none xs4, AV.int Go.IntKind.i64 n5]) [] ∧
          ifK (n5 != (0 : Int)) (R (AV.tup [AV.str [], AV.bool false, AV.sl (1 : Nat) true none [], AV.int Go.IntKind.i64 n5]) [])
            (∃ s6 b7, mlookD Go.IntKind.i64 key1 (AV.str []) xs1 = some (AV.str s6, b7) ∧ R (AV.tup [AV.str s6, AV.bool b7, AV.sl (1 : Nat) b3 none xs4, AV.int Go.IntKind.i64 (0 : Int)]) []))) :
  Hold (runF PG ty nG G0 an_show_Value f_show_Value [AV.agg [AV.sl (2 : Nat) nlb0_0 none b0_0], AV.int Go.IntKind.i64 key1] [] R) := kshow h (by kernel_rfl)

theorem greatseallaw_shown_run (G0 : Nat → Option Go.Obj) (R : AV → List (Option Blk) → Prop) (h :
  ∃ b0 xs1,
  Good PG nG G0 f_greatseallaw_entries [] [] (AV.agg [AV.sl (2 : Nat) b0 none xs1]) [] ∧
    ∃ n2 s3 b4 xs5 n6,
      Good PG nG G0 f_show_Entry [AV.agg [AV.sl (2 : Nat) b0 none xs1], AV.int Go.IntKind.i64 (1 : Int)] [] (AV.tup [AV.agg [AV.int Go.IntKind.i64 n2, AV.str s3], AV.sl (2 : Nat) b4 none xs5, AV.int Go.IntKind.i64 n6]) [] ∧
        ∃ b7 xs8,
          Good PG nG G0 f_greatseallaw_entries [] [] (AV.agg [AV.sl (2 : Nat) b7 none xs8]) [] ∧
            ∃ b9 xs10 n11,
              Good PG nG G0 f_show_Growth [AV.agg [AV.sl (2 : Nat) b7 none xs8], AV.int Go.IntKind.i64 (2 : Int)] [] (AV.tup [AV.sl (1 : Nat) b9 none xs10, AV.int Go.IntKind.i64 n11]) [] ∧
                ∃ b12 xs13,
                  Good PG nG G0 f_greatseallaw_entries [] [] (AV.agg [AV.sl (2 : Nat) b12 none xs13]) [] ∧
                    ∃ s14 b15 b16 xs17 n18,
                      Good PG nG G0 f_show_Value [AV.agg [AV.sl (2 : Nat) b12 none xs13], AV.int Go.IntKind.i64 (5 : Int)] [] (AV.tup [AV.str s14, AV.bool b15, AV.sl (1 : Nat) b16 none xs17, AV.int Go.IntKind.i64 n18]) [] ∧
                        ∃ b19 xs20,
                          Good PG nG G0 f_greatseallaw_entries [] [] (AV.agg [AV.sl (2 : Nat) b19 none xs20]) [] ∧
                            ∃ s21 b22 b23 xs24 n25,
                              Good PG nG G0 f_show_Value [AV.agg [AV.sl (2 : Nat) b19 none xs20], AV.int Go.IntKind.i64 (6 : Int)] [] (AV.tup [AV.str s21, AV.bool b22, AV.sl (1 : Nat) b23 none xs24, AV.int Go.IntKind.i64 n25]) [] ∧
                                ∃ b26 xs27,
                                  Good PG nG G0 f_greatseallaw_entries [] [] (AV.agg [AV.sl (2 : Nat) b26 none xs27]) [] ∧
                                    ∃ n28 s29 b30 xs31 n32,
                                      Good PG nG G0 f_show_Entry [AV.agg [AV.sl (2 : Nat) b26 none xs27], AV.int Go.IntKind.i64 (3 : Int)] []
                                          (AV.tup [AV.agg [AV.int Go.IntKind.i64 n28, AV.str s29], AV.sl (2 : Nat) b30 none xs31, AV.int Go.IntKind.i64 n32]) [] ∧
                                        ifK (n6 == (0 : Int))
                                          (ifK (n11 == (0 : Int))
                                            (ifK (n18 == (0 : Int))
                                              (ifK (n25 == (0 : Int))
                                                (ifK (n32 == (5 : Int))
                                                  (ifK (s3 == [(121 : UInt8)])
                                                    (ifK ((↑(List.length xs5) : Int) == (2 : Int))
                                                      (∃ b33,
                                                        Good PG nG G0 f_slices_Equal_string [AV.sl (1 : Nat) b9 none xs10, AV.sl (1 : Nat) false none [[AV.str [(76 : UInt8), (53 : UInt8), (32 : UInt8), (122 : UInt8)]]]] [] (AV.bool b33) [] ∧
                                                          ifK b33
                                                            (ifK (s14 == [(122 : UInt8)]) (ifK b15 (ifK (!b22) (R (AV.bool ((↑(List.length xs17) : Int) == (4 : Int))) []) (R (AV.bool false) [])) (R (AV.bool false) []))
                                                              (R (AV.bool false) []))
                                                            (R (AV.bool false) []))
                                                      (R (AV.bool false) []))
                                                    (R (AV.bool false) []))
                                                  (R (AV.bool false) []))
                                                (R (AV.bool false) []))
                                              (R (AV.bool false) []))
                                            (R (AV.bool false) []))
                                          (R (AV.bool false) [])) :
  Hold (runF PG ty nG G0 an_greatseallaw_shown f_greatseallaw_shown [] [] R) := kshow h (by kernel_rfl)

theorem meet_Same_run (a0_0 : Int) (a0_1 : List UInt8) (a0_2 : List UInt8) (b1_0 : Int) (b1_1 : List UInt8) (b1_2 : List UInt8) (nll2 : Bool) (l2 : List (List AV)) (G0 : Nat → Option Go.Obj) (R : AV → List (Option Blk) → Prop) (h :
  ∃ n0,
  Good PG nG G0 f_note_Check [AV.agg [AV.int Go.IntKind.i64 a0_0, AV.str a0_1, AV.str a0_2]] [] (AV.int Go.IntKind.i64 n0) [] ∧
    ifK (n0 != (0 : Int)) (R (AV.int Go.IntKind.i64 n0) [])
      (∃ n1,
        Good PG nG G0 f_note_Check [AV.agg [AV.int Go.IntKind.i64 b1_0, AV.str b1_1, AV.str b1_2]] [] (AV.int Go.IntKind.i64 n1) [] ∧
          ifK (n1 != (0 : Int)) (R (AV.int Go.IntKind.i64 n1) [])
            (ifK (decide (a0_0 > b1_0))
              (ifK (b1_0 == (0 : Int))
                (ifK (decide ((↑(List.length l2) : Int) > (0 : Int))) (R (AV.int Go.IntKind.i64 (7 : Int)) [])
                  (ifK (b1_0 == (0 : Int)) (R (AV.int Go.IntKind.i64 (0 : Int)) [])
                    (ifK (b1_0 == a0_0)
                      (ifK (!b1_2 == a0_2) (R (AV.int Go.IntKind.i64 (7 : Int)) [])
                        (∃ n2,
                          Good PG nG G0 f_grow_Shows [AV.str b1_1, AV.int Go.IntKind.i64 b1_0, AV.str a0_1, AV.int Go.IntKind.i64 a0_0, AV.sl (1 : Nat) nll2 none l2] [] (AV.int Go.IntKind.i64 n2) [] ∧ R (AV.int Go.IntKind.i64 n2) []))
                      (∃ n3,
                        Good PG nG G0 f_grow_Shows [AV.str b1_1, AV.int Go.IntKind.i64 b1_0, AV.str a0_1, AV.int Go.IntKind.i64 a0_0, AV.sl (1 : Nat) nll2 none l2] [] (AV.int Go.IntKind.i64 n3) [] ∧ R (AV.int Go.IntKind.i64 n3) []))))
                (ifK (b1_0 == (0 : Int)) (R (AV.int Go.IntKind.i64 (0 : Int)) [])
                  (ifK (b1_0 == a0_0)
                    (ifK (!b1_2 == a0_2) (R (AV.int Go.IntKind.i64 (7 : Int)) [])
                      (∃ n4,
                        Good PG nG G0 f_grow_Shows [AV.str b1_1, AV.int Go.IntKind.i64 b1_0, AV.str a0_1, AV.int Go.IntKind.i64 a0_0, AV.sl (1 : Nat) nll2 none l2] [] (AV.int Go.IntKind.i64 n4) [] ∧ R (AV.int Go.IntKind.i64 n4) []))
                    (∃ n5,
                      Good PG nG G0 f_grow_Shows [AV.str b1_1, AV.int Go.IntKind.i64 b1_0, AV.str a0_1, AV.int Go.IntKind.i64 a0_0, AV.sl (1 : Nat) nll2 none l2] [] (AV.int Go.IntKind.i64 n5) [] ∧ R (AV.int Go.IntKind.i64 n5) []))))
              (ifK (a0_0 == (0 : Int))
                (ifK (decide ((↑(List.length l2) : Int) > (0 : Int))) (R (AV.int Go.IntKind.i64 (7 : Int)) [])
                  (ifK (a0_0 == (0 : Int)) (R (AV.int Go.IntKind.i64 (0 : Int)) [])
                    (ifK (a0_0 == b1_0)
                      (ifK (!a0_2 == b1_2) (R (AV.int Go.IntKind.i64 (7 : Int)) [])
                        (∃ n6,
                          Good PG nG G0 f_grow_Shows [AV.str a0_1, AV.int Go.IntKind.i64 a0_0, AV.str b1_1, AV.int Go.IntKind.i64 b1_0, AV.sl (1 : Nat) nll2 none l2] [] (AV.int Go.IntKind.i64 n6) [] ∧ R (AV.int Go.IntKind.i64 n6) []))
                      (∃ n7,
                        Good PG nG G0 f_grow_Shows [AV.str a0_1, AV.int Go.IntKind.i64 a0_0, AV.str b1_1, AV.int Go.IntKind.i64 b1_0, AV.sl (1 : Nat) nll2 none l2] [] (AV.int Go.IntKind.i64 n7) [] ∧ R (AV.int Go.IntKind.i64 n7) []))))
                (ifK (a0_0 == (0 : Int)) (R (AV.int Go.IntKind.i64 (0 : Int)) [])
                  (ifK (a0_0 == b1_0)
                    (ifK (!a0_2 == b1_2) (R (AV.int Go.IntKind.i64 (7 : Int)) [])
                      (∃ n8,
                        Good PG nG G0 f_grow_Shows [AV.str a0_1, AV.int Go.IntKind.i64 a0_0, AV.str b1_1, AV.int Go.IntKind.i64 b1_0, AV.sl (1 : Nat) nll2 none l2] [] (AV.int Go.IntKind.i64 n8) [] ∧ R (AV.int Go.IntKind.i64 n8) []))
                    (∃ n9,
                      Good PG nG G0 f_grow_Shows [AV.str a0_1, AV.int Go.IntKind.i64 a0_0, AV.str b1_1, AV.int Go.IntKind.i64 b1_0, AV.sl (1 : Nat) nll2 none l2] [] (AV.int Go.IntKind.i64 n9) [] ∧ R (AV.int Go.IntKind.i64 n9) []))))))) :
  Hold (runF PG ty nG G0 an_meet_Same f_meet_Same [AV.agg [AV.int Go.IntKind.i64 a0_0, AV.str a0_1, AV.str a0_2], AV.agg [AV.int Go.IntKind.i64 b1_0, AV.str b1_1, AV.str b1_2], AV.sl (1 : Nat) nll2 none l2] [] R) := kshow h (by kernel_rfl)

theorem greatsealref_Meets_run (a0_0 : Int) (a0_1 : List UInt8) (a0_2 : List UInt8) (b1_0 : Int) (b1_1 : List UInt8) (b1_2 : List UInt8) (nll2 : Bool) (l2 : List (List AV)) (G0 : Nat → Option Go.Obj) (R : AV → List (Option Blk) → Prop) (h :
  ∃ n0,
  Good PG nG G0 f_greatsealref_CheckHead [AV.agg [AV.int Go.IntKind.i64 a0_0, AV.str a0_1, AV.str a0_2]] [] (AV.int Go.IntKind.i64 n0) [] ∧
    ifK (n0 != (0 : Int)) (R (AV.int Go.IntKind.i64 n0) [])
      (∃ n1,
        Good PG nG G0 f_greatsealref_CheckHead [AV.agg [AV.int Go.IntKind.i64 b1_0, AV.str b1_1, AV.str b1_2]] [] (AV.int Go.IntKind.i64 n1) [] ∧
          ifK (n1 != (0 : Int)) (R (AV.int Go.IntKind.i64 n1) [])
            (ifK (decide (b1_0 < a0_0))
              (ifK (b1_0 == (0 : Int)) (ifK (decide ((↑(List.length l2) : Int) > (0 : Int))) (R (AV.int Go.IntKind.i64 (7 : Int)) []) (R (AV.int Go.IntKind.i64 (0 : Int)) []))
                (ifK (b1_0 == a0_0)
                  (ifK (!b1_2 == a0_2) (R (AV.int Go.IntKind.i64 (7 : Int)) [])
                    (∃ n2, Good PG nG G0 f_greatsealref_GrowthShows [AV.str b1_1, AV.int Go.IntKind.i64 b1_0, AV.str a0_1, AV.int Go.IntKind.i64 a0_0, AV.sl (1 : Nat) nll2 none l2] [] (AV.int Go.IntKind.i64 n2) [] ∧ R (AV.int Go.IntKind.i64 n2) []))
                  (∃ n3, Good PG nG G0 f_greatsealref_GrowthShows [AV.str b1_1, AV.int Go.IntKind.i64 b1_0, AV.str a0_1, AV.int Go.IntKind.i64 a0_0, AV.sl (1 : Nat) nll2 none l2] [] (AV.int Go.IntKind.i64 n3) [] ∧ R (AV.int Go.IntKind.i64 n3) [])))
              (ifK (a0_0 == (0 : Int)) (ifK (decide ((↑(List.length l2) : Int) > (0 : Int))) (R (AV.int Go.IntKind.i64 (7 : Int)) []) (R (AV.int Go.IntKind.i64 (0 : Int)) []))
                (ifK (a0_0 == b1_0)
                  (ifK (!a0_2 == b1_2) (R (AV.int Go.IntKind.i64 (7 : Int)) [])
                    (∃ n4, Good PG nG G0 f_greatsealref_GrowthShows [AV.str a0_1, AV.int Go.IntKind.i64 a0_0, AV.str b1_1, AV.int Go.IntKind.i64 b1_0, AV.sl (1 : Nat) nll2 none l2] [] (AV.int Go.IntKind.i64 n4) [] ∧ R (AV.int Go.IntKind.i64 n4) []))
                  (∃ n5,
                    Good PG nG G0 f_greatsealref_GrowthShows [AV.str a0_1, AV.int Go.IntKind.i64 a0_0, AV.str b1_1, AV.int Go.IntKind.i64 b1_0, AV.sl (1 : Nat) nll2 none l2] [] (AV.int Go.IntKind.i64 n5) [] ∧ R (AV.int Go.IntKind.i64 n5) [])))))) :
  Hold (runF PG ty nG G0 an_greatsealref_Meets f_greatsealref_Meets [AV.agg [AV.int Go.IntKind.i64 a0_0, AV.str a0_1, AV.str a0_2], AV.agg [AV.int Go.IntKind.i64 b1_0, AV.str b1_1, AV.str b1_2], AV.sl (1 : Nat) nll2 none l2] [] R) := kshow h (by kernel_rfl)

theorem greatseallaw_together_run (G0 : Nat → Option Go.Obj) (R : AV → List (Option Blk) → Prop) (h :
  ∃ b0 xs1,
  Good PG nG G0 f_greatseallaw_entries [] [] (AV.agg [AV.sl (2 : Nat) b0 none xs1]) [] ∧
    (0 : Int) ≤ (0 : Int) ∧
      (0 : Int) ≤ (1 : Int) ∧
        (1 : Int) ≤ (↑(List.length xs1) : Int) ∧
          ∃ n2 s3 s4 n5,
            Good PG nG G0 f_book_Head [AV.agg [AV.sl (2 : Nat) b0 none (List.drop (0 : Nat) (List.take (1 : Nat) xs1))]] [] (AV.tup [AV.agg [AV.int Go.IntKind.i64 n2, AV.str s3, AV.str s4], AV.int Go.IntKind.i64 n5]) [] ∧
              ∃ b6 xs7,
                Good PG nG G0 f_greatseallaw_entries [] [] (AV.agg [AV.sl (2 : Nat) b6 none xs7]) [] ∧
                  ∃ n8 s9 s10 n11,
                    Good PG nG G0 f_book_Head [AV.agg [AV.sl (2 : Nat) b6 none xs7]] [] (AV.tup [AV.agg [AV.int Go.IntKind.i64 n8, AV.str s9, AV.str s10], AV.int Go.IntKind.i64 n11]) [] ∧
                      ∃ b12 xs13,
                        Good PG nG G0 f_greatseallaw_entries [] [] (AV.agg [AV.sl (2 : Nat) b12 none xs13]) [] ∧
                          ∃ b14 xs15 n16,
                            Good PG nG G0 f_show_Growth [AV.agg [AV.sl (2 : Nat) b12 none xs13], AV.int Go.IntKind.i64 (1 : Int)] [] (AV.tup [AV.sl (1 : Nat) b14 none xs15, AV.int Go.IntKind.i64 n16]) [] ∧
                              ∃ b17 xs18,
                                Good PG nG G0 f_greatseallaw_entries [] [] (AV.agg [AV.sl (2 : Nat) b17 none xs18]) [] ∧
                                  (0 : Int) ≤ (1 : Int) ∧
                                    (1 : Int) ≤ (↑(List.length xs18) : Int) ∧
                                      (↑(List.length xs18) : Int) ≤ (↑(List.length xs18) : Int) ∧
                                        ∃ n19 s20 s21 n22,
                                          Good PG nG G0 f_book_Head [AV.agg [AV.sl (2 : Nat) b17 none (List.drop (1 : Nat) (List.take (Int.toNat (↑(List.length xs18) : Int)) xs18))]] []
                                              (AV.tup [AV.agg [AV.int Go.IntKind.i64 n19, AV.str s20, AV.str s21], AV.int Go.IntKind.i64 n22]) [] ∧
                                            ifK (n5 == (0 : Int))
                                              (ifK (n11 == (0 : Int))
                                                (ifK (n16 == (0 : Int))
                                                  (ifK (n22 == (0 : Int))
                                                    (∃ n23,
                                                      Good PG nG G0 f_meet_Same [AV.agg [AV.int Go.IntKind.i64 n8, AV.str s9, AV.str s10], AV.agg [AV.int Go.IntKind.i64 n2, AV.str s3, AV.str s4], AV.sl (1 : Nat) b14 none xs15] []
                                                          (AV.int Go.IntKind.i64 n23) [] ∧
                                                        ifK (n23 == (0 : Int))
                                                          (∃ n24,
                                                            Good PG nG G0 f_meet_Same [AV.agg [AV.int Go.IntKind.i64 n2, AV.str s3, AV.str s4], AV.agg [AV.int Go.IntKind.i64 n8, AV.str s9, AV.str s10], AV.sl (1 : Nat) true none []] []
                                                                (AV.int Go.IntKind.i64 n24) [] ∧
                                                              ifK (n24 == (7 : Int))
                                                                (∃ n25,
                                                                  Good PG nG G0 f_meet_Same
                                                                      [AV.agg [AV.int Go.IntKind.i64 n8, AV.str s9, AV.str s10], AV.agg [AV.int Go.IntKind.i64 n8, AV.str s9, AV.str s10], AV.sl (1 : Nat) true none []] []
                                                                      (AV.int Go.IntKind.i64 n25) [] ∧
                                                                    ifK (n25 == (0 : Int))
                                                                      (∃ n26,
                                                                        Good PG nG G0 f_meet_Same
                                                                            [AV.agg [AV.int Go.IntKind.i64 n2, AV.str s3, AV.str s4], AV.agg [AV.int Go.IntKind.i64 n19, AV.str s20, AV.str s21], AV.sl (1 : Nat) b14 none xs15] []
                                                                            (AV.int Go.IntKind.i64 n26) [] ∧
                                                                          ifK (n26 == (7 : Int))
                                                                            (∃ n27,
                                                                              Good PG nG G0 f_meet_Same
                                                                                  [AV.agg [AV.int Go.IntKind.i64 (0 : Int), AV.str [], AV.str []], AV.agg [AV.int Go.IntKind.i64 n19, AV.str s20, AV.str s21], AV.sl (1 : Nat) true none []] []
                                                                                  (AV.int Go.IntKind.i64 n27) [] ∧
                                                                                R (AV.bool (n27 == (0 : Int))) [])
                                                                            (R (AV.bool false) []))
                                                                      (R (AV.bool false) []))
                                                                (R (AV.bool false) []))
                                                          (R (AV.bool false) []))
                                                    (R (AV.bool false) []))
                                                  (R (AV.bool false) []))
                                                (R (AV.bool false) []))
                                              (R (AV.bool false) [])) :
  Hold (runF PG ty nG G0 an_greatseallaw_together f_greatseallaw_together [] [] R) := kshow h (by kernel_rfl)

theorem client_Follow_run (c0_0 : Int) (c0_1 : List UInt8) (c0_2 : List UInt8) (c0_3 : Bool) (h1_0 : Int) (h1_1 : List UInt8) (h1_2 : List UInt8) (nll2 : Bool) (l2 : List (List AV)) (G0 : Nat → Option Go.Obj) (R : AV → List (Option Blk) → Prop) (h :
  ∃ n0,
  Good PG nG G0 f_note_Check [AV.agg [AV.int Go.IntKind.i64 c0_0, AV.str c0_1, AV.str c0_2]] [] (AV.int Go.IntKind.i64 n0) [] ∧
    ifK (n0 != (0 : Int)) (R (AV.tup [AV.agg [AV.int Go.IntKind.i64 (0 : Int), AV.str [], AV.str [], AV.bool false], AV.int Go.IntKind.i64 n0]) [])
      (∃ n1,
        Good PG nG G0 f_note_Check [AV.agg [AV.int Go.IntKind.i64 h1_0, AV.str h1_1, AV.str h1_2]] [] (AV.int Go.IntKind.i64 n1) [] ∧
          ifK (n1 != (0 : Int)) (R (AV.tup [AV.agg [AV.int Go.IntKind.i64 (0 : Int), AV.str [], AV.str [], AV.bool false], AV.int Go.IntKind.i64 n1]) [])
            (ifK (decide (h1_0 < c0_0)) (R (AV.tup [AV.agg [AV.int Go.IntKind.i64 (0 : Int), AV.str [], AV.str [], AV.bool false], AV.int Go.IntKind.i64 (6 : Int)]) [])
              (ifK (c0_0 == (0 : Int))
                (ifK (decide (c0_0 > (0 : Int)))
                  (∃ n2,
                    Good PG nG G0 f_grow_Shows [AV.str c0_1, AV.int Go.IntKind.i64 c0_0, AV.str h1_1, AV.int Go.IntKind.i64 h1_0, AV.sl (1 : Nat) nll2 none l2] [] (AV.int Go.IntKind.i64 n2) [] ∧
                      ifK (n2 == (0 : Int))
                        (ifK (decide (h1_0 > c0_0)) (R (AV.tup [AV.agg [AV.int Go.IntKind.i64 h1_0, AV.str h1_1, AV.str h1_2, AV.bool c0_3], AV.int Go.IntKind.i64 (0 : Int)]) [])
                          (ifK (!h1_2 == c0_2) (R (AV.tup [AV.agg [AV.int Go.IntKind.i64 c0_0, AV.str c0_1, AV.str c0_2, AV.bool true], AV.int Go.IntKind.i64 (7 : Int)]) [])
                            (R (AV.tup [AV.agg [AV.int Go.IntKind.i64 h1_0, AV.str h1_1, AV.str h1_2, AV.bool c0_3], AV.int Go.IntKind.i64 (0 : Int)]) [])))
                        (R (AV.tup [AV.agg [AV.int Go.IntKind.i64 c0_0, AV.str c0_1, AV.str c0_2, AV.bool true], AV.int Go.IntKind.i64 (7 : Int)]) []))
                  (ifK (!(↑(List.length l2) : Int) == (0 : Int)) (R (AV.tup [AV.agg [AV.int Go.IntKind.i64 c0_0, AV.str c0_1, AV.str c0_2, AV.bool true], AV.int Go.IntKind.i64 (7 : Int)]) [])
                    (R (AV.tup [AV.agg [AV.int Go.IntKind.i64 h1_0, AV.str h1_1, AV.str h1_2, AV.bool c0_3], AV.int Go.IntKind.i64 (0 : Int)]) [])))
                (ifK (decide (c0_0 > (0 : Int)))
                  (∃ n3,
                    Good PG nG G0 f_grow_Shows [AV.str c0_1, AV.int Go.IntKind.i64 c0_0, AV.str h1_1, AV.int Go.IntKind.i64 h1_0, AV.sl (1 : Nat) nll2 none l2] [] (AV.int Go.IntKind.i64 n3) [] ∧
                      ifK (n3 == (0 : Int))
                        (ifK (decide (h1_0 > c0_0)) (R (AV.tup [AV.agg [AV.int Go.IntKind.i64 h1_0, AV.str h1_1, AV.str h1_2, AV.bool c0_3], AV.int Go.IntKind.i64 (0 : Int)]) [])
                          (ifK (!h1_2 == c0_2) (R (AV.tup [AV.agg [AV.int Go.IntKind.i64 c0_0, AV.str c0_1, AV.str c0_2, AV.bool true], AV.int Go.IntKind.i64 (7 : Int)]) [])
                            (R (AV.tup [AV.agg [AV.int Go.IntKind.i64 h1_0, AV.str h1_1, AV.str h1_2, AV.bool c0_3], AV.int Go.IntKind.i64 (0 : Int)]) [])))
                        (R (AV.tup [AV.agg [AV.int Go.IntKind.i64 c0_0, AV.str c0_1, AV.str c0_2, AV.bool true], AV.int Go.IntKind.i64 (7 : Int)]) []))
                  (R (AV.tup [AV.agg [AV.int Go.IntKind.i64 c0_0, AV.str c0_1, AV.str c0_2, AV.bool true], AV.int Go.IntKind.i64 (7 : Int)]) [])))))) :
  Hold (runF PG ty nG G0 an_client_Follow f_client_Follow [AV.agg [AV.int Go.IntKind.i64 c0_0, AV.str c0_1, AV.str c0_2, AV.bool c0_3], AV.agg [AV.int Go.IntKind.i64 h1_0, AV.str h1_1, AV.str h1_2], AV.sl (1 : Nat) nll2 none l2] [] R) := kshow h (by kernel_rfl)

theorem greatsealref_Follows_run (c0_0 : Int) (c0_1 : List UInt8) (c0_2 : List UInt8) (c0_3 : Bool) (h1_0 : Int) (h1_1 : List UInt8) (h1_2 : List UInt8) (nll2 : Bool) (l2 : List (List AV)) (G0 : Nat → Option Go.Obj) (R : AV → List (Option Blk) → Prop) (h :
  ∃ n0,
  Good PG nG G0 f_greatsealref_CheckHead [AV.agg [AV.int Go.IntKind.i64 c0_0, AV.str c0_1, AV.str c0_2]] [] (AV.int Go.IntKind.i64 n0) [] ∧
    ifK (n0 == (0 : Int))
      (∃ n1,
        Good PG nG G0 f_greatsealref_CheckHead [AV.agg [AV.int Go.IntKind.i64 h1_0, AV.str h1_1, AV.str h1_2]] [] (AV.int Go.IntKind.i64 n1) [] ∧
          ifK (n1 == (0 : Int))
            (ifK (decide (h1_0 < c0_0)) (R (AV.tup [AV.agg [AV.int Go.IntKind.i64 (0 : Int), AV.str [], AV.str [], AV.bool false], AV.int Go.IntKind.i64 (6 : Int)]) [])
              (ifK (n1 != (0 : Int)) (R (AV.tup [AV.agg [AV.int Go.IntKind.i64 (0 : Int), AV.str [], AV.str [], AV.bool false], AV.int Go.IntKind.i64 n1]) [])
                (ifK (decide (c0_0 > (0 : Int)))
                  (∃ n2,
                    Good PG nG G0 f_greatsealref_GrowthShows [AV.str c0_1, AV.int Go.IntKind.i64 c0_0, AV.str h1_1, AV.int Go.IntKind.i64 h1_0, AV.sl (1 : Nat) nll2 none l2] [] (AV.int Go.IntKind.i64 n2) [] ∧
                      ifK (h1_0 == c0_0)
                        (ifK (n2 == (0 : Int))
                          (ifK (!h1_2 == c0_2) (R (AV.tup [AV.agg [AV.int Go.IntKind.i64 c0_0, AV.str c0_1, AV.str c0_2, AV.bool true], AV.int Go.IntKind.i64 (7 : Int)]) [])
                            (R (AV.tup [AV.agg [AV.int Go.IntKind.i64 h1_0, AV.str h1_1, AV.str h1_2, AV.bool c0_3], AV.int Go.IntKind.i64 (0 : Int)]) []))
                          (R (AV.tup [AV.agg [AV.int Go.IntKind.i64 c0_0, AV.str c0_1, AV.str c0_2, AV.bool true], AV.int Go.IntKind.i64 (7 : Int)]) []))
                        (ifK (!n2 == (0 : Int)) (R (AV.tup [AV.agg [AV.int Go.IntKind.i64 c0_0, AV.str c0_1, AV.str c0_2, AV.bool true], AV.int Go.IntKind.i64 (7 : Int)]) [])
                          (R (AV.tup [AV.agg [AV.int Go.IntKind.i64 h1_0, AV.str h1_1, AV.str h1_2, AV.bool c0_3], AV.int Go.IntKind.i64 (0 : Int)]) [])))
                  (ifK (!(↑(List.length l2) : Int) == (0 : Int)) (R (AV.tup [AV.agg [AV.int Go.IntKind.i64 c0_0, AV.str c0_1, AV.str c0_2, AV.bool true], AV.int Go.IntKind.i64 (7 : Int)]) [])
                    (R (AV.tup [AV.agg [AV.int Go.IntKind.i64 h1_0, AV.str h1_1, AV.str h1_2, AV.bool c0_3], AV.int Go.IntKind.i64 (0 : Int)]) [])))))
            (ifK (n1 != (0 : Int)) (R (AV.tup [AV.agg [AV.int Go.IntKind.i64 (0 : Int), AV.str [], AV.str [], AV.bool false], AV.int Go.IntKind.i64 n1]) [])
              (ifK (decide (c0_0 > (0 : Int)))
                (∃ n3,
                  Good PG nG G0 f_greatsealref_GrowthShows [AV.str c0_1, AV.int Go.IntKind.i64 c0_0, AV.str h1_1, AV.int Go.IntKind.i64 h1_0, AV.sl (1 : Nat) nll2 none l2] [] (AV.int Go.IntKind.i64 n3) [] ∧
                    ifK (h1_0 == c0_0)
                      (ifK (n3 == (0 : Int))
                        (ifK (!h1_2 == c0_2) (R (AV.tup [AV.agg [AV.int Go.IntKind.i64 c0_0, AV.str c0_1, AV.str c0_2, AV.bool true], AV.int Go.IntKind.i64 (7 : Int)]) [])
                          (R (AV.tup [AV.agg [AV.int Go.IntKind.i64 h1_0, AV.str h1_1, AV.str h1_2, AV.bool c0_3], AV.int Go.IntKind.i64 (0 : Int)]) []))
                        (R (AV.tup [AV.agg [AV.int Go.IntKind.i64 c0_0, AV.str c0_1, AV.str c0_2, AV.bool true], AV.int Go.IntKind.i64 (7 : Int)]) []))
                      (ifK (!n3 == (0 : Int)) (R (AV.tup [AV.agg [AV.int Go.IntKind.i64 c0_0, AV.str c0_1, AV.str c0_2, AV.bool true], AV.int Go.IntKind.i64 (7 : Int)]) [])
                        (R (AV.tup [AV.agg [AV.int Go.IntKind.i64 h1_0, AV.str h1_1, AV.str h1_2, AV.bool c0_3], AV.int Go.IntKind.i64 (0 : Int)]) [])))
                (ifK (!(↑(List.length l2) : Int) == (0 : Int)) (R (AV.tup [AV.agg [AV.int Go.IntKind.i64 c0_0, AV.str c0_1, AV.str c0_2, AV.bool true], AV.int Go.IntKind.i64 (7 : Int)]) [])
                  (R (AV.tup [AV.agg [AV.int Go.IntKind.i64 h1_0, AV.str h1_1, AV.str h1_2, AV.bool c0_3], AV.int Go.IntKind.i64 (0 : Int)]) [])))))
      (ifK (n0 == (0 : Int))
        (ifK (decide (h1_0 < c0_0)) (R (AV.tup [AV.agg [AV.int Go.IntKind.i64 (0 : Int), AV.str [], AV.str [], AV.bool false], AV.int Go.IntKind.i64 (6 : Int)]) [])
          (ifK (n0 != (0 : Int)) (R (AV.tup [AV.agg [AV.int Go.IntKind.i64 (0 : Int), AV.str [], AV.str [], AV.bool false], AV.int Go.IntKind.i64 n0]) [])
            (ifK (decide (c0_0 > (0 : Int)))
              (∃ n4,
                Good PG nG G0 f_greatsealref_GrowthShows [AV.str c0_1, AV.int Go.IntKind.i64 c0_0, AV.str h1_1, AV.int Go.IntKind.i64 h1_0, AV.sl (1 : Nat) nll2 none l2] [] (AV.int Go.IntKind.i64 n4) [] ∧
                  ifK (h1_0 == c0_0)
                    (ifK (n4 == (0 : Int))
                      (ifK (!h1_2 == c0_2) (R (AV.tup [AV.agg [AV.int Go.IntKind.i64 c0_0, AV.str c0_1, AV.str c0_2, AV.bool true], AV.int Go.IntKind.i64 (7 : Int)]) [])
                        (R (AV.tup [AV.agg [AV.int Go.IntKind.i64 h1_0, AV.str h1_1, AV.str h1_2, AV.bool c0_3], AV.int Go.IntKind.i64 (0 : Int)]) []))
                      (R (AV.tup [AV.agg [AV.int Go.IntKind.i64 c0_0, AV.str c0_1, AV.str c0_2, AV.bool true], AV.int Go.IntKind.i64 (7 : Int)]) []))
                    (ifK (!n4 == (0 : Int)) (R (AV.tup [AV.agg [AV.int Go.IntKind.i64 c0_0, AV.str c0_1, AV.str c0_2, AV.bool true], AV.int Go.IntKind.i64 (7 : Int)]) [])
                      (R (AV.tup [AV.agg [AV.int Go.IntKind.i64 h1_0, AV.str h1_1, AV.str h1_2, AV.bool c0_3], AV.int Go.IntKind.i64 (0 : Int)]) [])))
              (ifK (!(↑(List.length l2) : Int) == (0 : Int)) (R (AV.tup [AV.agg [AV.int Go.IntKind.i64 c0_0, AV.str c0_1, AV.str c0_2, AV.bool true], AV.int Go.IntKind.i64 (7 : Int)]) [])
                (R (AV.tup [AV.agg [AV.int Go.IntKind.i64 h1_0, AV.str h1_1, AV.str h1_2, AV.bool c0_3], AV.int Go.IntKind.i64 (0 : Int)]) [])))))
        (ifK (n0 != (0 : Int)) (R (AV.tup [AV.agg [AV.int Go.IntKind.i64 (0 : Int), AV.str [], AV.str [], AV.bool false], AV.int Go.IntKind.i64 n0]) [])
          (ifK (decide (c0_0 > (0 : Int)))
            (∃ n5,
              Good PG nG G0 f_greatsealref_GrowthShows [AV.str c0_1, AV.int Go.IntKind.i64 c0_0, AV.str h1_1, AV.int Go.IntKind.i64 h1_0, AV.sl (1 : Nat) nll2 none l2] [] (AV.int Go.IntKind.i64 n5) [] ∧
                ifK (h1_0 == c0_0)
                  (ifK (n5 == (0 : Int))
                    (ifK (!h1_2 == c0_2) (R (AV.tup [AV.agg [AV.int Go.IntKind.i64 c0_0, AV.str c0_1, AV.str c0_2, AV.bool true], AV.int Go.IntKind.i64 (7 : Int)]) [])
                      (R (AV.tup [AV.agg [AV.int Go.IntKind.i64 h1_0, AV.str h1_1, AV.str h1_2, AV.bool c0_3], AV.int Go.IntKind.i64 (0 : Int)]) []))
                    (R (AV.tup [AV.agg [AV.int Go.IntKind.i64 c0_0, AV.str c0_1, AV.str c0_2, AV.bool true], AV.int Go.IntKind.i64 (7 : Int)]) []))
                  (ifK (!n5 == (0 : Int)) (R (AV.tup [AV.agg [AV.int Go.IntKind.i64 c0_0, AV.str c0_1, AV.str c0_2, AV.bool true], AV.int Go.IntKind.i64 (7 : Int)]) [])
                    (R (AV.tup [AV.agg [AV.int Go.IntKind.i64 h1_0, AV.str h1_1, AV.str h1_2, AV.bool c0_3], AV.int Go.IntKind.i64 (0 : Int)]) [])))
            (ifK (!(↑(List.length l2) : Int) == (0 : Int)) (R (AV.tup [AV.agg [AV.int Go.IntKind.i64 c0_0, AV.str c0_1, AV.str c0_2, AV.bool true], AV.int Go.IntKind.i64 (7 : Int)]) [])
              (R (AV.tup [AV.agg [AV.int Go.IntKind.i64 h1_0, AV.str h1_1, AV.str h1_2, AV.bool c0_3], AV.int Go.IntKind.i64 (0 : Int)]) [])))))) :
  Hold (runF PG ty nG G0 an_greatsealref_Follows f_greatsealref_Follows [AV.agg [AV.int Go.IntKind.i64 c0_0, AV.str c0_1, AV.str c0_2, AV.bool c0_3], AV.agg [AV.int Go.IntKind.i64 h1_0, AV.str h1_1, AV.str h1_2], AV.sl (1 : Nat) nll2 none l2] [] R) := kshow h (by kernel_rfl)

theorem client_Sees_run (c0_0 : Int) (c0_1 : List UInt8) (c0_2 : List UInt8) (c0_3 : Bool) (i1 : Int) (x2_0 : Int) (x2_1 : List UInt8) (nll3 : Bool) (l3 : List (List AV)) (G0 : Nat → Option Go.Obj) (R : AV → List (Option Blk) → Prop) (h :
  ∃ n0,
  Good PG nG G0 f_note_Check [AV.agg [AV.int Go.IntKind.i64 c0_0, AV.str c0_1, AV.str c0_2]] [] (AV.int Go.IntKind.i64 n0) [] ∧
    ifK (n0 != (0 : Int)) (R (AV.int Go.IntKind.i64 n0) [])
      (∃ s1,
        Good PG nG G0 f_book_Text [AV.agg [AV.int Go.IntKind.i64 x2_0, AV.str x2_1]] [] (AV.str s1) [] ∧
          ∃ n2, Good PG nG G0 f_path_Shows [AV.str c0_1, AV.int Go.IntKind.i64 c0_0, AV.int Go.IntKind.i64 i1, AV.str s1, AV.sl (2 : Nat) nll3 none l3] [] (AV.int Go.IntKind.i64 n2) [] ∧ R (AV.int Go.IntKind.i64 n2) [])) :
  Hold (runF PG ty nG G0 an_client_Sees f_client_Sees [AV.agg [AV.int Go.IntKind.i64 c0_0, AV.str c0_1, AV.str c0_2, AV.bool c0_3], AV.int Go.IntKind.i64 i1, AV.agg [AV.int Go.IntKind.i64 x2_0, AV.str x2_1], AV.sl (2 : Nat) nll3 none l3] [] R) := kshow h (by kernel_rfl)

theorem client_Finds_run (c0_0 : Int) (c0_1 : List UInt8) (c0_2 : List UInt8) (c0_3 : Bool) (key1 : Int) (value2 : List UInt8) (there3 : Bool) (nll4 : Bool) (l4 : List (List AV)) (G0 : Nat → Option Go.Obj) (R : AV → List (Option Blk) → Prop) (h :
  ∃ n0,
  Good PG nG G0 f_note_Check [AV.agg [AV.int Go.IntKind.i64 c0_0, AV.str c0_1, AV.str c0_2]] [] (AV.int Go.IntKind.i64 n0) [] ∧
    ifK (n0 != (0 : Int)) (R (AV.int Go.IntKind.i64 n0) [])
      (∃ n1, Good PG nG G0 f_trie_Shows [AV.str c0_2, AV.int Go.IntKind.i64 key1, AV.str value2, AV.bool there3, AV.sl (1 : Nat) nll4 none l4] [] (AV.int Go.IntKind.i64 n1) [] ∧ R (AV.int Go.IntKind.i64 n1) [])) :
  Hold (runF PG ty nG G0 an_client_Finds f_client_Finds [AV.agg [AV.int Go.IntKind.i64 c0_0, AV.str c0_1, AV.str c0_2, AV.bool c0_3], AV.int Go.IntKind.i64 key1, AV.str value2, AV.bool there3, AV.sl (1 : Nat) nll4 none l4] [] R) := kshow h (by kernel_rfl)

theorem greatseallaw_followed_run (G0 : Nat → Option Go.Obj) (R : AV → List (Option Blk) → Prop) (h :
  ∃ b0 xs1,
  Good PG nG G0 f_greatseallaw_entries [] [] (AV.agg [AV.sl (2 : Nat) b0 none xs1]) [] ∧
    (0 : Int) ≤ (0 : Int) ∧
      (0 : Int) ≤ (1 : Int) ∧
        (1 : Int) ≤ (↑(List.length xs1) : Int) ∧
          ∃ n2 s3 s4 n5,
            Good PG nG G0 f_book_Head [AV.agg [AV.sl (2 : Nat) b0 none (List.drop (0 : Nat) (List.take (1 : Nat) xs1))]] [] (AV.tup [AV.agg [AV.int Go.IntKind.i64 n2, AV.str s3, AV.str s4], AV.int Go.IntKind.i64 n5]) [] ∧
              ∃ b6 xs7,
                Good PG nG G0 f_greatseallaw_entries [] [] (AV.agg [AV.sl (2 : Nat) b6 none xs7]) [] ∧
                  ∃ n8 s9 s10 n11,
                    Good PG nG G0 f_book_Head [AV.agg [AV.sl (2 : Nat) b6 none xs7]] [] (AV.tup [AV.agg [AV.int Go.IntKind.i64 n8, AV.str s9, AV.str s10], AV.int Go.IntKind.i64 n11]) [] ∧
                      ∃ b12 xs13,
                        Good PG nG G0 f_greatseallaw_entries [] [] (AV.agg [AV.sl (2 : Nat) b12 none xs13]) [] ∧
                          ∃ b14 xs15 n16,
                            Good PG nG G0 f_show_Growth [AV.agg [AV.sl (2 : Nat) b12 none xs13], AV.int Go.IntKind.i64 (1 : Int)] [] (AV.tup [AV.sl (1 : Nat) b14 none xs15, AV.int Go.IntKind.i64 n16]) [] ∧
                              ∃ n17 s18 s19 b20 n21,
                                Good PG nG G0 f_client_Follow [AV.agg [AV.int Go.IntKind.i64 (0 : Int), AV.str [], AV.str [], AV.bool false], AV.agg [AV.int Go.IntKind.i64 n2, AV.str s3, AV.str s4], AV.sl (1 : Nat) true none []] []
                                    (AV.tup [AV.agg [AV.int Go.IntKind.i64 n17, AV.str s18, AV.str s19, AV.bool b20], AV.int Go.IntKind.i64 n21]) [] ∧
                                  ∃ n22 s23 s24 b25 n26,
                                    Good PG nG G0 f_client_Follow [AV.agg [AV.int Go.IntKind.i64 n17, AV.str s18, AV.str s19, AV.bool b20], AV.agg [AV.int Go.IntKind.i64 n8, AV.str s9, AV.str s10], AV.sl (1 : Nat) b14 none xs15] []
                                        (AV.tup [AV.agg [AV.int Go.IntKind.i64 n22, AV.str s23, AV.str s24, AV.bool b25], AV.int Go.IntKind.i64 n26]) [] ∧
                                      ∃ n27 s28 s29 b30 n31,
                                        Good PG nG G0 f_client_Follow [AV.agg [AV.int Go.IntKind.i64 n17, AV.str s18, AV.str s19, AV.bool b20], AV.agg [AV.int Go.IntKind.i64 n8, AV.str s9, AV.str s10], AV.sl (1 : Nat) true none []] []
                                            (AV.tup [AV.agg [AV.int Go.IntKind.i64 n27, AV.str s28, AV.str s29, AV.bool b30], AV.int Go.IntKind.i64 n31]) [] ∧
                                          ∃ n32 s33 s34 b35 n36,
                                            Good PG nG G0 f_client_Follow [AV.agg [AV.int Go.IntKind.i64 n22, AV.str s23, AV.str s24, AV.bool b25], AV.agg [AV.int Go.IntKind.i64 n2, AV.str s3, AV.str s4], AV.sl (1 : Nat) true none []] []
                                                (AV.tup [AV.agg [AV.int Go.IntKind.i64 n32, AV.str s33, AV.str s34, AV.bool b35], AV.int Go.IntKind.i64 n36]) [] ∧
                                              ∃ b37 xs38,
                                                Good PG nG G0 f_greatseallaw_entries [] [] (AV.agg [AV.sl (2 : Nat) b37 none xs38]) [] ∧
                                                  ∃ n39 s40 b41 xs42 n43,
                                                    Good PG nG G0 f_show_Entry [AV.agg [AV.sl (2 : Nat) b37 none xs38], AV.int Go.IntKind.i64 (2 : Int)] []
                                                        (AV.tup [AV.agg [AV.int Go.IntKind.i64 n39, AV.str s40], AV.sl (2 : Nat) b41 none xs42, AV.int Go.IntKind.i64 n43]) [] ∧
                                                      ifK (n5 == (0 : Int))
                                                        (ifK (n11 == (0 : Int))
                                                          (ifK (n16 == (0 : Int))
                                                            (ifK (n21 == (0 : Int))
                                                              (ifK (n26 == (0 : Int))
                                                                (ifK (n31 == (7 : Int))
                                                                  (ifK (n36 == (6 : Int))
                                                                    (ifK (n43 == (0 : Int))
                                                                      (ifK (eqAll [AV.int Go.IntKind.i64 n22, AV.str s23, AV.str s24] [AV.int Go.IntKind.i64 n8, AV.str s9, AV.str s10])
                                                                        (ifK b30
                                                                          (ifK (eqAll [AV.int Go.IntKind.i64 n27, AV.str s28, AV.str s29] [AV.int Go.IntKind.i64 n2, AV.str s3, AV.str s4])
                                                                            (∃ b44 xs45,
                                                                              Good PG nG G0 f_greatseallaw_entries [] [] (AV.agg [AV.sl (2 : Nat) b44 none xs45]) [] ∧
                                                                                (0 : Int) ≤ (2 : Int) ∧
                                                                                  ∃ n46 s47,
                                                                                    xs45[(2 : Nat)]? = some [AV.int Go.IntKind.i64 n46, AV.str s47] ∧
                                                                                      ∃ n48,
                                                                                        Good PG nG G0 f_client_Sees
                                                                                            [AV.agg [AV.int Go.IntKind.i64 n22, AV.str s23, AV.str s24, AV.bool b25], AV.int Go.IntKind.i64 (2 : Int),
                                                                                              AV.agg [AV.int Go.IntKind.i64 n46, AV.str s47], AV.sl (2 : Nat) b41 none xs42]
                                                                                            [] (AV.int Go.IntKind.i64 n48) [] ∧
                                                                                          ifK (n48 == (0 : Int))
                                                                                            (∃ b49 xs50,
                                                                                              Good PG nG G0 f_greatseallaw_entries [] [] (AV.agg [AV.sl (2 : Nat) b49 none xs50]) [] ∧
                                                                                                (0 : Int) ≤ (0 : Int) ∧
                                                                                                  ∃ n51 s52,
                                                                                                    xs50[(0 : Nat)]? = some [AV.int Go.IntKind.i64 n51, AV.str s52] ∧
                                                                                                      ∃ n53,
                                                                                                        Good PG nG G0 f_client_Sees
                                                                                                            [AV.agg [AV.int Go.IntKind.i64 n22, AV.str s23, AV.str s24, AV.bool b25], AV.int Go.IntKind.i64 (2 : Int),
                                                                                                              AV.agg [AV.int Go.IntKind.i64 n51, AV.str s52], AV.sl (2 : Nat) b41 none xs42]
                                                                                                            [] (AV.int Go.IntKind.i64 n53) [] ∧
                                                                                                          R (AV.bool (n53 == (7 : Int))) [])
                                                                                            (R (AV.bool false) []))
                                                                            (R (AV.bool false) []))
                                                                          (R (AV.bool false) []))
                                                                        (R (AV.bool false) []))
                                                                      (R (AV.bool false) []))
                                                                    (R (AV.bool false) []))
                                                                  (R (AV.bool false) []))
                                                                (R (AV.bool false) []))
                                                              (R (AV.bool false) []))
                                                            (R (AV.bool false) []))
                                                          (R (AV.bool false) []))
                                                        (R (AV.bool false) [])) :
  Hold (runF PG ty nG G0 an_greatseallaw_followed f_greatseallaw_followed [] [] R) := kshow h (by kernel_rfl)

end Go.Ab

namespace Go.Ab
open Go.Proofs Go.Gs
variable {G0 : Nat → Option Obj}

def HX (h : Hd) : List AV := [.int .i64 h.n, .str h.log, .str h.mp]

theorem good_noteCheck (h : Hd) : Good PG nG G0 f_note_Check [.agg [.int .i64 h.n, .str h.log, .str h.mp]] [] (.int .i64 (checkH h)) [] := by
  refine good_of_run prOk (by kernel_rfl) (note_Check_run _ _ _ G0 _ ?_)
  simp only [ifK_iff, decide_eq_true_eq, decide_eq_false_iff_not]
  unfold checkH
  refine ⟨fun h1 => ⟨by rw [if_pos (by omega)], trivial⟩, fun h1 => ⟨fun h2 => ⟨by rw [if_pos (by omega)], trivial⟩, fun h2 => ?_⟩⟩
  rw [if_neg (show ¬ (h.n < 0 ∨ 24 < h.n) by omega)]
  exact ⟨fun h3 => ⟨by rw [if_pos (by omega)], trivial⟩, fun h3 => ⟨fun h4 => ⟨by rw [if_pos (by omega)], trivial⟩, fun h4 => ⟨by rw [if_neg (by omega)], trivial⟩⟩⟩

theorem good_CheckHead (h : Hd) : Good PG nG G0 f_greatsealref_CheckHead [.agg [.int .i64 h.n, .str h.log, .str h.mp]] [] (.int .i64 (checkH h)) [] := by
  refine good_of_run prOk (by kernel_rfl) (greatsealref_CheckHead_run _ _ _ G0 _ ⟨_, good_in _ _ _, ?_⟩)
  simp only [ifK_iff, Bool.not_eq_true', Bool.not_eq_false', decide_eq_true_eq, decide_eq_false_iff_not]
  unfold checkH
  refine ⟨fun h1 => ⟨by rw [if_pos (by omega)], trivial⟩, fun h1 => ?_⟩
  rw [if_neg (show ¬ (h.n < 0 ∨ 24 < h.n) by omega)]
  refine ⟨fun h3 => ⟨by rw [if_pos (by split at h3 <;> omega)], trivial⟩, fun h3 => ⟨by rw [if_neg (by split at h3 <;> omega)], trivial⟩⟩

theorem good_IndexHead_not (l : List Hd) (nl : Bool) (hl : (l.length : Int) ≤ 9223372036854775806) (v : Hd) (hv : v ∉ l) : Good PG nG G0 f_slices_Index_Head [.sl 3 nl none (l.map HX), .agg [.int .i64 v.n, .str v.log, .str v.mp]] [] (.int .i64 (-1)) [] := by
  refine good_of_run prOk (by kernel_rfl) (slices_Index_Head_run nl _ _ _ _ G0 _ ?_)
  rw [List.length_map]
  refine loop_down (D := fun i : Nat => Does PG nG G0 (fnOf PG f_slices_Index_Head) 0 (lp PG f_slices_Index_Head 0) (mkT 19 [(0, .sl 3 nl none (l.map HX)), (3, .ref 0 0), (7, .int .i64 l.length), (8, .int .i64 i)]) [some (.var [.int .i64 v.n, .str v.log, .str v.mp])] fun r' H'' => r' = .int .i64 (-1) ∧ H'' = []) l.length ?_ (fun i hi ih => ?_)
  · refine does_of_run prOk (slices_Index_Head_l0_run G0 _ _ _ _ _ _ _ _ ?_)
    simp only [ifK_iff, decide_eq_true_eq, decide_eq_false_iff_not]
    exact ⟨fun h => by omega, fun _ => ⟨trivial, trivial⟩⟩
  · refine does_of_run prOk (slices_Index_Head_l0_run G0 _ _ _ _ _ _ _ _ ?_)
    simp only [ifK_iff, decide_eq_true_eq, decide_eq_false_iff_not, Int.toNat_natCast]
    rw [wrapI (by omega) (by omega)]
    refine ⟨fun _ => ⟨by omega, _, _, _, getX hi, fun h => ?_, fun _ => ih⟩, fun h => by omega⟩
    rw [eqAll_hd] at h
    exact absurd (by rw [of_decide_eq_true h]; exact List.getElem_mem hi) hv

theorem good_ContainsHead_not (l : List Hd) (nl : Bool) (hl : (l.length : Int) ≤ 9223372036854775806) (v : Hd) (hv : v ∉ l) : Good PG nG G0 f_slices_Contains_Head [.sl 3 nl none (l.map HX), .agg [.int .i64 v.n, .str v.log, .str v.mp]] [] (.bool false) [] :=
  good_of_run prOk (by kernel_rfl) (slices_Contains_Head_run nl _ _ _ _ G0 _ ⟨_, good_IndexHead_not l nl hl v hv, rfl, rfl⟩)

def headsTo (b : Bk) (i : Nat) : List Hd := (List.range i).map fun j => (headOf (b.take j)).1

theorem headsTo_succ (b : Bk) (i : Nat) : headsTo b (i + 1) = headsTo b i ++ [(headOf (b.take i)).1] := by simp [headsTo, List.range_succ]
theorem headsTo_len (b : Bk) (i : Nat) : (headsTo b i).length = i := by simp [headsTo]
theorem headOf_n {b : Bk} (h : checkB b = 0) : (headOf b).1.n = b.length := by rw [headOf_ok h]
theorem headsTo_not {b : Bk} (h : checkB b = 0) {i : Nat} (hi : i ≤ b.length) : (headOf (b.take i)).1 ∉ headsTo b i := by
  intro hm
  obtain ⟨j, hj, e⟩ := List.mem_map.1 hm
  have hj := List.mem_range.1 hj
  have := congrArg Hd.n e
  rw [headOf_n (checkB_take h _), headOf_n (checkB_take h _)] at this
  simp only [List.length_take] at this
  omega

theorem take_E2 (b : Bk) (i : Nat) : List.drop 0 ((b.map E2).take i) = (b.take i).map E2 := by rw [List.drop_zero, List.map_take]

theorem good_BookBegins (hG : GlobOk G0) (b : Bk) (nl : Bool) : Good PG nG G0 f_greatseallaw_BookBegins [.agg [.sl 2 nl none (b.map E2)]] [] (.bool true) [] := by
  suffices main : ∀ R : AV → List (Option Blk) → Prop, R (.bool true) [] → Hold (runF PG ty nG G0 an_greatseallaw_BookBegins f_greatseallaw_BookBegins [.agg [.sl 2 nl none (b.map E2)]] [] R) from
    good_of_run prOk (by kernel_rfl) (main _ ⟨rfl, rfl⟩)
  intro R hR
  have bk := good_booked (G0 := G0) hG
  refine greatseallaw_BookBegins_run nl _ G0 R ⟨_, bk, ?_⟩
  rw [Bool.not_true, ifF]
  refine ⟨_, good_bookCheck b nl, ifK_ne0 (fun _ => ⟨_, bk, hR⟩) fun hc => ?_⟩
  have hb24 := (checkB_ok hc).1
  have step : ∀ i : Nat, i ≤ b.length → (i < b.length → Does PG nG G0 (fnOf PG f_greatseallaw_BookBegins) 0 (lp PG f_greatseallaw_BookBegins 0)
        (mkT 83 [(1, .ref 0 0), (3, .sl 3 (i + 1 == 0) (some 1) ((headsTo b (i + 1)).map HX)), (4, .ref 2 0), (5, .int .i64 ((i + 1 : Nat) : Int))]) [some (.var [.sl 2 nl none (b.map E2)]), some (.grow 3 (i + 1)), some (.var [.sl 2 (i + 1 == 0) none ((b.take (i + 1)).map E2)])] R) →
      Does PG nG G0 (fnOf PG f_greatseallaw_BookBegins) 0 (lp PG f_greatseallaw_BookBegins 0)
        (mkT 83 [(1, .ref 0 0), (3, .sl 3 (i == 0) (some 1) ((headsTo b i).map HX)), (4, .ref 2 0), (5, .int .i64 (i : Int))]) [some (.var [.sl 2 nl none (b.map E2)]), some (.grow 3 i), some (.var [.sl 2 (i == 0) none ((b.take i).map E2)])] R := by
    intro i hi ih
    have gh := fun n' => good_Head (G0 := G0) hG (b.take i) n'
    have hci := checkB_take hc i
    rw [show (headOf (b.take i)).2 = 0 by rw [headOf_code, hci]] at gh
    refine does_of_run prOk (greatseallaw_BookBegins_l0_run G0 _ _ _ _ _ _ _ _ R ?_)
    rw [Int.toNat_natCast, take_E2, List.length_map, List.length_map, headsTo_len]
    refine ⟨_, _, _, _, gh _, Int.le_refl _, by omega, by omega, _, _, _, _, gh _, ?_⟩
    rw [eqAll_hd, decide_eq_true rfl, headOf_n hci]
    have e1 : (((b.take i).length : Int) != (i : Int)) = false := by
      have : (b.take i).length = i := by simp only [List.length_take]; omega
      rw [this]; simp
    simp only [bne_self_eq_false, Bool.not_true, ifF, e1]
    have gk := good_ContainsHead_not (G0 := G0) (headsTo b i) (i == 0) (by rw [headsTo_len]; omega) _ (headsTo_not hc hi)
    rw [headOf_n hci] at gk
    refine ⟨_, gk, ?_⟩
    rw [ifF]
    have gn := good_noteCheck (G0 := G0) (headOf (b.take i)).1
    rw [headOf_check hci, headOf_n hci] at gn
    refine ⟨_, gn, ?_⟩
    simp only [bne_self_eq_false, ifF]
    refine ⟨by simp only [List.length_cons, List.length_nil]; omega, trivial, ?_⟩
    rw [ifK_iff]
    refine ⟨fun _ => hR, fun h => ?_⟩
    have hlt : i < b.length := by
      have : (i : Int) ≠ b.length := by simpa using h
      omega
    have gp := good_Put (G0 := G0) (b.take i) (i == 0) (fun h => by rw [show i = 0 by simpa using h]; rfl) b[i]
    have ht := take_snoc hlt
    have hc2 := checkB_take hc (i + 1)
    rw [ht] at hc2
    rw [putBk_ok hci hc2] at gp
    refine ⟨by omega, _, _, getX hlt, _, _, _, gp, ?_⟩
    simp only [bne_self_eq_false, ifF]
    have ih := ih hlt
    rw [headsTo_succ, ht, List.map_append] at ih
    rw [wrapN (by omega) (by omega)]
    have e2 : ∀ x : List AV, ((i == 0) && List.isEmpty [x]) = (i + 1 == 0) := fun x => by cases (i == 0) <;> rfl
    rw [e2]
    have e3 : [HX (headOf (b.take i)).1] = [[AV.int .i64 ((b.take i).length : Int), AV.str (headOf (b.take i)).1.log, AV.str (headOf (b.take i)).1.mp]] := by rw [HX, headOf_n hci]
    rw [List.map_singleton, e3] at ih
    exact ih
  have all : ∀ m i : Nat, b.length - i ≤ m → i ≤ b.length → Does PG nG G0 (fnOf PG f_greatseallaw_BookBegins) 0 (lp PG f_greatseallaw_BookBegins 0)
        (mkT 83 [(1, .ref 0 0), (3, .sl 3 (i == 0) (some 1) ((headsTo b i).map HX)), (4, .ref 2 0), (5, .int .i64 (i : Int))]) [some (.var [.sl 2 nl none (b.map E2)]), some (.grow 3 i), some (.var [.sl 2 (i == 0) none ((b.take i).map E2)])] R := by
    intro m
    induction m with
    | zero => intro i h1 h2; exact step i h2 fun h => by omega
    | succ m ih => intro i h1 h2; exact step i h2 fun h => ih (i + 1) (by omega) h
  exact all b.length 0 (by omega) (Nat.zero_le _)
end Go.Ab

namespace Go.Ab
open Go.Proofs
set_option maxRecDepth 100000



end Go.Ab

namespace Go.Ab
open Go.Proofs Go.Gs
variable {G0 : Nat → Option Obj}

theorem pathM_ok {m : Mp} {k : Nat} (h : checkM m = 0) (hk : k < 16) : pathM m k = (triePath (fM m) k 4, 0) := by rw [pathM, if_neg (by simpa using h), if_neg (by omega), Int.toNat_natCast]

end Go.Ab

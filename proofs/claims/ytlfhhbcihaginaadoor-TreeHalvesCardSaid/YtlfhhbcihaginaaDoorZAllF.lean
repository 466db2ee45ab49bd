/- What the proofs of these laws lean on (6): Books and their heads, in plain words; Numerals read back, texts cut at a byte, heads as texts; Contracts: bytes found, texts cut, numerals read; What the runs come to; What the runs come to; Contracts: what keys come to; Contracts: what keys come to, the document's own answers; Contracts: seals of keys, row by row; maps held together; the closed fact; Contracts: the laws of what keys come to; What the runs come to; Books: values told from behind; Contracts: books; Contracts: books' texts, values; Contracts: books put, heads; the closed fact; What the runs come to; Contracts: a book, as the document says: the law; What the runs come to; Contracts: heads checked, found; a book's beginnings: t; no condition. -/
import Derived.Test.YtlfhhbcihaginaaDoorZAllE
import Derived.Lib.AtoiAll
import Derived.Lib.AtoiAllCases
import Derived.Lib.Bytealg
import Derived.Lib.ParseIntBTie
import Derived.Stop.LaidErr
import Derived.Lay
import Derived.Test.YtlfhhbcihaginaaDoorCards
import Derived.Test.YtlfhhbcihaginaaDoorTie
import Derived.OpenShut
import Derived.LaidMore
import Derived.Deep.DeepHandedRow
import Derived.Lib.LaidTab
namespace Go.Gs

abbrev En := Int × By
abbrev Bk := List En

/-- The text of an entry. -/
def textE (e : En) : By := Lib.itoa e.1 ++ 32 :: e.2

def badE (e : En) : Int := if e.1 < 0 ∨ 16 ≤ e.1 then 5 else if 12 < e.2.length then 2 else 0

def firstBad : Bk → Int
  | [] => 0
  | e :: r => if badE e ≠ 0 then badE e else firstBad r

def checkB (b : Bk) : Int := if 24 < b.length then 2 else firstBad b

theorem firstBad_ok {b : Bk} (h : firstBad b = 0) : ∀ e ∈ b, 0 ≤ e.1 ∧ e.1 < 16 ∧ e.2.length ≤ 12 := by
  induction b with
  | nil => intro e he; cases he
  | cons x r ih =>
    unfold firstBad at h
    split at h
    · rename_i hb; exact absurd h hb
    · rename_i hb
      intro e he
      rcases List.mem_cons.1 he with rfl | he
      · unfold badE at hb
        split at hb
        · simp at hb
        · split at hb
          · simp at hb
          · omega
      · exact ih h e he

theorem firstBad_mk {b : Bk} (h : ∀ e ∈ b, 0 ≤ e.1 ∧ e.1 < 16 ∧ e.2.length ≤ 12) : firstBad b = 0 := by
  induction b with
  | nil => rfl
  | cons x r ih =>
    have hx := h x (by simp)
    have : badE x = 0 := by unfold badE; rw [if_neg (by omega), if_neg (by omega)]
    unfold firstBad
    rw [if_neg (by rw [this]; simp)]
    exact ih fun e he => h e (by simp [he])

theorem checkB_ok {b : Bk} (h : checkB b = 0) : b.length ≤ 24 ∧ ∀ e ∈ b, 0 ≤ e.1 ∧ e.1 < 16 ∧ e.2.length ≤ 12 := by
  unfold checkB at h
  split at h
  · cases h
  · exact ⟨by omega, firstBad_ok h⟩

theorem checkB_mk {b : Bk} (h0 : b.length ≤ 24) (h : ∀ e ∈ b, 0 ≤ e.1 ∧ e.1 < 16 ∧ e.2.length ≤ 12) : checkB b = 0 := by
  unfold checkB
  rw [if_neg (by omega)]
  exact firstBad_mk h

theorem checkB_take {b : Bk} (h : checkB b = 0) (n : Nat) : checkB (b.take n) = 0 := by
  obtain ⟨h1, h2⟩ := checkB_ok h
  exact checkB_mk (by simp only [List.length_take]; omega) fun e he => h2 e (List.mem_of_mem_take he)

/-- Texts of all entries. -/
def textsOf (b : Bk) : List By := b.map textE

/-- Values behind all entries. -/
def valsOf (b : Bk) : Mp := b.foldl (fun m e => mPut m e.1 e.2) []

theorem valsOf_snoc (b : Bk) (e : En) : valsOf (b ++ [e]) = mPut (valsOf b) e.1 e.2 := by simp [valsOf]

theorem valsOf_nodup (b : Bk) : ((valsOf b).map (·.1)).Nodup := by
  have key : ∀ (b : Bk) (m : Mp), (m.map (·.1)).Nodup → ((b.foldl (fun m e => mPut m e.1 e.2) m).map (·.1)).Nodup := by
    intro b
    induction b with
    | nil => intro m h; exact h
    | cons e r ih => intro m h; exact ih _ (mPut_nodup h _ _)
  exact key b [] (by simp)

theorem mPut_mem {m : Mp} {k : Int} {v : By} {p : Int × By} (h : p ∈ mPut m k v) : p = (k, v) ∨ p ∈ m := by
  induction m with
  | nil => simp [mPut] at h; exact .inl h
  | cons q r ih =>
    unfold mPut at h
    split at h
    · rcases List.mem_cons.1 h with h | h
      · exact .inl h
      · exact .inr (by simp [h])
    · rcases List.mem_cons.1 h with h | h
      · exact .inr (by simp [h])
      · rcases ih h with h | h
        · exact .inl h
        · exact .inr (by simp [h])

theorem valsOf_mem {b : Bk} {p : Int × By} (h : p ∈ valsOf b) : p ∈ b := by
  have key : ∀ (b : Bk) (m : Mp), p ∈ b.foldl (fun m e => mPut m e.1 e.2) m → p ∈ b ∨ p ∈ m := by
    intro b
    induction b with
    | nil => intro m h; exact .inr h
    | cons e r ih =>
      intro m h
      rcases ih _ h with h | h
      · exact .inl (by simp [h])
      · rcases mPut_mem h with h | h
        · exact .inl (by simp [h])
        · exact .inr h
  rcases key b [] h with h | h
  · exact h
  · cases h

theorem valsOf_check {b : Bk} (h : checkB b = 0) : checkM (valsOf b) = 0 := checkM_mk fun p hp => (checkB_ok h).2 p (valsOf_mem hp)

theorem valsOf_len (b : Bk) : (valsOf b).length ≤ b.length := by
  have key : ∀ (b : Bk) (m : Mp), (b.foldl (fun m e => mPut m e.1 e.2) m).length ≤ m.length + b.length := by
    intro b
    induction b with
    | nil => intro m; exact Nat.le_refl _
    | cons e r ih =>
      intro m
      have := ih (mPut m e.1 e.2)
      rw [mPut_len] at this
      simp only [List.foldl_cons, List.length_cons]
      split at this <;> omega
  have := key b []
  simpa [valsOf] using this

/-- Texts of a book's entries are short, so that its seal is good. -/
theorem decDigits_small {u : Nat} (h : u < 100) : (Lib.decDigits u).length ≤ 2 := by
  rw [Lib.decDigits]
  split
  · simp
  · rw [Lib.decDigits, dif_pos (by omega)]; simp

theorem decDigits_len4 {u : Nat} (h : u < 100000) : (Lib.decDigits u).length ≤ 5 := by
  have step : ∀ (u k : Nat), (Lib.decDigits (u / 10)).length ≤ k → (Lib.decDigits u).length ≤ k + 1 := by
    intro u k h
    rw [Lib.decDigits]
    split
    · simp
    · simp only [List.length_append, List.length_cons, List.length_nil]; omega
  exact step u 4 (step _ 3 (step _ 2 (decDigits_small (by omega))))

theorem textE_len {e : En} (h : 0 ≤ e.1 ∧ e.1 < 16 ∧ e.2.length ≤ 12) : (textE e).length ≤ 15 := by
  unfold textE
  have he : e.1 = ((e.1.toNat : Nat) : Int) := by omega
  rw [he, itoa_nat]
  have := decDigits_small (u := e.1.toNat) (by omega)
  simp only [List.length_append, List.length_cons]; omega

theorem tRoot_short : ∀ (n : Nat) (l : List By), l.length ≤ n → n ≤ 24 → (∀ s ∈ l, s.length ≤ 15) → (tRoot l).2 = 0 ∧ (tRoot l).1.length + 7 ≤ 23 * (max 1 l.length) := by
  intro n
  induction n with
  | zero =>
    intro l h _ _
    have : l = [] := List.eq_nil_of_length_eq_zero (by omega)
    subst this
    rw [tRoot_zero rfl]; exact ⟨rfl, by simp⟩
  | succ n ih =>
    intro l hn hb hs
    rcases Nat.lt_or_ge l.length 2 with h2 | h2
    · rcases Nat.lt_or_ge l.length 1 with h1 | h1
      · have : l = [] := List.eq_nil_of_length_eq_zero (by omega)
        subst this
        rw [tRoot_zero rfl]; exact ⟨rfl, by simp⟩
      · obtain ⟨s, rfl⟩ := List.length_eq_one_iff.1 (show l.length = 1 by omega)
        have := hs s (by simp)
        have hlf : tLeaf s = (76 :: s, 0) := by unfold tLeaf; rw [if_neg (by omega)]
        rw [tRoot_one rfl, List.headD_cons, hlf]
        refine ⟨rfl, ?_⟩
        simp only [List.length_cons, List.length_nil]; omega
    · have hk1 := halfN_pos l.length
      have hk2 := halfN_lt h2
      obtain ⟨a1, a2⟩ := ih (l.take (halfN l.length)) (by simp only [List.length_take]; omega) (by omega) fun s h => hs s (List.mem_of_mem_take h)
      obtain ⟨b1, b2⟩ := ih (l.drop (halfN l.length)) (by simp only [List.length_drop]; omega) (by omega) fun s h => hs s (List.mem_of_mem_drop h)
      simp only [List.length_take, List.length_drop] at a2 b2
      have c := decDigits_len4 (u := (tRoot (l.take (halfN l.length))).1.length) (by omega)
      rw [tRoot_two h2, if_neg (by simpa using a1), if_neg (by simpa using b1)]
      unfold tNode
      rw [if_neg (by omega), itoa_nat]
      refine ⟨rfl, ?_⟩
      simp only [List.length_cons, List.length_append]
      omega

theorem texts_good {b : Bk} (h : checkB b = 0) : (tRoot (textsOf b)).2 = 0 ∧ (tRoot (textsOf b)).1.length ≤ 545 := by
  obtain ⟨h1, h2⟩ := checkB_ok h
  have hl : (textsOf b).length = b.length := by simp [textsOf]
  have := tRoot_short _ (textsOf b) (Nat.le_refl _) (by omega) fun s hs => by
    obtain ⟨e, he, rfl⟩ := List.mem_map.1 hs
    exact textE_len (h2 e he)
  exact ⟨this.1, by omega⟩

theorem textE_inj {e f : En} (he : 0 ≤ e.1) (hf : 0 ≤ f.1) (h : textE e = textE f) : e = f := by
  unfold textE at h
  have e1 : e.1 = ((e.1.toNat : Nat) : Int) := by omega
  have f1 : f.1 = ((f.1.toNat : Nat) : Int) := by omega
  rw [e1, f1, itoa_nat, itoa_nat] at h
  have no : ∀ n : Nat, (32 : UInt8) ∉ Lib.decDigits n := fun n hc => by
    have := dec_digit n _ hc
    simp at this
  obtain ⟨h1, h2⟩ := split_first (no _) (no _) h
  have := dec_inj h1
  exact Prod.ext (by omega) h2

theorem textsOf_inj : ∀ {b c : Bk}, (∀ e ∈ b, 0 ≤ e.1) → (∀ e ∈ c, 0 ≤ e.1) → textsOf b = textsOf c → b = c
  | [], [], _, _, _ => rfl
  | [], _ :: _, _, _, h => by simp [textsOf] at h
  | _ :: _, [], _, _, h => by simp [textsOf] at h
  | e :: b, f :: c, hb, hc, h => by
    simp only [textsOf, List.map_cons, List.cons.injEq] at h
    rw [textE_inj (hb e (by simp)) (hc f (by simp)) h.1, textsOf_inj (fun e he => hb e (by simp [he])) (fun e he => hc e (by simp [he])) h.2]

/-- A head. -/
structure Hd where
  n : Int
  log : By
  mp : By
  deriving DecidableEq, Inhabited

def hd0 : Hd := ⟨0, [], []⟩

/-- The head of a book. -/
def headOf (b : Bk) : Hd × Int := if checkB b ≠ 0 then (hd0, checkB b) else (⟨b.length, (tRoot (textsOf b)).1, (mapRoot (valsOf b)).1⟩, 0)

theorem headOf_ok {b : Bk} (h : checkB b = 0) : headOf b = (⟨b.length, (tRoot (textsOf b)).1, (mapRoot (valsOf b)).1⟩, 0) := by rw [headOf, if_neg (by simpa using h)]
theorem headOf_code (b : Bk) : (headOf b).2 = checkB b := by
  unfold headOf
  split
  · rfl
  · rename_i h; simpa using (show ¬ checkB b ≠ 0 from h) |> fun h => (Decidable.not_not.1 h).symm

theorem mapRoot_len {m : Mp} (h : checkM m = 0) : (mapRoot m).1.length ≤ 1173 := by
  rw [mapRoot_ok h]
  have := (tTrie_good (fM_good h) 4 0 (Nat.le_refl _)).2
  have hb : bnd 4 = 1173 := by decide
  rw [hb] at this
  exact this

/-- NO TWO BOOKS HAVE ONE HEAD. -/
theorem headOf_inj {b c : Bk} (hb : checkB b = 0) (hc : checkB c = 0) : headOf b = headOf c ↔ b = c := by
  constructor
  · intro h
    rw [headOf_ok hb, headOf_ok hc] at h
    have h2 : (tRoot (textsOf b)).1 = (tRoot (textsOf c)).1 := by injection h with h _; injection h
    have := tRoot_inj _ _ _ (Nat.le_refl _) (texts_good hb).1 (texts_good hc).1 h2
    exact textsOf_inj (fun e he => ((checkB_ok hb).2 e he).1) (fun e he => ((checkB_ok hc).2 e he).1) this
  · rintro rfl; rfl

/-- A head may be one. -/
def checkH (h : Hd) : Int := if h.n < 0 ∨ 24 < h.n then 3 else if 20000 < h.log.length ∨ 20000 < h.mp.length then 2 else 0

theorem headOf_check {b : Bk} (h : checkB b = 0) : checkH (headOf b).1 = 0 := by
  rw [headOf_ok h]
  have h1 := (checkB_ok h).1
  have h2 := (texts_good h).2
  have h3 := mapRoot_len (valsOf_check h)
  unfold checkH
  simp only
  rw [if_neg (by omega), if_neg (by omega)]

/-- Put an entry behind all. -/
def putBk (b : Bk) (e : En) : Bk × Int := if checkB b ≠ 0 then ([], checkB b) else if checkB (b ++ [e]) ≠ 0 then ([], checkB (b ++ [e])) else (b ++ [e], 0)
end Go.Gs

namespace Go.Gs

/-- A text cut at the first such byte. -/
def cutB (c : UInt8) : By → Option (By × By)
  | [] => none
  | b :: r => if b = c then some ([], r) else match cutB c r with
    | some p => some (b :: p.1, p.2)
    | none => none

theorem cutB_index (c : UInt8) : ∀ s : By, match cutB c s with
    | none => Lib.indexByte s c = -1 ∧ c ∉ s
    | some p => Lib.indexByte s c = p.1.length ∧ s = p.1 ++ c :: p.2 ∧ c ∉ p.1
  | [] => by simp [cutB, Lib.indexByte]
  | b :: r => by
    unfold cutB
    by_cases h : b = c
    · rw [if_pos h]
      simp [Lib.indexByte, h]
    · rw [if_neg h]
      have ih := cutB_index c r
      have hb : (b == c) = false := by simpa using h
      cases hc : cutB c r with
      | none =>
        rw [hc] at ih
        obtain ⟨h1, h2⟩ := ih
        refine ⟨by simp [Lib.indexByte, hb, h1], fun hm => ?_⟩
        rcases List.mem_cons.1 hm with e | hm
        · exact h e.symm
        · exact h2 hm
      | some p =>
        rw [hc] at ih
        obtain ⟨h1, h2, h3⟩ := ih
        refine ⟨?_, by rw [h2]; rfl, fun hm => ?_⟩
        · have hne : ¬ ((p.1.length : Int) = -1) := by omega
          simp [Lib.indexByte, hb, h1, hne]
        · rcases List.mem_cons.1 hm with e | hm
          · exact h e.symm
          · exact h3 hm

theorem cutB_mk {c : UInt8} : ∀ {a : By} (b : By), c ∉ a → cutB c (a ++ c :: b) = some (a, b)
  | [], b, _ => by simp [cutB]
  | x :: r, b, h => by
    have hx : x ≠ c := fun e => h (by simp [e])
    rw [List.cons_append, cutB, if_neg hx, cutB_mk b fun hm => h (by simp [hm])]

theorem cutB_some {c : UInt8} {s : By} {p : By × By} (h : cutB c s = some p) : Lib.indexByte s c = p.1.length ∧ s = p.1 ++ c :: p.2 ∧ c ∉ p.1 := by
  have := cutB_index c s
  rw [h] at this
  exact this

theorem cutB_none {c : UInt8} {s : By} (h : cutB c s = none) : Lib.indexByte s c = -1 ∧ c ∉ s := by
  have := cutB_index c s
  rw [h] at this
  exact this

/-! Numerals. -/

theorem parseUint10_snoc (c : UInt8) : ∀ (l : By) (acc : Nat), Lib.parseUint10 acc (l ++ [c]) = match Lib.parseUint10 acc l with
    | .ok u => Lib.parseUint10 u [c]
    | e => e
  | [], acc => by simp [Lib.parseUint10]
  | x :: r, acc => by
    rw [List.cons_append, Lib.parseUint10, Lib.parseUint10]
    split
    · split
      · rfl
      · split
        · rfl
        · exact parseUint10_snoc c r _
    · rfl

theorem digit_nat {d : Nat} (h : d < 10) : (UInt8.ofNat (48 + d)).toNat = 48 + d := by
  rw [UInt8.toNat_ofNat']; omega

theorem decDigits_ne (u : Nat) : Lib.decDigits u ≠ [] := by
  rw [Lib.decDigits]
  split <;> simp

theorem decDigits_digit (u : Nat) : ∀ b ∈ Lib.decDigits u, 48 ≤ b.toNat ∧ b.toNat ≤ 57 := by
  induction u using Nat.strongRecOn with
  | ind u ih =>
    rw [Lib.decDigits]
    split
    · rename_i h
      intro b hb
      have : b = UInt8.ofNat (48 + u) := by simpa using hb
      rw [this, digit_nat h]; omega
    · rename_i h
      intro b hb
      rcases List.mem_append.1 hb with hb | hb
      · exact ih (u / 10) (by omega) b hb
      · have : b = UInt8.ofNat (48 + u % 10) := by simpa using hb
        rw [this, digit_nat (by omega)]; omega

theorem parse_digits (u : Nat) (hu : u < 18446744073709551616) : Lib.parseUint10 0 (Lib.decDigits u) = .ok u := by
  induction u using Nat.strongRecOn with
  | ind u ih =>
    rw [Lib.decDigits]
    split
    · rename_i h
      simp only [Lib.parseUint10, digit_nat h]
      rw [if_pos (by omega), if_neg (by omega), if_neg (by omega)]
      congr 1; omega
    · rename_i h
      rw [parseUint10_snoc, ih (u / 10) (by omega) (by omega)]
      simp only [Lib.parseUint10, digit_nat (show u % 10 < 10 by omega)]
      rw [if_pos (by omega), if_neg (by omega), if_neg (by omega)]
      congr 1; omega

theorem atoi_itoa {n : Nat} (h : n < 9223372036854775808) : Lib.atoiAll (Lib.itoa (n : Int)) = .ok (n : Int) := by
  rw [itoa_nat]
  have h1 := parse_digits n (by omega)
  have h2 := decDigits_digit n
  have h3 := decDigits_ne n
  cases hd : Lib.decDigits n with
  | nil => exact absurd hd h3
  | cons c r =>
    rw [hd] at h1 h2
    have hc := h2 c (by simp)
    unfold Lib.atoiAll
    simp only
    rw [if_neg (by omega), Lib.parseMag, if_neg (by simp), h1]
    simp only
    rw [if_neg (by omega), if_neg (by omega), if_neg (by omega)]

/-- The number that a text is written as, and as nothing else. -/
def numB (w : By) : Option Nat :=
  match Lib.atoiAll w with
  | .ok v => if Lib.itoa v = w ∧ 0 ≤ v then some v.toNat else none
  | _ => none

theorem numB_itoa {n : Nat} (h : n < 9223372036854775808) : numB (Lib.itoa (n : Int)) = some n := by
  unfold numB
  rw [atoi_itoa h]
  simp

theorem numB_some {w : By} {n : Nat} (h : numB w = some n) : w = Lib.itoa (n : Int) ∧ n < 9223372036854775808 := by
  unfold numB at h
  split at h
  · rename_i v hv
    split at h
    · rename_i h1
      have hb := Lib.atoiAll_bounds hv
      injection h with h
      have : v = (n : Int) := by omega
      rw [← this]
      exact ⟨h1.1.symm, by omega⟩
    · cases h
  · cases h

theorem no_byte {c : UInt8} (hc : c.toNat < 48 ∨ 57 < c.toNat) (n : Nat) : c ∉ Lib.itoa (n : Int) := by
  rw [itoa_nat]
  intro h
  have := decDigits_digit n c h
  omega

/-! Seals split. -/

/-- Chapter 1's Split. -/
def splitR (s : By) : (By × By) × Int :=
  match cutB 58 s with
  | none => (([], []), 4)
  | some p =>
    match p.1 with
    | 78 :: w =>
      match numB w with
      | some n => if p.2.length < n then (([], []), 4) else ((p.2.take n, p.2.drop n), 0)
      | none => (([], []), 4)
    | _ => (([], []), 4)

theorem splitR_zero {s : By} (h : (splitR s).2 = 0) : s = 78 :: (Lib.itoa ((splitR s).1.1.length : Int) ++ 58 :: ((splitR s).1.1 ++ (splitR s).1.2)) := by
  unfold splitR at h ⊢
  cases hc : cutB 58 s with
  | none => rw [hc] at h; cases h
  | some p =>
    obtain ⟨p1, p2⟩ := p
    rw [hc] at h
    obtain ⟨-, h2, -⟩ := cutB_some hc
    simp only at h h2 ⊢
    split at h
    · rename_i w
      cases hn : numB w with
      | none => rw [hn] at h; cases h
      | some n =>
        rw [hn] at h
        simp only at h ⊢
        split at h
        · cases h
        · rename_i hl
          rw [if_neg hl]
          simp only
          rw [List.take_append_drop, List.length_take, Nat.min_eq_left (by omega), ← (numB_some hn).1]
          exact h2
    · cases h

theorem splitR_node {a b : By} (h : a.length < 9223372036854775808) : splitR (78 :: (Lib.itoa (a.length : Int) ++ 58 :: (a ++ b))) = ((a, b), 0) := by
  have hc : cutB 58 (78 :: (Lib.itoa (a.length : Int) ++ 58 :: (a ++ b))) = some (78 :: Lib.itoa (a.length : Int), a ++ b) := by
    rw [← List.cons_append]
    refine cutB_mk _ fun hm => ?_
    rcases List.mem_cons.1 hm with e | hm
    · cases e
    · exact no_byte (by decide) _ hm
  unfold splitR
  rw [hc]
  simp only
  rw [numB_itoa h]
  simp only
  rw [if_neg (by simp), List.take_left', List.drop_left'] <;> rfl

/-! Heads as texts. -/

def printR (h : Hd) : By × Int := if checkH h ≠ 0 then ([], checkH h) else
  (Lib.itoa h.n ++ 32 :: (Lib.itoa (h.log.length : Int) ++ 32 :: (Lib.itoa (h.mp.length : Int) ++ 32 :: (h.log ++ h.mp))), 0)

/-- A number, and what stands behind the blank. -/
def fieldB (s : By) : Option (Nat × By) :=
  match cutB 32 s with
  | none => none
  | some p => match numB p.1 with
    | some n => some (n, p.2)
    | none => none

def lastH (a b c : Nat) (s : By) : Hd × Int :=
  if s.length < b ∨ c ≠ s.length - b then (hd0, 1) else if checkH ⟨a, s.take b, s.drop b⟩ ≠ 0 then (hd0, checkH ⟨a, s.take b, s.drop b⟩) else (⟨a, s.take b, s.drop b⟩, 0)

def parseR (s : By) : Hd × Int :=
  match fieldB s with
  | none => (hd0, 1)
  | some (a, s1) => match fieldB s1 with
    | none => (hd0, 1)
    | some (b, s2) => match fieldB s2 with
      | none => (hd0, 1)
      | some (c, s3) => lastH a b c s3

theorem fieldB_some {s : By} {n : Nat} {r : By} (h : fieldB s = some (n, r)) : s = Lib.itoa (n : Int) ++ 32 :: r := by
  unfold fieldB at h
  split at h
  · cases h
  · rename_i p hp
    split at h
    · rename_i m hm
      injection h with h
      injection h with h1 h2
      obtain ⟨_, h3, _⟩ := cutB_some hp
      rw [h3, (numB_some hm).1, h1, h2]
    · cases h

theorem fieldB_mk {n : Nat} (hn : n < 9223372036854775808) (r : By) : fieldB (Lib.itoa (n : Int) ++ 32 :: r) = some (n, r) := by
  unfold fieldB
  rw [cutB_mk r (no_byte (by decide) n)]
  simp only
  rw [numB_itoa hn]

theorem parse_print {h : Hd} (hc : checkH h = 0) : parseR (printR h).1 = (h, 0) := by
  obtain ⟨n, log, mp⟩ := h
  have h1 : 0 ≤ n ∧ n ≤ 24 ∧ log.length ≤ 20000 ∧ mp.length ≤ 20000 := by
    unfold checkH at hc
    split at hc
    · cases hc
    · split at hc
      · cases hc
      · simp only at *; omega
  obtain ⟨k, rfl⟩ : ∃ k : Nat, n = k := ⟨n.toNat, by omega⟩
  unfold printR
  rw [if_neg (by simpa using hc)]
  simp only
  unfold parseR
  rw [fieldB_mk (by omega)]
  simp only
  rw [fieldB_mk (by omega)]
  simp only
  rw [fieldB_mk (by omega)]
  simp only
  unfold lastH
  rw [if_neg (by simp), List.take_left' rfl, List.drop_left' rfl, if_neg (by simpa using hc)]

theorem print_parse {s : By} (h : (parseR s).2 = 0) : checkH (parseR s).1 = 0 ∧ printR (parseR s).1 = (s, 0) := by
  unfold parseR at h ⊢
  cases h1 : fieldB s with
  | none => rw [h1] at h; cases h
  | some p =>
    obtain ⟨a, s1⟩ := p
    rw [h1] at h
    simp only at h ⊢
    cases h2 : fieldB s1 with
    | none => rw [h2] at h; cases h
    | some p =>
      obtain ⟨b, s2⟩ := p
      rw [h2] at h
      simp only at h ⊢
      cases h3 : fieldB s2 with
      | none => rw [h3] at h; cases h
      | some p =>
        obtain ⟨c, s3⟩ := p
        rw [h3] at h
        simp only at h ⊢
        unfold lastH at h ⊢
        split at h
        · cases h
        · rename_i h4
          rw [if_neg h4]
          split at h
          · rename_i h5; exact absurd h h5
          · rename_i h5
            rw [if_neg h5]
            have h6 : checkH ⟨a, s3.take b, s3.drop b⟩ = 0 := by simpa using h5
            refine ⟨h6, ?_⟩
            unfold printR
            rw [if_neg h5]
            simp only
            rw [List.take_append_drop, List.length_take, List.length_drop, Nat.min_eq_left (by omega), show s3.length - b = c by omega, ← fieldB_some h3, ← fieldB_some h2, ← fieldB_some h1]

theorem printR_inj {h g : Hd} (hh : checkH h = 0) (hg : checkH g = 0) : (printR h).1 = (printR g).1 ↔ h = g := by
  constructor
  · intro e
    have h1 := parse_print hh
    rw [e, parse_print hg] at h1
    exact ((Prod.mk.injEq ..).mp h1).1.symm
  · rintro rfl; rfl

/-! What SplitN makes of a text. -/
def piecesB : Nat → By → List By
  | 0, s => [s]
  | k + 1, s => match cutB 32 s with
    | some p => p.1 :: piecesB k p.2
    | none => [s]

theorem piecesB_len : ∀ (n k : Nat), k ≤ n → ∀ s : By, s.length ≤ k → piecesB k s = piecesB s.length s
  | _, 0, _, s, h => by
    have : s = [] := List.eq_nil_of_length_eq_zero (by omega)
    rw [this]; rfl
  | 0, k + 1, hk, _, _ => by omega
  | n + 1, k + 1, hk, s, h => by
    cases s with
    | nil => simp [piecesB, cutB]
    | cons x r =>
      simp only [List.length_cons] at h ⊢
      unfold piecesB
      cases hc : cutB 32 (x :: r) with
      | none => rfl
      | some p =>
        simp only
        have h1 := (cutB_some hc).2.1
        have h2 : p.2.length ≤ r.length := by
          have := congrArg List.length h1
          simp only [List.length_cons, List.length_append] at this
          omega
        rw [piecesB_len n k (by omega) p.2 (by omega), piecesB_len n r.length (by omega) p.2 h2]

theorem piecesB_min (k : Nat) (s : By) : piecesB k s = piecesB (min k s.length) s := by
  rcases Nat.le_total s.length k with h | h
  · rw [Nat.min_eq_right h, piecesB_len k k (Nat.le_refl _) s h]
  · rw [Nat.min_eq_left h]
end Go.Gs

namespace Go.Ab
open Go.Proofs Go.Gs Go.RowKit
variable {G0 : Nat → Option Obj}

/-- What the two variables of errors hold. -/
def GlobE (G0 : Nat → Option Obj) : Prop := ∀ w : World, (∀ b, b < nG → w.heap[b]? = G0 b) →
  (∃ tp p, w.var? Tryd.prog "strconv.ErrSyntax" = some #[.iface tp p]) ∧ ∃ tp p, w.var? Tryd.prog "strconv.ErrRange" = some #[.iface tp p]

theorem good_libB {P : Program} {nG : Nat} {G0 : Nat → Option Obj} {f : FuncId} {args : List AV} {vals : List Value} {r : AV} (hb : hasB P f = true)
    (hargs : ∀ (K : KM) (S : Stb) (w : World) (us : List Value), VRs K S w args us → us = vals)
    (h : ∀ w : World, (∀ b, b < nG → w.heap[b]? = G0 b) → Calls P f vals.toArray w fun e w' => ∃ v, e = .returned v ∧ (∀ (K : KM) (S : Stb), VR K S w' r v) ∧ Below w.heap.size w w') : Good P nG G0 f args [] r [] := by
  have hb' := hb
  unfold hasB at hb'
  split at hb'
  · rename_i fn hf
    simp only [Bool.and_eq_true, Bool.not_eq_true'] at hb'
    refine ⟨⟨fn, hf, hb'.1, hb'.2⟩, fun w K S us hrel hus => ?_⟩
    rw [hargs K S w us hus]
    refine (h w hrel.fix).mono fun e w' ⟨v, he, hv, hw⟩ => ?_
    obtain ⟨g1, g2⟩ := hrel.ext (n0 := 0) (S' := fun _ _ => False) (w' := w') hw.os hw.tape hw.output hw.size (fun b hb => hw.block b hb) (fun b off hs => hs.elim)
    exact ⟨v, K, _, he, g1, hv _ _, g2⟩
  · cases hb'

theorem arg_s {K : KM} {S : Stb} {w : World} {s : By} {us : List Value} (h : VRs K S w [.str s] us) : us = [.string ⟨s.toArray⟩] := by
  obtain ⟨hl, hv⟩ := h
  match us, hl with
  | [u], _ => rw [VR_str (hv 0 _ u rfl rfl)]

theorem arg_ss {K : KM} {S : Stb} {w : World} {s t : By} {us : List Value} (h : VRs K S w [.str s, .str t] us) : us = [.string ⟨s.toArray⟩, .string ⟨t.toArray⟩] := by
  obtain ⟨hl, hv⟩ := h
  match us, hl with
  | [u, v], _ => rw [VR_str (hv 0 _ u rfl rfl), VR_str (hv 1 _ v rfl rfl)]

theorem arg_si {K : KM} {S : Stb} {w : World} {s : By} {k : IntKind} {n : Int} {us : List Value} (h : VRs K S w [.str s, .int k n] us) : us = [.string ⟨s.toArray⟩, .int k n] := by
  obtain ⟨hl, hv⟩ := h
  match us, hl with
  | [u, v], _ => rw [VR_str (hv 0 _ u rfl rfl), VR_int (hv 1 _ v rfl rfl)]

theorem arg_ii {K : KM} {S : Stb} {w : World} {k l : IntKind} {m n : Int} {us : List Value} (h : VRs K S w [.int k m, .int l n] us) : us = [.int k m, .int l n] := by
  obtain ⟨hl, hv⟩ := h
  match us, hl with
  | [u, v], _ => rw [VR_int (hv 0 _ u rfl rfl), VR_int (hv 1 _ v rfl rfl)]

theorem arg_sii {K : KM} {S : Stb} {w : World} {s : By} {k l : IntKind} {m n : Int} {us : List Value} (h : VRs K S w [.str s, .int k m, .int l n] us) : us = [.string ⟨s.toArray⟩, .int k m, .int l n] := by
  obtain ⟨hl, hv⟩ := h
  match us, hl with
  | [u, v, x], _ => rw [VR_str (hv 0 _ u rfl rfl), VR_int (hv 1 _ v rfl rfl), VR_int (hv 2 _ x rfl rfl)]

theorem PR.vra {K : KM} {S : Stb} {w : World} {u : Value} {y : AV} (h : PR S w y u) : VRa K S w y u := by
  cases h <;> simp only [VRa] <;> refine PR.vrc ?_ <;> constructor <;> assumption

theorem vr_two {K : KM} {S : Stb} {w : World} {a b : AV} {u v : Value} (ha : PR S w a u) (hb : PR S w b v) : VR K S w (.tup [a, b]) (.tuple #[u, v]) := by
  refine ⟨#[u, v], rfl, rfl, fun j y x hy hx => ?_⟩
  match j with
  | 0 => cases hy; cases hx; exact ha.vra
  | 1 => cases hy; cases hx; exact hb.vra
  | j + 2 => simp at hy

theorem good_IndexByte (s : By) : Good PG nG G0 f_strings_IndexByte [.str s, .int .u8 58] [] (.int .i64 (Lib.indexByte s 58)) [] :=
  good_libB (vals := [.string ⟨s.toArray⟩, .int .u8 58]) (by kernel_rfl) (fun K S w us hus => arg_si hus) fun w _ => (Tryd.strings_IndexByte ⟨s.toArray⟩ 58 w).mono fun e w' ⟨he, hw⟩ => ⟨_, he, fun _ _ => by
    simpa using (PR.int .i64 (Lib.indexByte s 58)).vr, hw ▸ Below.refl _ _⟩

theorem good_Index1 (s : By) (c : UInt8) : Good PG nG G0 f_strings_Index [.str s, .str [c]] [] (.int .i64 (Lib.indexByte s c)) [] :=
  good_libB (vals := [.string ⟨s.toArray⟩, .string ⟨#[c]⟩]) (by kernel_rfl) (fun K S w us hus => arg_ss hus) fun w _ => (Tryd.strings_Index_one ⟨s.toArray⟩ c w).mono fun e w' ⟨he, hw⟩ => ⟨_, he, fun _ _ => by
    simpa using (PR.int .i64 (Lib.indexByte s c)).vr, hw ▸ Below.refl _ _⟩

theorem good_liteIndex1 (s : By) (c : UInt8) : Good PG nG G0 f_internal_stringslite_Index [.str s, .str [c]] [] (.int .i64 (Lib.indexByte s c)) [] :=
  good_libB (vals := [.string ⟨s.toArray⟩, .string ⟨#[c]⟩]) (by kernel_rfl) (fun K S w us hus => arg_ss hus) fun w _ => (Tryd.stringslite_Index_one ⟨s.toArray⟩ c w).mono fun e w' ⟨he, hw⟩ => ⟨_, he, fun _ _ => by
    simpa using (PR.int .i64 (Lib.indexByte s c)).vr, hw ▸ Below.refl _ _⟩

theorem good_FormatInt (hG : GlobOk G0) (n : Int) (h0 : -9223372036854775808 ≤ n) (h1 : n ≤ 9223372036854775807) : Good PG nG G0 f_strconv_FormatInt [.int .i64 n, .int .i64 10] [] (.str (Lib.itoa n)) [] :=
  good_lib (vals := [.int .i64 n, .int .i64 10]) (v := .string ⟨(Lib.itoa n).toArray⟩) (by kernel_rfl) (fun K S w us hus => arg_ii hus) (fun K S w => (PR.str _).vr) fun w hw => Tryd.strconv_FormatInt_10 n h0 h1 w (hG w hw)

/-- What is read of a numeral, and whether that is an error. -/
def atoiV (s : By) : Int := match Lib.atoiAll s with
  | .ok v => v
  | .range => Lib.atoiSat s
  | _ => 0
def atoiE (s : By) : Bool := match Lib.atoiAll s with
  | .ok _ => false
  | _ => true
def errV (b : Bool) : AV := match b with
  | true => .iface
  | false => .nilIface

theorem below_of_bytes {w w' : World} {e : TypeId} (h : w' = w ∨ ∃ t, w' = Lib.bytesWorld w e t) : Below w.heap.size w w' := by
  rcases h with rfl | ⟨t, rfl⟩
  · exact Below.refl _ _
  · exact Lib.bytesWorld_below _ _ _

theorem good_Atoi (hE : GlobE G0) (s : By) (hs : s.length ≤ 140737488351232) : Good PG nG G0 f_strconv_Atoi [.str s] [] (.tup [.int .i64 (atoiV s), errV (atoiE s)]) [] := by
  have hsz : (⟨s.toArray⟩ : ByteArray).size = s.length := by simp [ByteArray.size]
  refine good_libB (vals := [.string ⟨s.toArray⟩]) (by kernel_rfl) (fun K S w us hus => arg_s hus) fun w hw => ?_
  obtain ⟨⟨t1, p1, e1⟩, t2, p2, e2⟩ := hE w hw
  unfold atoiV atoiE
  cases h : Lib.atoiAll s
  · rename_i v
    exact (Tryd.strconv_Atoi_ok ⟨s.toArray⟩ (by omega) v h w).mono fun e w' ⟨he, hw⟩ => ⟨_, he, fun _ _ => vr_two (.int .i64 v) .nilIface, below_of_bytes hw⟩
  · exact (Tryd.strconv_Atoi_syntax_var ⟨s.toArray⟩ (by omega) h t1 p1 w e1).mono fun e w' ⟨N, he, _, _, hw⟩ => ⟨_, he, fun _ _ => vr_two (.int .i64 0) (.iface _ _), hw⟩
  · exact (Tryd.strconv_Atoi_range_var ⟨s.toArray⟩ (by omega) h t2 p2 w e2).mono fun e w' ⟨N, he, _, _, hw⟩ => ⟨_, he, fun _ _ => vr_two (.int .i64 _) (.iface _ _), hw⟩

theorem good_ParseInt (hE : GlobE G0) (s : By) (hs : s.length ≤ 140737488351232) : Good PG nG G0 f_strconv_ParseInt [.str s, .int .i64 10, .int .i64 64] [] (.tup [.int .i64 (atoiV s), errV (atoiE s)]) [] := by
  have hsz : (⟨s.toArray⟩ : ByteArray).size = s.length := by simp [ByteArray.size]
  refine good_libB (vals := [.string ⟨s.toArray⟩, .int .i64 10, .int .i64 64]) (by kernel_rfl) (fun K S w us hus => arg_sii hus) fun w hw => ?_
  obtain ⟨⟨t1, p1, e1⟩, t2, p2, e2⟩ := hE w hw
  unfold atoiV atoiE
  have hp := Lib.parseIntB_64 s
  cases h : Lib.atoiAll s
  · rename_i v
    exact (Tryd.strconv_ParseInt_10_at64_ok ⟨s.toArray⟩ (by omega) v (hp.trans h) w).mono fun e w' ⟨he, hw⟩ => ⟨_, he, fun _ _ => vr_two (.int .i64 v) .nilIface, below_of_bytes hw⟩
  · exact (Tryd.strconv_ParseInt_10_at64_syntax_var ⟨s.toArray⟩ (by omega) (hp.trans h) t1 p1 w e1).mono fun e w' ⟨N, he, _, _, hw⟩ => ⟨_, he, fun _ _ => vr_two (.int .i64 0) (.iface _ _), hw⟩
  · refine (Tryd.strconv_ParseInt_10_at64_range_var ⟨s.toArray⟩ (by omega) (hp.trans h) t2 p2 w e2).mono fun e w' h => ?_
    · obtain ⟨N, he, _, _, hw⟩ := h
      rw [Lib.intSat_64] at he
      exact ⟨_, he, fun _ _ => vr_two (.int .i64 _) (.iface _ _), hw⟩

/-- A text cut at a byte, told whole. -/
def cutR (c : UInt8) (s : By) : (By × By) × Bool := match cutB c s with
  | some p => (p, true)
  | none => ((s, []), false)

theorem good_Cut (s : By) (c : UInt8) (hs : s.length ≤ 140737488351232) : Good PG nG G0 f_strings_Cut [.str s, .str [c]] [] (.tup [.str (cutR c s).1.1, .str (cutR c s).1.2, .bool (cutR c s).2]) [] := by
  have h1 : Good PG nG G0 f_internal_stringslite_Cut [.str s, .str [c]] [] (.tup [.str (cutR c s).1.1, .str (cutR c s).1.2, .bool (cutR c s).2]) [] := by
    refine good_of_run prOk (by kernel_rfl) (internal_stringslite_Cut_run s [c] G0 _ ⟨_, good_liteIndex1 s c, ?_⟩)
    unfold cutR
    cases hc : cutB c s with
    | none =>
      obtain ⟨hi, _⟩ := cutB_none hc
      rw [hi, decide_eq_false (by omega), ifF]
      exact ⟨rfl, rfl⟩
    | some p =>
      obtain ⟨hi, he, _⟩ := cutB_some hc
      have hl : s.length = p.1.length + (p.2.length + 1) := by rw [he]; simp
      rw [hi, decide_eq_true (by omega), ifT, show (([c] : By).length : Int) = 1 from rfl, wrap64 (by omega) (by omega)]
      refine ⟨by decide, by omega, by omega, by omega, by omega, Int.le_refl _, ?_, rfl⟩
      rw [Int.toNat_natCast, Int.toNat_natCast, show ((p.1.length : Int) + 1).toNat = p.1.length + 1 by omega, List.take_length, List.drop_zero]
      have t1 : s.take p.1.length = p.1 := by rw [he, List.take_left' rfl]
      have t2 : s.drop (p.1.length + 1) = p.2 := by rw [he, ← List.drop_drop, List.drop_left' rfl]; rfl
      rw [t1, t2]
  exact good_of_run prOk (by kernel_rfl) (strings_Cut_run s [c] G0 _ ⟨_, _, _, h1, rfl, rfl⟩)

theorem setR_uno (y : List AV) (a : AV) (h : y.length = 1) : setR y 0 [a] = [a] := by
  match y, h with
  | [x], _ => rfl

/-- Split at blanks, four pieces at most. -/
theorem good_genSplit (s : By) (hs : s.length ≤ 140737488351232) : Good PG nG G0 f_strings_genSplit [.str s, .str [32], .int .i64 0, .int .i64 4] [] (.sl 1 false none ((piecesB 3 s).map S1)) [] := by
  suffices main : ∀ R : AV → List (Option Blk) → Prop, R (.sl 1 false none ((piecesB 3 s).map S1)) [] → Hold (runF PG ty nG G0 an_strings_genSplit_4 f_strings_genSplit [.str s, .str [32], .int .i64 0, .int .i64 4] [] R) from
    good_of_run prOk (by kernel_rfl) (main _ ⟨rfl, rfl⟩)
  intro R hR
  refine strings_genSplit_4_run s G0 R ?_
  rw [piecesB_min] at hR
  rw [wrap64 (show -9223372036854775808 ≤ (s.length : Int) + 1 by omega) (by omega)]
  obtain ⟨N, hN, hNe⟩ : ∃ N : Nat, (if (s.length : Int) + 1 < 4 then (s.length : Int) + 1 else 4) = ((N + 1 : Nat) : Int) ∧ N = min 3 s.length := by
    by_cases h : (s.length : Int) + 1 < 4
    · exact ⟨s.length, by rw [if_pos h]; rfl, by omega⟩
    · exact ⟨3, by rw [if_neg h]; rfl, by omega⟩
  have hN3 : N ≤ 3 := by omega
  rw [hN]
  rw [← hNe] at hR
  rw [wrap64 (show -9223372036854775808 ≤ ((N + 1 : Nat) : Int) - 1 by omega) (by omega), Int.toNat_natCast, show ((N + 1 : Nat) : Int) - 1 = (N : Int) by omega]
  refine ⟨rfl, by omega, by omega, by omega, ?_⟩
  clear hN
  generalize hL : piecesB N s = L at *
  have key : ∀ (k i : Nat) (t : By) (done : List By) (xs : List (List AV)), i + k = N → t.length ≤ 140737488351232 → xs.length = N + 1 → xs.take i = done.map S1 → done.length = i → (∀ (j : Nat) (y : List AV), xs[j]? = some y → y.length = 1) → done ++ piecesB k t = L →
      Does PG nG G0 (fnOf PG f_strings_genSplit) 0 (lp PG f_strings_genSplit 0) (mkT 66 [(0, .str t), (1, .str [32]), (2, .int .i64 0), (3, .int .i64 N), (9, .rsl 1 0 0 (N + 1)), (10, .int .i64 (i : Int))]) [some (.arr 1 xs)] R := by
    intro k
    have fin : ∀ (i : Nat) (t : By) (done : List By) (xs : List (List AV)), i ≤ N → xs.length = N + 1 → xs.take i = done.map S1 → done.length = i → (∀ (j : Nat) (y : List AV), xs[j]? = some y → y.length = 1) → done ++ [t] = L →
        (0 : Int) ≤ i ∧ (i : Int) < ((N + 1 : Nat) : Int) ∧ (0 : Int) ≤ 0 ∧ 0 ≤ IntKind.i64.wrap ((i : Int) + 1) ∧ IntKind.i64.wrap ((i : Int) + 1) ≤ (((List.take (N + 1) (List.drop 0 (xs.set (0 + Int.toNat i) (setR (xs.getD (0 + Int.toNat i) []) 0 [.str t])))).length : Nat) : Int) ∧
          R (.sl 1 false none (List.drop 0 (List.take (Int.toNat (IntKind.i64.wrap ((i : Int) + 1))) (List.take (N + 1) (List.drop 0 (xs.set (0 + Int.toNat i) (setR (xs.getD (0 + Int.toNat i) []) 0 [.str t]))))))) [] := by
      intro i t done xs hi hx hd hdl h1 he
      have hix : i < xs.length := by omega
      have e1 : setR (xs.getD i []) 0 [AV.str t] = [.str t] := by
        rw [List.getD_eq_getElem?_getD, List.getElem?_eq_getElem hix]
        exact setR_uno _ _ (h1 i _ (List.getElem?_eq_getElem hix))
      rw [wrap64 (by omega) (by omega), Int.toNat_natCast, Nat.zero_add, show ((i : Int) + 1).toNat = i + 1 by omega, e1, List.drop_zero, List.drop_zero, List.take_of_length_le (show (xs.set i [AV.str t]).length ≤ N + 1 by rw [List.length_set]; omega)]
      refine ⟨by omega, by omega, by decide, by omega, by rw [List.length_set]; omega, ?_⟩
      have e2 : (xs.set i [AV.str t]).take (i + 1) = (done ++ [t]).map S1 := by
        rw [List.take_add_one, List.take_set_of_le (Nat.le_refl i), hd, List.getElem?_set_self hix]
        simp [S1]
      rw [e2, he]
      exact hR
    induction k with
    | zero =>
      intro i t done xs hi ht hx hd hdl h1 he
      refine does_of_run prOk (strings_genSplit_4_l0_run G0 _ _ _ _ _ _ _ _ R ?_)
      rw [decide_eq_false (by omega), ifF]
      exact fin i t done xs (by omega) hx hd hdl h1 he
    | succ k ih =>
      intro i t done xs hi ht hx hd hdl h1 he
      refine does_of_run prOk (strings_genSplit_4_l0_run G0 _ _ _ _ _ _ _ _ R ?_)
      rw [decide_eq_true (by omega), ifT]
      refine ⟨_, good_Index1 t 32, ?_⟩
      unfold piecesB at he
      cases hc : cutB 32 t with
      | none =>
        rw [hc] at he
        obtain ⟨hi1, _⟩ := cutB_none hc
        rw [hi1, decide_eq_true (by decide), ifT]
        exact fin i t done xs (by omega) hx hd hdl h1 he
      | some p =>
        rw [hc] at he
        obtain ⟨hi1, het, _⟩ := cutB_some hc
        have hl : t.length = p.1.length + (p.2.length + 1) := by rw [het]; simp
        rw [hi1, decide_eq_false (by omega), ifF, Int.add_zero, wrap64 (by omega) (by omega), show (([32] : By).length : Int) = 1 from rfl, wrap64 (by omega) (by omega), wrap64 (by omega) (by omega), Int.toNat_natCast, Int.toNat_natCast, Int.toNat_natCast, Nat.zero_add, show ((p.1.length : Int) + 1).toNat = p.1.length + 1 by omega, List.take_length, List.drop_zero]
        have t1 : t.take p.1.length = p.1 := by rw [het, List.take_left' rfl]
        have t2 : t.drop (p.1.length + 1) = p.2 := by rw [het, ← List.drop_drop, List.drop_left' rfl]; rfl
        have hix : i < xs.length := by omega
        have e1 : setR (xs.getD i []) 0 [AV.str p.1] = [.str p.1] := by
          rw [List.getD_eq_getElem?_getD, List.getElem?_eq_getElem hix]
          exact setR_uno _ _ (h1 i _ (List.getElem?_eq_getElem hix))
        rw [t1, t2, e1]
        refine ⟨by decide, by omega, by omega, by omega, by omega, by omega, by omega, Int.le_refl _, ih (i + 1) p.2 (done ++ [p.1]) (xs.set i [.str p.1]) (by omega) (by omega) (by rw [List.length_set]; exact hx) ?_ (by simp [hdl]) ?_ (by rw [List.append_assoc]; exact he)⟩
        · rw [List.take_add_one, List.take_set_of_le (Nat.le_refl i), hd, List.getElem?_set_self hix]
          simp [S1]
        · intro j y hy
          rw [List.getElem?_set] at hy
          split at hy
          · rename_i e
            injection hy with hy
            rw [← hy]; rfl
          · exact h1 j y hy
  refine key N 0 s [] _ (by omega) hs (List.length_replicate ..) rfl rfl (fun j y hy => ?_) hL
  have := List.mem_replicate.1 (List.mem_of_getElem? hy)
  rw [this.2]; rfl

theorem good_SplitN (s : By) (hs : s.length ≤ 140737488351232) : Good PG nG G0 f_strings_SplitN [.str s, .str [32], .int .i64 4] [] (.sl 1 false none ((piecesB 3 s).map S1)) [] :=
  good_of_run prOk (by kernel_rfl) (strings_SplitN_run s [32] 4 G0 _ ⟨_, _, good_genSplit s hs, rfl, rfl⟩)
end Go.Ab

namespace Go.Ab
open Go.Proofs
set_option maxRecDepth 100000



end Go.Ab

namespace Go.Ab
open Go.Proofs
set_option maxRecDepth 100000



end Go.Ab

namespace Go.Ab
open Go.Proofs Go.Gs
variable {G0 : Nat → Option Obj}


/-- The path of a key, or what is wrong. -/
def pathM (m : Mp) (key : Int) : List By × Int := if checkM m ≠ 0 then ([], checkM m) else if key < 0 ∨ 16 ≤ key then ([], 5) else (triePath (fM m) key.toNat 4, 0)

end Go.Ab

namespace Go.Ab
open Go.Proofs Go.Gs
variable {G0 : Nat → Option Obj}

end Go.Ab

namespace Go.Ab
open Go.Proofs Go.Gs
variable {G0 : Nat → Option Obj}

end Go.Ab

namespace Go.Ab
open Go.Proofs Go.Gs
variable {G0 : Nat → Option Obj}

end Go.Ab

namespace Go.Ab
open Go.Proofs
set_option maxRecDepth 100000



end Go.Ab

namespace Go.Gs

/-- The last value of a key. -/
def lastG : Bk → Int → Option By
  | [], _ => none
  | e :: r, k => match lastG r k with
    | some v => some v
    | none => if k = e.1 then some e.2 else none

/-- Values, told from behind. -/
def valsRev : Bk → Mp
  | [] => []
  | e :: r => if (mGet (valsRev r) e.1).isSome then valsRev r else mPut (valsRev r) e.1 e.2

theorem valsRev_get (b : Bk) (k : Int) : mGet (valsRev b) k = lastG b k := by
  induction b with
  | nil => rfl
  | cons e r ih =>
    unfold valsRev lastG
    split
    · rename_i h
      rw [ih]
      cases hl : lastG r k with
      | some v => rfl
      | none =>
        simp only
        rw [if_neg]
        rintro rfl
        rw [ih, hl] at h
        cases h
    · rename_i h
      rw [mGet_put, ih]
      split
      · rename_i h1
        subst h1
        have : lastG r e.1 = none := by
          rw [← ih]; simpa using h
        rw [this]
      · cases lastG r k <;> rfl

theorem foldl_get (b : Bk) : ∀ (m : Mp) (k : Int), mGet (b.foldl (fun m e => mPut m e.1 e.2) m) k = match lastG b k with | some v => some v | none => mGet m k := by
  induction b with
  | nil => intro m k; rfl
  | cons e r ih =>
    intro m k
    rw [List.foldl_cons, ih, mGet_put]
    rw [lastG]
    cases lastG r k with
    | some v => rfl
    | none =>
      simp only
      split <;> rfl

theorem valsOf_get (b : Bk) (k : Int) : mGet (valsOf b) k = lastG b k := by
  unfold valsOf
  rw [foldl_get]
  cases lastG b k <;> rfl

theorem valsRev_nodup (b : Bk) : ((valsRev b).map (·.1)).Nodup := by
  induction b with
  | nil => simp [valsRev]
  | cons e r ih =>
    unfold valsRev
    split
    · exact ih
    · exact mPut_nodup ih _ _

theorem valsRev_fM (b : Bk) : fM (valsRev b) = fM (valsOf b) := by
  funext k
  unfold fM
  rw [valsRev_get, valsOf_get]

theorem vals_eq (b : Bk) : mEq (valsOf b) (valsRev b) = true := (mEq_iff (valsOf_nodup b) (valsRev_nodup b)).2 fun k => by rw [valsRev_get, valsOf_get]

theorem valsRev_mem {b : Bk} {p : Int × By} (h : p ∈ valsRev b) : p ∈ b := by
  induction b with
  | nil => cases h
  | cons e r ih =>
    unfold valsRev at h
    split at h
    · exact List.mem_cons_of_mem _ (ih h)
    · rcases mPut_mem h with rfl | h
      · exact List.mem_cons_self
      · exact List.mem_cons_of_mem _ (ih h)

theorem valsRev_check {b : Bk} (h : checkB b = 0) : checkM (valsRev b) = 0 := checkM_mk fun p hp => (checkB_ok h).2 p (valsRev_mem hp)

theorem decDigits_pow : ∀ (k u : Nat), u < 10 ^ (k + 1) → (Lib.decDigits u).length ≤ k + 1 := by
  intro k
  induction k with
  | zero =>
    intro u h
    rw [Lib.decDigits, dif_pos (by simpa using h)]
    simp
  | succ k ih =>
    intro u h
    rw [Lib.decDigits]
    split
    · simp
    · have := ih (u / 10) (by rw [Nat.pow_succ] at h; omega)
      simp only [List.length_append, List.length_cons, List.length_nil]; omega

theorem itoa_len20 {n : Int} (h0 : -9223372036854775808 ≤ n) (h1 : n ≤ 9223372036854775807) : (Lib.itoa n).length ≤ 20 := by
  have := decDigits_pow 18 n.natAbs (by omega)
  have := decDigits_pow 18 n.toNat (by omega)
  unfold Lib.itoa
  split
  · simp only [List.length_cons]; omega
  · omega

theorem loop_down {D : Nat → Prop} (n : Nat) (hend : D n) (hstep : ∀ i, i < n → D (i + 1) → D i) : D 0 := by
  have key : ∀ m i, n - i ≤ m → i ≤ n → D i := by
    intro m
    induction m with
    | zero => intro i h1 h2; obtain rfl : i = n := by omega
              exact hend
    | succ m ih =>
      intro i h1 h2
      rcases Nat.lt_or_ge i n with h | h
      · exact hstep i h (ih (i + 1) (by omega) (by omega))
      · obtain rfl : i = n := by omega
        exact hend
  exact key n 0 (by omega) (by omega)

theorem firstBad_drop {b : Bk} {i : Nat} (h : i < b.length) : firstBad (b.drop i) = if badE b[i] ≠ 0 then badE b[i] else firstBad (b.drop (i + 1)) := by
  rw [List.drop_eq_getElem_cons h]
  rfl
end Go.Gs

namespace Go.Ab
open Go.Proofs Go.Gs
variable {G0 : Nat → Option Obj}

end Go.Ab

namespace Go.Ab
open Go.Proofs Go.Gs
variable {G0 : Nat → Option Obj}

end Go.Ab

namespace Go.Ab
open Go.Proofs Go.Gs
variable {G0 : Nat → Option Obj}

theorem ifK_ne0 {n : Int} {A B : Prop} (h : n ≠ 0 → A) (h0 : n = 0 → B) : ifK (n != 0) A B := by
  rw [ifK_iff]
  exact ⟨fun e => h (by simpa using e), fun e => h0 (by simpa using e)⟩

end Go.Ab

namespace Go.Ab
open Go.Proofs
set_option maxRecDepth 100000



end Go.Ab

namespace Go.Ab
open Go.Proofs Go.Gs
variable {G0 : Nat → Option Obj}

theorem eqAll_hd (h k : Hd) : eqAll [.int .i64 h.n, .str h.log, .str h.mp] [.int .i64 k.n, .str k.log, .str k.mp] = decide (h = k) := by
  obtain ⟨a, b, c⟩ := h
  obtain ⟨d, e, f⟩ := k
  by_cases h1 : a = d <;> by_cases h2 : b = e <;> by_cases h3 : c = f <;> simp [eqAll, eqC, h1, h2, h3]

end Go.Ab

namespace Go.Ab
open Go.Proofs
set_option maxRecDepth 100000

def an_note_Check : FAnn := ⟨[], [], none, []⟩
def an_greatsealref_CheckHead : FAnn := ⟨[], [], none, []⟩

theorem note_Check_run (h0_0 : Int) (h0_1 : List UInt8) (h0_2 : List UInt8) (G0 : Nat → Option Go.Obj) (R : AV → List (Option Blk) → Prop) (h :
  ifK (decide (h0_0 < (0 : Int))) (R (AV.int Go.IntKind.i64 (3 : Int)) [])
  (ifK (decide (h0_0 > (24 : Int))) (R (AV.int Go.IntKind.i64 (3 : Int)) [])
    (ifK (decide ((↑(List.length h0_1) : Int) > (20000 : Int))) (R (AV.int Go.IntKind.i64 (2 : Int)) [])
      (ifK (decide ((↑(List.length h0_2) : Int) > (20000 : Int))) (R (AV.int Go.IntKind.i64 (2 : Int)) []) (R (AV.int Go.IntKind.i64 (0 : Int)) []))))) :
  Hold (runF PG ty nG G0 an_note_Check f_note_Check [AV.agg [AV.int Go.IntKind.i64 h0_0, AV.str h0_1, AV.str h0_2]] [] R) := kshow h (by kernel_rfl)

theorem greatsealref_CheckHead_run (h0_0 : Int) (h0_1 : List UInt8) (h0_2 : List UInt8) (G0 : Nat → Option Go.Obj) (R : AV → List (Option Blk) → Prop) (h :
  ∃ b0,
  Good PG nG G0 f_greatsealref_in [AV.int Go.IntKind.i64 h0_0, AV.int Go.IntKind.i64 (0 : Int), AV.int Go.IntKind.i64 (24 : Int)] [] (AV.bool b0) [] ∧
    ifK (!b0) (R (AV.int Go.IntKind.i64 (3 : Int)) [])
      (ifK (decide ((if (↑(List.length h0_2) : Int) > (↑(List.length h0_1) : Int) then (↑(List.length h0_2) : Int) else (↑(List.length h0_1) : Int)) > (20000 : Int))) (R (AV.int Go.IntKind.i64 (2 : Int)) [])
        (R (AV.int Go.IntKind.i64 (0 : Int)) []))) :
  Hold (runF PG ty nG G0 an_greatsealref_CheckHead f_greatsealref_CheckHead [AV.agg [AV.int Go.IntKind.i64 h0_0, AV.str h0_1, AV.str h0_2]] [] R) := kshow h (by kernel_rfl)

end Go.Ab

namespace Go.Ab
open Go.Proofs Go.Gs
variable {G0 : Nat → Option Obj}

theorem good_noteCheck (h : Hd) : Good PG nG G0 f_note_Check [.agg [.int .i64 h.n, .str h.log, .str h.mp]] [] (.int .i64 (checkH h)) [] := by
  refine good_of_run prOk (by kernel_rfl) (note_Check_run _ _ _ G0 _ ?_)
  simp only [ifK_iff, decide_eq_true_eq, decide_eq_false_iff_not]
  unfold checkH
  refine ⟨fun h1 => ⟨by rw [if_pos (by omega)], trivial⟩, fun h1 => ⟨fun h2 => ⟨by rw [if_pos (by omega)], trivial⟩, fun h2 => ?_⟩⟩
  rw [if_neg (show ¬ (h.n < 0 ∨ 24 < h.n) by omega)]
  exact ⟨fun h3 => ⟨by rw [if_pos (by omega)], trivial⟩, fun h3 => ⟨fun h4 => ⟨by rw [if_pos (by omega)], trivial⟩, fun h4 => ⟨by rw [if_neg (by omega)], trivial⟩⟩⟩

theorem good_CheckHead (h : Hd) : Good PG nG G0 f_greatsealref_CheckHead [.agg [.int .i64 h.n, .str h.log, .str h.mp]] [] (.int .i64 (checkH h)) [] := by
  refine good_of_run prOk (by kernel_rfl) (greatsealref_CheckHead_run _ _ _ G0 _ ⟨_, good_in _ _ _, ?_⟩)
  simp only [ifK_iff, Bool.not_eq_true', Bool.not_eq_false', decide_eq_true_eq, decide_eq_false_iff_not]
  unfold checkH
  refine ⟨fun h1 => ⟨by rw [if_pos (by omega)], trivial⟩, fun h1 => ?_⟩
  rw [if_neg (show ¬ (h.n < 0 ∨ 24 < h.n) by omega)]
  refine ⟨fun h3 => ⟨by rw [if_pos (by split at h3 <;> omega)], trivial⟩, fun h3 => ⟨by rw [if_neg (by split at h3 <;> omega)], trivial⟩⟩

end Go.Ab

namespace Go.Ab
open Go.Proofs Go.Gs
variable {G0 : Nat → Option Obj}

theorem numB_cases (w : By) : (atoiE w = true ∧ numB w = none) ∨ (atoiE w = false ∧ (-9223372036854775808 ≤ atoiV w ∧ atoiV w ≤ 9223372036854775807) ∧ numB w = if Lib.itoa (atoiV w) = w ∧ 0 ≤ atoiV w then some (atoiV w).toNat else none) := by
  unfold atoiE atoiV numB
  cases h : Lib.atoiAll w
  · exact .inr ⟨rfl, Lib.atoiAll_bounds h, rfl⟩
  · exact .inl ⟨rfl, rfl⟩
  · exact .inl ⟨rfl, rfl⟩

theorem cutR_some {c : UInt8} {s : By} {p : By × By} (h : cutB c s = some p) : cutR c s = (p, true) := by unfold cutR; rw [h]
theorem cutR_none {c : UInt8} {s : By} (h : cutB c s = none) : cutR c s = ((s, []), false) := by unfold cutR; rw [h]

theorem splitR_some {s : By} {p : By × By} (h : cutB 58 s = some p) : splitR s = (if p.1.head? = some 78 then (match numB (p.1.drop 1) with
    | some n => if p.2.length < n then (([], []), 4) else ((p.2.take n, p.2.drop n), 0)
    | none => (([], []), 4)) else (([], []), 4) : (By × By) × Int) := by
  obtain ⟨a, b⟩ := p
  unfold splitR
  rw [h]
  cases a with
  | nil => rfl
  | cons c w =>
    simp only [List.head?_cons, Option.some.injEq]
    by_cases hc : c = 78
    · subst hc; rw [if_pos rfl]; rfl
    · rw [if_neg hc]
      split
      · rename_i h2; injection h2 with h2 _; exact absurd h2 hc
      · rfl

theorem good_Split (hG : GlobOk G0) (hE : GlobE G0) (s : By) (hs : s.length ≤ 140737488351232) : Good PG nG G0 f_seal_Split [.str s] [] (.tup [.str (splitR s).1.1, .str (splitR s).1.2, .int .i64 (splitR s).2]) [] := by
  suffices main : ∀ R : AV → List (Option Blk) → Prop, R (.tup [.str (splitR s).1.1, .str (splitR s).1.2, .int .i64 (splitR s).2]) [] → Hold (runF PG ty nG G0 an_seal_Split f_seal_Split [.str s] [] R) from
    good_of_run prOk (by kernel_rfl) (main _ ⟨rfl, rfl⟩)
  intro R hR
  refine seal_Split_run s G0 R ⟨_, _, _, good_Cut s 58 hs, ?_⟩
  cases hc : cutB 58 s with
  | none =>
    rw [cutR_none hc, Bool.not_false, ifT]
    unfold splitR at hR
    rw [hc] at hR
    exact hR
  | some p =>
    obtain ⟨a, b⟩ := p
    obtain ⟨_, he, _⟩ := cutB_some hc
    have hl : s.length = a.length + (b.length + 1) := by rw [he]; simp
    rw [cutR_some hc, Bool.not_true, ifF]
    rw [splitR_some hc] at hR
    simp only at hR ⊢
    refine ⟨_, good_HasPrefix a [78], ?_⟩
    rw [hasPre_one]
    by_cases hh : a.head? = some 78
    · rw [if_pos hh] at hR
      rw [hh, beq_self_eq_true, Bool.not_true, ifF, Int.toNat_natCast, List.take_length, Int.toNat_natCast, List.take_length]
      have ha1 : 1 ≤ a.length := by cases a with
        | nil => cases hh
        | cons => simp
      have ga := good_Atoi (G0 := G0) hE (a.drop 1) (by rw [List.length_drop]; omega)
      refine ⟨by decide, by omega, Int.le_refl _, atoiV (a.drop 1), atoiE (a.drop 1), ?_⟩
      rcases numB_cases (a.drop 1) with ⟨h1, h2⟩ | ⟨h1, h2, h3⟩
      · rw [h1] at ga ⊢
        rw [h2] at hR
        exact ⟨ga, hR⟩
      · rw [h1] at ga ⊢
        rw [h3] at hR
        rw [ifF]
        refine ⟨ga, _, good_itoa hG _ h2.1 h2.2, by decide, by omega, Int.le_refl _, ?_⟩
        by_cases h4 : Lib.itoa (atoiV (a.drop 1)) = a.drop 1
        · rw [beq_iff_eq.2 h4, Bool.not_true, ifF]
          by_cases h5 : atoiV (a.drop 1) < 0
          · rw [if_neg (fun h => by omega)] at hR
            rw [decide_eq_true h5, ifT]; exact hR
          · rw [if_pos ⟨h4, by omega⟩] at hR
            simp only at hR
            rw [decide_eq_false h5, ifF]
            by_cases h6 : atoiV (a.drop 1) > b.length
            · rw [if_pos (by omega)] at hR
              rw [decide_eq_true h6, ifT]; exact hR
            · rw [if_neg (by omega)] at hR
              rw [decide_eq_false h6, ifF, List.drop_zero]
              exact ⟨by decide, by omega, by omega, by omega, by omega, Int.le_refl _, hR⟩
        · rw [if_neg (fun h => h4 h.1)] at hR
          rw [beq_eq_false_iff_ne.2 h4, Bool.not_false, ifT]; exact hR
    · rw [if_neg hh] at hR
      rw [beq_eq_false_iff_ne.2 hh, Bool.not_false, ifT]; exact hR

theorem good_SplitOf (hG : GlobOk G0) (hE : GlobE G0) (s : By) (hs : s.length ≤ 140737488351232) : Good PG nG G0 f_greatsealref_SplitOf [.str s] [] (.tup [.str (splitR s).1.1, .str (splitR s).1.2, .int .i64 (splitR s).2]) [] := by
  suffices main : ∀ R : AV → List (Option Blk) → Prop, R (.tup [.str (splitR s).1.1, .str (splitR s).1.2, .int .i64 (splitR s).2]) [] → Hold (runF PG ty nG G0 an_greatsealref_SplitOf f_greatsealref_SplitOf [.str s] [] R) from
    good_of_run prOk (by kernel_rfl) (main _ ⟨rfl, rfl⟩)
  intro R hR
  refine greatsealref_SplitOf_run s G0 R ⟨_, good_IndexByte s, ?_⟩
  cases hc : cutB 58 s with
  | none =>
    rw [(cutB_none hc).1, decide_eq_true (by decide), ifT]
    unfold splitR at hR
    rw [hc] at hR
    exact hR
  | some p =>
    obtain ⟨a, b⟩ := p
    obtain ⟨hi, he, hna⟩ := cutB_some hc
    have hl : s.length = a.length + (b.length + 1) := by rw [he]; simp
    rw [splitR_some hc] at hR
    simp only at hR hi he
    rw [hi, decide_eq_false (by omega), ifF]
    refine ⟨_, good_HasPrefix s [78], ?_⟩
    rw [hasPre_one]
    by_cases hh : a.head? = some 78
    · have hsh : s.head? = some 78 := by
        cases a with
        | nil => cases hh
        | cons x r => rw [he]; simpa using hh
      rw [if_pos hh] at hR
      have ha1 : 1 ≤ a.length := by cases a with
        | nil => cases hh
        | cons => simp
      rw [hsh, beq_self_eq_true, Bool.not_true, ifF, wrap64 (by omega) (by omega), Int.toNat_natCast, Int.toNat_natCast, List.take_length, show ((a.length : Int) + 1).toNat = a.length + 1 by omega]
      have t1 : s.take a.length = a := by rw [he, List.take_left' rfl]
      have t2 : s.drop (a.length + 1) = b := by rw [he, ← List.drop_drop, List.drop_left' rfl]; rfl
      rw [t1, t2, Int.toNat_natCast, List.take_length]
      have ga := good_ParseInt (G0 := G0) hE (a.drop 1) (by rw [List.length_drop]; omega)
      refine ⟨by omega, by omega, Int.le_refl _, by decide, by omega, by omega, atoiV (a.drop 1), atoiE (a.drop 1), ?_⟩
      rcases numB_cases (a.drop 1) with ⟨h1, h2⟩ | ⟨h1, h2, h3⟩
      · rw [h1] at ga ⊢
        rw [h2] at hR
        exact ⟨ga, hR⟩
      · rw [h1] at ga ⊢
        rw [h3] at hR
        rw [ifF]
        refine ⟨ga, _, good_FormatInt hG _ h2.1 h2.2, by decide, by omega, by omega, ?_⟩
        by_cases h4 : Lib.itoa (atoiV (a.drop 1)) = a.drop 1
        · rw [beq_iff_eq.2 h4, Bool.not_true, ifF]
          by_cases h5 : atoiV (a.drop 1) < 0
          · rw [if_neg (fun h => by omega)] at hR
            rw [decide_eq_true h5, ifT]; exact hR
          · rw [if_pos ⟨h4, by omega⟩] at hR
            simp only at hR
            rw [decide_eq_false h5, ifF]
            by_cases h6 : atoiV (a.drop 1) > b.length
            · rw [if_pos (by omega)] at hR
              rw [decide_eq_true h6, ifT]; exact hR
            · rw [if_neg (by omega)] at hR
              rw [decide_eq_false h6, ifF, List.drop_zero]
              exact ⟨by decide, by omega, by omega, by omega, by omega, Int.le_refl _, hR⟩
        · rw [if_neg (fun h => h4 h.1)] at hR
          rw [beq_eq_false_iff_ne.2 h4, Bool.not_false, ifT]; exact hR
    · have hsh : s.head? ≠ some 78 := by
        cases a with
        | nil => rw [he]; simp
        | cons x r => rw [he]; simpa using hh
      rw [if_neg hh] at hR
      rw [beq_eq_false_iff_ne.2 hsh, Bool.not_false, ifT]; exact hR

theorem printR_eq {h : Hd} (hc : checkH h = 0) : printR h = (Lib.itoa h.n ++ [32] ++ Lib.itoa (h.log.length : Int) ++ [32] ++ Lib.itoa (h.mp.length : Int) ++ [32] ++ h.log ++ h.mp, 0) := by
  unfold printR
  rw [if_neg (by simpa using hc)]
  simp

theorem checkH_ok' {h : Hd} (e : checkH h = 0) : 0 ≤ h.n ∧ h.n ≤ 24 ∧ h.log.length ≤ 20000 ∧ h.mp.length ≤ 20000 := by
  unfold checkH at e
  split at e
  · cases e
  · split at e
    · cases e
    · omega

theorem good_Print (hG : GlobOk G0) (h : Hd) : Good PG nG G0 f_note_Print [.agg [.int .i64 h.n, .str h.log, .str h.mp]] [] (.tup [.str (printR h).1, .int .i64 (printR h).2]) [] := by
  refine good_of_run prOk (by kernel_rfl) (note_Print_run _ _ _ G0 _ ⟨_, good_noteCheck h, ifK_ne0 (fun hc => ?_) fun hc => ?_⟩)
  · unfold printR; rw [if_pos hc]; exact ⟨rfl, rfl⟩
  · have hk := checkH_ok' hc
    have l1 := itoa_len20 (n := h.n) (by omega) (by omega)
    have l2 := itoa_len20 (n := (h.log.length : Int)) (by omega) (by omega)
    have l3 := itoa_len20 (n := (h.mp.length : Int)) (by omega) (by omega)
    rw [printR_eq hc]
    refine ⟨_, good_itoa hG _ (by omega) (by omega), by omega, _, good_itoa hG _ (by omega) (by omega), ?_, ?_, _, good_itoa hG _ (by omega) (by omega), ?_, ?_, ?_, ?_, rfl, rfl⟩ <;>
      (simp only [List.length_append, List.length_cons, List.length_nil]; omega)

theorem good_HeadText (hG : GlobOk G0) (h : Hd) : Good PG nG G0 f_greatsealref_HeadText [.agg [.int .i64 h.n, .str h.log, .str h.mp]] [] (.tup [.str (printR h).1, .int .i64 (printR h).2]) [] := by
  refine good_of_run prOk (by kernel_rfl) (greatsealref_HeadText_run _ _ _ G0 _ ⟨_, good_CheckHead h, ifK_ne0 (fun hc => ?_) fun hc => ?_⟩)
  · unfold printR; rw [if_pos hc]; exact ⟨rfl, rfl⟩
  · have hk := checkH_ok' hc
    have l1 := itoa_len20 (n := h.n) (by omega) (by omega)
    have l2 := itoa_len20 (n := (h.log.length : Int)) (by omega) (by omega)
    have l3 := itoa_len20 (n := (h.mp.length : Int)) (by omega) (by omega)
    rw [printR_eq hc]
    refine ⟨_, good_itoa hG _ (by omega) (by omega), by omega, _, good_itoa hG _ (by omega) (by omega), ?_, ?_, _, good_itoa hG _ (by omega) (by omega), ?_, ?_, ?_, ?_, rfl, rfl⟩ <;>
      (simp only [List.length_append, List.length_cons, List.length_nil]; omega)

theorem ifK_dec' {p : Prop} [Decidable p] {A B : Prop} (h : p → A) (h0 : ¬ p → B) : ifK (decide p) A B := by
  rw [ifK_iff]
  exact ⟨fun e => h (by simpa using e), fun e => h0 (by simpa using e)⟩

theorem ifK_bool' {b : Bool} {A B : Prop} (h : b = true → A) (h0 : b = false → B) : ifK b A B := ifK_iff.2 ⟨h, h0⟩
end Go.Ab

namespace Go.Ab
open Go.Proofs Go.Gs
variable {G0 : Nat → Option Obj}

theorem good_Parse (hG : GlobOk G0) (hE : GlobE G0) (s : By) (hs : s.length ≤ 140737488351232) : Good PG nG G0 f_note_Parse [.str s] [] (.tup [.agg [.int .i64 (parseR s).1.n, .str (parseR s).1.log, .str (parseR s).1.mp], .int .i64 (parseR s).2]) [] := by
  suffices main : ∀ R : AV → List (Option Blk) → Prop, R (.tup [.agg [.int .i64 (parseR s).1.n, .str (parseR s).1.log, .str (parseR s).1.mp], .int .i64 (parseR s).2]) [] → Hold (runF PG ty nG G0 an_note_Parse f_note_Parse [.str s] [] R) from
    good_of_run prOk (by kernel_rfl) (main _ ⟨rfl, rfl⟩)
  intro R hR
  refine note_Parse_run s G0 R ?_
  have step : ∀ (i : Nat) (t : By) (x y z : Int), i < 3 → t.length ≤ 140737488351232 → (fieldB t = none → R (.tup [.agg [.int .i64 0, .str [], .str []], .int .i64 1]) []) →
      (∀ a r, fieldB t = some (a, r) → Does PG nG G0 (fnOf PG f_note_Parse) 0 (lp PG f_note_Parse 0) (mkT 83 [(0, .str r), (2, .ref 0 0), (4, .ref 1 0), (13, .int .i64 ((i : Int) + 1))])
        [some (.var [.int .i64 0, .str [], .str []]), some (.var [.int .i64 (if i = 0 then (a : Int) else x), .int .i64 (if i = 1 then (a : Int) else y), .int .i64 (if i = 2 then (a : Int) else z)])] R) →
      Does PG nG G0 (fnOf PG f_note_Parse) 0 (lp PG f_note_Parse 0) (mkT 83 [(0, .str t), (2, .ref 0 0), (4, .ref 1 0), (13, .int .i64 (i : Int))]) [some (.var [.int .i64 0, .str [], .str []]), some (.var [.int .i64 x, .int .i64 y, .int .i64 z])] R := by
    intro i t x y z hi ht hbad hok
    refine does_of_run prOk (note_Parse_l0_run G0 _ _ _ _ _ _ _ _ R ?_)
    rw [decide_eq_true (show (i : Int) < 3 by omega), ifT, wrapI (show 0 ≤ (i : Int) + 1 by omega) (by omega)]
    refine ⟨_, _, _, good_Cut t 32 ht, ?_⟩
    unfold fieldB at hbad hok
    cases hc : cutB 32 t with
    | none =>
      rw [hc] at hbad
      rw [cutR_none hc, Bool.not_false]
      have ga := good_Atoi (G0 := G0) hE t ht
      refine ⟨atoiV t, atoiE t, ?_⟩
      cases hb : atoiE t with
      | true => rw [hb] at ga; exact ⟨ga, hbad rfl⟩
      | false => rw [hb] at ga; exact ⟨ga, hbad rfl⟩
    | some p =>
      obtain ⟨w, r⟩ := p
      obtain ⟨_, he, _⟩ := cutB_some hc
      have hl : t.length = w.length + (r.length + 1) := by rw [he]; simp
      rw [hc] at hbad hok
      simp only at hbad hok
      rw [cutR_some hc, Bool.not_true]
      have ga := good_Atoi (G0 := G0) hE w (by omega)
      refine ⟨atoiV w, atoiE w, ?_⟩
      rcases numB_cases w with ⟨h1, h2⟩ | ⟨h1, h2, h3⟩
      · rw [h1] at ga ⊢
        rw [h2] at hbad
        exact ⟨ga, hbad rfl⟩
      · rw [h1] at ga ⊢
        rw [ifF]
        refine ⟨ga, ?_⟩
        rw [ifF]
        refine ⟨_, good_itoa hG _ h2.1 h2.2, ?_⟩
        by_cases h4 : Lib.itoa (atoiV w) = w
        · rw [show (Lib.itoa (atoiV w) == w) = true from beq_iff_eq.2 h4, Bool.not_true, ifF]
          by_cases h5 : atoiV w < 0
          · rw [if_neg (fun h => by omega)] at h3
            rw [h3] at hbad
            rw [decide_eq_true h5, ifT]; exact hbad rfl
          · rw [if_pos ⟨h4, by omega⟩] at h3
            have := hok (atoiV w).toNat r (by rw [h3])
            rw [show (((atoiV w).toNat : Nat) : Int) = atoiV w by omega] at this
            rw [decide_eq_false h5, ifF]
            refine ⟨by omega, by omega, ?_⟩
            have hi3 : i = 0 ∨ i = 1 ∨ i = 2 := by omega
            rcases hi3 with rfl | rfl | rfl
            · exact this
            · exact this
            · exact this
        · rw [if_neg (fun h => h4 h.1)] at h3
          rw [h3] at hbad
          rw [show (Lib.itoa (atoiV w) == w) = false from beq_eq_false_iff_ne.2 h4, Bool.not_false, ifT]; exact hbad rfl
  have flen : ∀ {t r : By} {a : Nat}, fieldB t = some (a, r) → r.length ≤ t.length := fun {t r a} h => by
    have := congrArg List.length (fieldB_some h)
    simp only [List.length_append, List.length_cons] at this; omega
  unfold parseR at hR
  refine step 0 s 0 0 0 (by decide) hs (fun h => by rw [h] at hR; exact hR) fun a s1 h1 => ?_
  rw [h1] at hR
  simp only at hR
  have l1 := flen h1
  refine step 1 s1 a 0 0 (by decide) (by omega) (fun h => by rw [h] at hR; exact hR) fun b s2 h2 => ?_
  rw [h2] at hR
  simp only at hR
  have l2 := flen h2
  refine step 2 s2 a b 0 (by decide) (by omega) (fun h => by rw [h] at hR; exact hR) fun c s3 h3 => ?_
  rw [h3] at hR
  simp only at hR
  have l3 := flen h3
  unfold lastH at hR
  show Does PG nG G0 (fnOf PG f_note_Parse) 0 (lp PG f_note_Parse 0) (mkT 83 [(0, .str s3), (2, .ref 0 0), (4, .ref 1 0), (13, .int .i64 (2 + 1))])
    [some (.var [.int .i64 0, .str [], .str []]), some (.var [.int .i64 (a : Int), .int .i64 (b : Int), .int .i64 (c : Int)])] R
  refine does_of_run prOk (note_Parse_l0_run G0 _ _ _ _ _ _ _ _ R ?_)
  rw [decide_eq_false (show ¬ (2 : Int) + 1 < 3 by decide), ifF]
  refine ⟨by decide, by decide, ifK_dec' (fun h => by rw [if_pos (by omega)] at hR; exact hR) fun h => ⟨by decide, by decide, by decide, by decide, ?_⟩⟩
  have hb : b ≤ s3.length := by omega
  rw [wrap64 (show -9223372036854775808 ≤ (s3.length : Int) - (b : Int) by omega) (by omega)]
  refine ifK_bool' (fun hc => ?_) fun hc => ?_
  · rw [bne_iff_ne] at hc
    rw [if_pos (.inr (by omega))] at hR; exact hR
  · have hc : (c : Int) = (s3.length : Int) - (b : Int) := by simpa using hc
    rw [if_neg (by omega)] at hR
    rw [Int.toNat_natCast, Int.toNat_natCast, List.take_length, List.drop_zero]
    refine ⟨by decide, by decide, by decide, by decide, by decide, by omega, by omega, by decide, by decide, by omega, by omega, Int.le_refl _, _, good_noteCheck ⟨a, s3.take b, s3.drop b⟩, ifK_ne0 (fun h => ?_) fun h => ?_⟩
    · rw [if_pos h] at hR; exact hR
    · rw [if_neg (by simpa using h)] at hR; exact hR

/-- The document's reading: all pieces at once. -/
theorem good_HeadRead (hG : GlobOk G0) (hE : GlobE G0) (s : By) (hs : s.length ≤ 140737488351232) : Good PG nG G0 f_greatsealref_HeadRead [.str s] [] (.tup [.agg [.int .i64 (parseR s).1.n, .str (parseR s).1.log, .str (parseR s).1.mp], .int .i64 (parseR s).2]) [] := by
  suffices main : ∀ R : AV → List (Option Blk) → Prop, R (.tup [.agg [.int .i64 (parseR s).1.n, .str (parseR s).1.log, .str (parseR s).1.mp], .int .i64 (parseR s).2]) [] → Hold (runF PG ty nG G0 an_greatsealref_HeadRead f_greatsealref_HeadRead [.str s] [] R) from
    good_of_run prOk (by kernel_rfl) (main _ ⟨rfl, rfl⟩)
  intro R hR
  refine greatsealref_HeadRead_run s G0 R ⟨_, _, good_SplitN s hs, ?_⟩
  rw [List.length_map]
  unfold parseR fieldB at hR
  cases h1 : cutB 32 s with
  | none =>
    rw [h1] at hR
    have : piecesB 3 s = [s] := by unfold piecesB; rw [h1]
    rw [this, decide_eq_true (by simp only [List.length_cons, List.length_nil]; omega), ifT]; exact hR
  | some p1 =>
  obtain ⟨w0, r0⟩ := p1
  rw [h1] at hR
  obtain ⟨_, q1, _⟩ := cutB_some h1
  have k1 : s.length = w0.length + (r0.length + 1) := by rw [q1]; simp
  simp only at hR
  cases h2 : cutB 32 r0 with
  | none =>
    have e1 : piecesB 3 s = [w0, r0] := by
      unfold piecesB; rw [h1]; simp only
      unfold piecesB; rw [h2]
    rw [e1, decide_eq_true (by simp only [List.length_cons, List.length_nil]; omega), ifT]
    cases n0 : numB w0 with
    | none => rw [n0] at hR; exact hR
    | some a => rw [n0] at hR; simp only at hR; rw [h2] at hR; exact hR
  | some p2 =>
  obtain ⟨w1, r1⟩ := p2
  obtain ⟨_, q2, _⟩ := cutB_some h2
  have k2 : r0.length = w1.length + (r1.length + 1) := by rw [q2]; simp
  cases h3 : cutB 32 r1 with
  | none =>
    have e1 : piecesB 3 s = [w0, w1, r1] := by
      unfold piecesB; rw [h1]; simp only
      unfold piecesB; rw [h2]; simp only
      unfold piecesB; rw [h3]
    rw [e1, decide_eq_true (by simp only [List.length_cons, List.length_nil]; omega), ifT]
    cases n0 : numB w0 with
    | none => rw [n0] at hR; exact hR
    | some a =>
      rw [n0] at hR; simp only at hR; rw [h2] at hR; simp only at hR
      cases n1 : numB w1 with
      | none => rw [n1] at hR; exact hR
      | some b => rw [n1] at hR; simp only at hR; rw [h3] at hR; exact hR
  | some p3 =>
  obtain ⟨w2, r2⟩ := p3
  obtain ⟨_, q3, _⟩ := cutB_some h3
  have k3 : r1.length = w2.length + (r2.length + 1) := by rw [q3]; simp
  have e1 : piecesB 3 s = [w0, w1, w2, r2] := by
    unfold piecesB; rw [h1]; simp only
    unfold piecesB; rw [h2]; simp only
    unfold piecesB; rw [h3]; rfl
  rw [e1, decide_eq_false (by simp only [List.length_cons, List.length_nil]; omega), ifF]
  have e10 : ((1 : Int) == 0) = false := rfl
  have step : ∀ (i : Nat) (w : By) (x y z : Int), i < 3 → w.length ≤ 140737488351232 → ([w0, w1, w2, r2].map S1)[i]? = some (S1 w) → (numB w = none → R (.tup [.agg [.int .i64 0, .str [], .str []], .int .i64 1]) []) →
      (∀ a, numB w = some a → Does PG nG G0 (fnOf PG f_greatsealref_HeadRead) 0 (lp PG f_greatsealref_HeadRead 0) (mkT 89 [(2, .ref 0 0), (4, .sl 1 false none ([w0, w1, w2, r2].map S1)), (5, .ref 1 0), (18, .int .i64 ((i : Int) + 1))])
        [some (.var [.int .i64 0, .str [], .str []]), some (.var [.int .i64 (if i = 0 then (a : Int) else x), .int .i64 (if i = 1 then (a : Int) else y), .int .i64 (if i = 2 then (a : Int) else z)])] R) →
      Does PG nG G0 (fnOf PG f_greatsealref_HeadRead) 0 (lp PG f_greatsealref_HeadRead 0) (mkT 89 [(2, .ref 0 0), (4, .sl 1 false none ([w0, w1, w2, r2].map S1)), (5, .ref 1 0), (18, .int .i64 (i : Int))]) [some (.var [.int .i64 0, .str [], .str []]), some (.var [.int .i64 x, .int .i64 y, .int .i64 z])] R := by
    intro i w x y z hi ht hget hbad hok
    refine does_of_run prOk (greatsealref_HeadRead_l0_run G0 _ _ _ _ _ _ _ _ _ R ?_)
    rw [decide_eq_true (show (i : Int) < 3 by omega), ifT, wrapI (show 0 ≤ (i : Int) + 1 by omega) (by omega), Int.toNat_natCast]
    have ga := good_ParseInt (G0 := G0) hE w ht
    refine ⟨by omega, _, hget, atoiV w, atoiE w, ?_⟩
    rcases numB_cases w with ⟨h1, h2⟩ | ⟨h1, h2, h3⟩
    · rw [h1] at ga ⊢
      exact ⟨ga, hbad h2⟩
    · rw [h1] at ga ⊢
      rw [ifF]
      refine ⟨ga, _, good_FormatInt hG _ h2.1 h2.2, by omega, _, hget, ?_⟩
      by_cases h4 : Lib.itoa (atoiV w) = w
      · rw [show (Lib.itoa (atoiV w) == w) = true from beq_iff_eq.2 h4, Bool.not_true, ifF]
        by_cases h5 : atoiV w < 0
        · rw [if_neg (fun h => by omega)] at h3
          rw [decide_eq_true h5, ifT]; exact hbad h3
        · rw [if_pos ⟨h4, by omega⟩] at h3
          have := hok (atoiV w).toNat h3
          rw [show (((atoiV w).toNat : Nat) : Int) = atoiV w by omega] at this
          rw [decide_eq_false h5, ifF]
          refine ⟨by omega, by omega, ?_⟩
          have hi3 : i = 0 ∨ i = 1 ∨ i = 2 := by omega
          rcases hi3 with rfl | rfl | rfl
          · exact this
          · exact this
          · exact this
      · rw [if_neg (fun h => h4 h.1)] at h3
        rw [show (Lib.itoa (atoiV w) == w) = false from beq_eq_false_iff_ne.2 h4, Bool.not_false, ifT]; exact hbad h3
  refine step 0 w0 0 0 0 (by decide) (by omega) rfl (fun h => by rw [h] at hR; exact hR) fun a n0 => ?_
  rw [n0] at hR
  simp only at hR
  rw [h2] at hR
  simp only at hR
  refine step 1 w1 a 0 0 (by decide) (by omega) rfl (fun h => by rw [h] at hR; exact hR) fun b n1 => ?_
  rw [n1] at hR
  simp only at hR
  rw [h3] at hR
  simp only at hR
  refine step 2 w2 a b 0 (by decide) (by omega) rfl (fun h => by rw [h] at hR; exact hR) fun c n2 => ?_
  rw [n2] at hR
  simp only at hR
  unfold lastH at hR
  show Does PG nG G0 (fnOf PG f_greatsealref_HeadRead) 0 (lp PG f_greatsealref_HeadRead 0) (mkT 89 [(2, .ref 0 0), (4, .sl 1 false none ([w0, w1, w2, r2].map S1)), (5, .ref 1 0), (18, .int .i64 (2 + 1))])
    [some (.var [.int .i64 0, .str [], .str []]), some (.var [.int .i64 (a : Int), .int .i64 (b : Int), .int .i64 (c : Int)])] R
  refine does_of_run prOk (greatsealref_HeadRead_l0_run G0 _ _ _ _ _ _ _ _ _ R ?_)
  rw [decide_eq_false (show ¬ (2 : Int) + 1 < 3 by decide), ifF]
  refine ⟨by decide, r2, rfl, by decide, by decide, ifK_dec' (fun h => by rw [if_pos (by omega)] at hR; exact hR) fun h => ⟨by decide, by decide, by decide, by decide, ?_⟩⟩
  have hb : b ≤ r2.length := by omega
  rw [wrap64 (show -9223372036854775808 ≤ (r2.length : Int) - (b : Int) by omega) (by omega)]
  refine ifK_bool' (fun hc => ?_) fun hc => ?_
  · rw [bne_iff_ne] at hc
    rw [if_pos (.inr (by omega))] at hR; exact hR
  · have hc : (c : Int) = (r2.length : Int) - (b : Int) := by simpa using hc
    rw [if_neg (by omega)] at hR
    refine ⟨by decide, by decide, by decide, r2, rfl, by decide, by decide, by decide, by omega, by omega, by decide, r2, rfl, by decide, by decide, by omega, by omega, Int.le_refl _, ?_⟩
    rw [Int.toNat_natCast, Int.toNat_natCast, List.take_length, List.drop_zero]
    refine ⟨_, good_CheckHead ⟨a, r2.take b, r2.drop b⟩, ifK_ne0 (fun h => ?_) fun h => ?_⟩
    · rw [if_pos h] at hR; exact hR
    · rw [if_neg (by simpa using h)] at hR; exact hR

theorem good_sealed (hG : GlobOk G0) (hE : GlobE G0) : Good PG nG G0 f_greatseallaw_sealed [] [] (.bool true) [] := by
  have g1 := good_Leaf (G0 := G0) [97]
  rw [show tLeaf [97] = ([76, 97], 0) from rfl] at g1
  have g2 := good_Node (G0 := G0) hG [76, 97] [76, 98]
  rw [show tNode [76, 97] [76, 98] = ([78, 50, 58, 76, 97, 76, 98], 0) by decide +kernel] at g2
  have g3 := good_Split (G0 := G0) hG hE [78, 50, 58, 76, 97, 76, 98] (by decide)
  rw [show splitR [78, 50, 58, 76, 97, 76, 98] = (([76, 97], [76, 98]), 0) by decide +kernel] at g3
  have g4 := good_Open (G0 := G0) [76, 97]
  rw [show openS [76, 97] = ([97], 0) from rfl] at g4
  have g5 := good_Split (G0 := G0) hG hE [78, 51, 58, 97, 98] (by decide)
  rw [show splitR [78, 51, 58, 97, 98] = (([], []), 4) by decide +kernel] at g5
  have g6 := good_Open (G0 := G0) [69]
  rw [show openS [69] = ([], 4) from rfl] at g6
  exact good_of_run prOk (by kernel_rfl) (greatseallaw_sealed_run G0 _ ⟨_, _, g1, _, _, g2, _, _, _, g3, _, _, g4, _, _, _, g5, _, _, g6, _, good_None, rfl, rfl⟩)

theorem good_noted (hG : GlobOk G0) (hE : GlobE G0) : Good PG nG G0 f_greatseallaw_noted [] [] (.bool true) [] := by
  have g1 := good_Print (G0 := G0) hG ⟨2, [97, 98], [99, 32, 100]⟩
  rw [show printR ⟨2, [97, 98], [99, 32, 100]⟩ = ([50, 32, 50, 32, 51, 32, 97, 98, 99, 32, 100], 0) by decide +kernel] at g1
  have g2 := good_Parse (G0 := G0) hG hE [50, 32, 50, 32, 51, 32, 97, 98, 99, 32, 100] (by decide)
  rw [show parseR [50, 32, 50, 32, 51, 32, 97, 98, 99, 32, 100] = (⟨2, [97, 98], [99, 32, 100]⟩, 0) by decide +kernel] at g2
  have g3 := good_Parse (G0 := G0) hG hE [50, 32, 50, 32, 52, 32, 97, 98, 99, 32, 100] (by decide)
  rw [show parseR [50, 32, 50, 32, 52, 32, 97, 98, 99, 32, 100] = (hd0, 1) by decide +kernel] at g3
  exact good_of_run prOk (by kernel_rfl) (greatseallaw_noted_run G0 _ ⟨_, _, g1, _, _, _, _, g2, _, _, _, _, g3, rfl, rfl⟩)
end Go.Ab

namespace Go.Ab
open Go.Proofs
set_option maxRecDepth 100000



end Go.Ab

namespace Go.Ab
open Go.Proofs Go.Gs
variable {G0 : Nat → Option Obj}

theorem rootOf_ok {l : List By} (h : (rootOf l).2 = 0) : l.length ≤ 24 ∧ rootOf l = tRoot l := by
  unfold rootOf at h ⊢
  split
  · rename_i hc; rw [if_pos hc] at h; cases h
  · exact ⟨by omega, rfl⟩

end Go.Ab

namespace Go.Ab
open Go.Proofs
set_option maxRecDepth 100000

def an_greatseallaw_SealSays : FAnn := ⟨[], [], none, []⟩
def an_greatseallaw_SealOne : FAnn := ⟨[], [], none, []⟩
def an_greatseallaw_SealLong : FAnn := ⟨[], [], none, []⟩
def an_greatseallaw_TreeHalves : FAnn := ⟨[], [], none, []⟩
def an_greatseallaw_NoteSays : FAnn := ⟨[], [], none, []⟩
def an_greatseallaw_NoteBack : FAnn := ⟨[], [], none, []⟩

theorem greatseallaw_SealSays_run (a0 : List UInt8) (b1 : List UInt8) (G0 : Nat → Option Go.Obj) (R : AV → List (Option Blk) → Prop) (h :
  ∃ s0 n1,
  Good PG nG G0 f_seal_Leaf [AV.str a0] [] (AV.tup [AV.str s0, AV.int Go.IntKind.i64 n1]) [] ∧
    ∃ s2 n3,
      Good PG nG G0 f_seal_Node [AV.str a0, AV.str b1] [] (AV.tup [AV.str s2, AV.int Go.IntKind.i64 n3]) [] ∧
        ∃ s4 n5,
          Good PG nG G0 f_seal_Open [AV.str a0] [] (AV.tup [AV.str s4, AV.int Go.IntKind.i64 n5]) [] ∧
            ∃ s6 s7 n8,
              Good PG nG G0 f_seal_Split [AV.str a0] [] (AV.tup [AV.str s6, AV.str s7, AV.int Go.IntKind.i64 n8]) [] ∧
                ∃ s9 n10,
                  Good PG nG G0 f_greatsealref_LeafOf [AV.str a0] [] (AV.tup [AV.str s9, AV.int Go.IntKind.i64 n10]) [] ∧
                    ∃ s11 n12,
                      Good PG nG G0 f_greatsealref_NodeOf [AV.str a0, AV.str b1] [] (AV.tup [AV.str s11, AV.int Go.IntKind.i64 n12]) [] ∧
                        ∃ s13 s14 n15,
                          Good PG nG G0 f_greatsealref_SplitOf [AV.str a0] [] (AV.tup [AV.str s13, AV.str s14, AV.int Go.IntKind.i64 n15]) [] ∧
                            ∃ b16,
                              Good PG nG G0 f_greatseallaw_sealed [] [] (AV.bool b16) [] ∧
                                ifK (!b16) (R (AV.bool false) [])
                                  (ifK (!s0 == s9) (R (AV.bool false) [])
                                    (ifK (n1 != n10) (R (AV.bool false) [])
                                      (ifK (!s2 == s11) (R (AV.bool false) [])
                                        (ifK (n3 != n12) (R (AV.bool false) [])
                                          (ifK (!s6 == s13) (R (AV.bool false) [])
                                            (ifK (!s7 == s14) (R (AV.bool false) [])
                                              (ifK (n8 != n15) (R (AV.bool false) [])
                                                (ifK ((↑(List.length a0) : Int) == (0 : Int)) (ifK (n5 == (4 : Int)) (R (AV.bool (s4 == [])) []) (R (AV.bool false) []))
                                                  ((0 : Int) ≤ (0 : Int) ∧
                                                    ∃ c17,
                                                      a0[(0 : Nat)]? = some c17 ∧
                                                        ifK ((↑(UInt8.toNat c17) : Int) != (76 : Int)) (ifK (n5 == (4 : Int)) (R (AV.bool (s4 == [])) []) (R (AV.bool false) []))
                                                          (ifK (n5 == (0 : Int))
                                                            ((0 : Int) ≤ (1 : Int) ∧
                                                              (1 : Int) ≤ (↑(List.length a0) : Int) ∧
                                                                (↑(List.length a0) : Int) ≤ (↑(List.length a0) : Int) ∧ R (AV.bool (s4 == List.drop (1 : Nat) (List.take (Int.toNat (↑(List.length a0) : Int)) a0))) [])
                                                            (R (AV.bool false) [])))))))))))) :
  Hold (runF PG ty nG G0 an_greatseallaw_SealSays f_greatseallaw_SealSays [AV.str a0, AV.str b1] [] R) := kshow h (by kernel_rfl)

theorem greatseallaw_SealOne_run (a0 : List UInt8) (b1 : List UInt8) (c2 : List UInt8) (d3 : List UInt8) (G0 : Nat → Option Go.Obj) (R : AV → List (Option Blk) → Prop) (h :
  ∃ s0 n1,
  Good PG nG G0 f_seal_Node [AV.str a0, AV.str b1] [] (AV.tup [AV.str s0, AV.int Go.IntKind.i64 n1]) [] ∧
    ∃ s2 n3,
      Good PG nG G0 f_seal_Node [AV.str c2, AV.str d3] [] (AV.tup [AV.str s2, AV.int Go.IntKind.i64 n3]) [] ∧
        ∃ b4,
          Good PG nG G0 f_greatseallaw_sealed [] [] (AV.bool b4) [] ∧
            ifK (!b4) (R (AV.bool false) [])
              (ifK (n1 == (0 : Int))
                (ifK (n3 == (0 : Int))
                  (ifK (a0 == c2)
                    (ifK (!(s0 == s2) == (b1 == d3)) (R (AV.bool false) [])
                      (ifK (n1 == (0 : Int))
                        (∃ s5 s6 n7,
                          Good PG nG G0 f_seal_Split [AV.str s0] [] (AV.tup [AV.str s5, AV.str s6, AV.int Go.IntKind.i64 n7]) [] ∧
                            ifK (n7 != (0 : Int)) (R (AV.bool false) [])
                              (ifK (!s5 == a0) (R (AV.bool false) [])
                                (ifK (!s6 == b1) (R (AV.bool false) [])
                                  (∃ s8 n9,
                                    Good PG nG G0 f_seal_Leaf [AV.str a0] [] (AV.tup [AV.str s8, AV.int Go.IntKind.i64 n9]) [] ∧
                                      ifK (n9 == (0 : Int))
                                        (∃ s10 n11,
                                          Good PG nG G0 f_seal_Leaf [AV.str c2] [] (AV.tup [AV.str s10, AV.int Go.IntKind.i64 n11]) [] ∧
                                            ∃ s12 n13,
                                              Good PG nG G0 f_seal_Open [AV.str s8] [] (AV.tup [AV.str s12, AV.int Go.IntKind.i64 n13]) [] ∧
                                                ifK (n13 != (0 : Int)) (R (AV.bool false) [])
                                                  (ifK (!s12 == a0) (R (AV.bool false) [])
                                                    (ifK (n11 == (0 : Int))
                                                      (ifK (!(s8 == s10) == (a0 == c2)) (R (AV.bool false) [])
                                                        (ifK (n1 == (0 : Int))
                                                          (ifK (s8 == s0) (R (AV.bool false) [])
                                                            (∃ s14,
                                                              Good PG nG G0 f_seal_None [] [] (AV.str s14) [] ∧
                                                                ifK (s8 == s14) (R (AV.bool false) [])
                                                                  (∃ s15 s16 n17,
                                                                    Good PG nG G0 f_seal_Split [AV.str c2] [] (AV.tup [AV.str s15, AV.str s16, AV.int Go.IntKind.i64 n17]) [] ∧
                                                                      ifK (n17 != (0 : Int)) (R (AV.bool true) [])
                                                                        (∃ s18 n19,
                                                                          Good PG nG G0 f_seal_Node [AV.str s15, AV.str s16] [] (AV.tup [AV.str s18, AV.int Go.IntKind.i64 n19]) [] ∧
                                                                            ifK (n19 != (0 : Int)) (R (AV.bool true) []) (R (AV.bool (s18 == c2)) [])))))
                                                          (∃ s20,
                                                            Good PG nG G0 f_seal_None [] [] (AV.str s20) [] ∧
                                                              ifK (s8 == s20) (R (AV.bool false) [])
                                                                (∃ s21 s22 n23,
                                                                  Good PG nG G0 f_seal_Split [AV.str c2] [] (AV.tup [AV.str s21, AV.str s22, AV.int Go.IntKind.i64 n23]) [] ∧
                                                                    ifK (n23 != (0 : Int)) (R (AV.bool true) [])
                                                                      (∃ s24 n25,
                                                                        Good PG nG G0 f_seal_Node [AV.str s21, AV.str s22] [] (AV.tup [AV.str s24, AV.int Go.IntKind.i64 n25]) [] ∧
                                                                          ifK (n25 != (0 : Int)) (R (AV.bool true) []) (R (AV.bool (s24 == c2)) []))))))
                                                      (ifK (n1 == (0 : Int))
                                                        (ifK (s8 == s0) (R (AV.bool false) [])
                                                          (∃ s26,
                                                            Good PG nG G0 f_seal_None [] [] (AV.str s26) [] ∧
                                                              ifK (s8 == s26) (R (AV.bool false) [])
                                                                (∃ s27 s28 n29,
                                                                  Good PG nG G0 f_seal_Split [AV.str c2] [] (AV.tup [AV.str s27, AV.str s28, AV.int Go.IntKind.i64 n29]) [] ∧
                                                                    ifK (n29 != (0 : Int)) (R (AV.bool true) [])
                                                                      (∃ s30 n31,
                                                                        Good PG nG G0 f_seal_Node [AV.str s27, AV.str s28] [] (AV.tup [AV.str s30, AV.int Go.IntKind.i64 n31]) [] ∧
                                                                          ifK (n31 != (0 : Int)) (R (AV.bool true) []) (R (AV.bool (s30 == c2)) [])))))
                                                        (∃ s32,
                                                          Good PG nG G0 f_seal_None [] [] (AV.str s32) [] ∧
                                                            ifK (s8 == s32) (R (AV.bool false) [])
                                                              (∃ s33 s34 n35,
                                                                Good PG nG G0 f_seal_Split [AV.str c2] [] (AV.tup [AV.str s33, AV.str s34, AV.int Go.IntKind.i64 n35]) [] ∧
                                                                  ifK (n35 != (0 : Int)) (R (AV.bool true) [])
                                                                    (∃ s36 n37,
                                                                      Good PG nG G0 f_seal_Node [AV.str s33, AV.str s34] [] (AV.tup [AV.str s36, AV.int Go.IntKind.i64 n37]) [] ∧
                                                                        ifK (n37 != (0 : Int)) (R (AV.bool true) []) (R (AV.bool (s36 == c2)) []))))))))
                                        (∃ s38 s39 n40,
                                          Good PG nG G0 f_seal_Split [AV.str c2] [] (AV.tup [AV.str s38, AV.str s39, AV.int Go.IntKind.i64 n40]) [] ∧
                                            ifK (n40 != (0 : Int)) (R (AV.bool true) [])
                                              (∃ s41 n42,
                                                Good PG nG G0 f_seal_Node [AV.str s38, AV.str s39] [] (AV.tup [AV.str s41, AV.int Go.IntKind.i64 n42]) [] ∧
                                                  ifK (n42 != (0 : Int)) (R (AV.bool true) []) (R (AV.bool (s41 == c2)) [])))))))
                        (∃ s43 n44,
                          Good PG nG G0 f_seal_Leaf [AV.str a0] [] (AV.tup [AV.str s43, AV.int Go.IntKind.i64 n44]) [] ∧
                            ifK (n44 == (0 : Int))
                              (∃ s45 n46,
                                Good PG nG G0 f_seal_Leaf [AV.str c2] [] (AV.tup [AV.str s45, AV.int Go.IntKind.i64 n46]) [] ∧
                                  ∃ s47 n48,
                                    Good PG nG G0 f_seal_Open [AV.str s43] [] (AV.tup [AV.str s47, AV.int Go.IntKind.i64 n48]) [] ∧
                                      ifK (n48 != (0 : Int)) (R (AV.bool false) [])
                                        (ifK (!s47 == a0) (R (AV.bool false) [])
                                          (ifK (n46 == (0 : Int))
                                            (ifK (!(s43 == s45) == (a0 == c2)) (R (AV.bool false) [])
                                              (ifK (n1 == (0 : Int))
                                                (ifK (s43 == s0) (R (AV.bool false) [])
                                                  (∃ s49,
                                                    Good PG nG G0 f_seal_None [] [] (AV.str s49) [] ∧
                                                      ifK (s43 == s49) (R (AV.bool false) [])
                                                        (∃ s50 s51 n52,
                                                          Good PG nG G0 f_seal_Split [AV.str c2] [] (AV.tup [AV.str s50, AV.str s51, AV.int Go.IntKind.i64 n52]) [] ∧
                                                            ifK (n52 != (0 : Int)) (R (AV.bool true) [])
                                                              (∃ s53 n54,
                                                                Good PG nG G0 f_seal_Node [AV.str s50, AV.str s51] [] (AV.tup [AV.str s53, AV.int Go.IntKind.i64 n54]) [] ∧
                                                                  ifK (n54 != (0 : Int)) (R (AV.bool true) []) (R (AV.bool (s53 == c2)) [])))))
                                                (∃ s55,
                                                  Good PG nG G0 f_seal_None [] [] (AV.str s55) [] ∧
                                                    ifK (s43 == s55) (R (AV.bool false) [])
                                                      (∃ s56 s57 n58,
                                                        Good PG nG G0 f_seal_Split [AV.str c2] [] (AV.tup [AV.str s56, AV.str s57, AV.int Go.IntKind.i64 n58]) [] ∧
                                                          ifK (n58 != (0 : Int)) (R (AV.bool true) [])
                                                            (∃ s59 n60,
                                                              Good PG nG G0 f_seal_Node [AV.str s56, AV.str s57] [] (AV.tup [AV.str s59, AV.int Go.IntKind.i64 n60]) [] ∧
                                                                ifK (n60 != (0 : Int)) (R (AV.bool true) []) (R (AV.bool (s59 == c2)) []))))))
                                            (ifK (n1 == (0 : Int))
                                              (ifK (s43 == s0) (R (AV.bool false) [])
                                                (∃ s61,
                                                  Good PG nG G0 f_seal_None [] [] (AV.str s61) [] ∧
                                                    ifK (s43 == s61) (R (AV.bool false) [])
                                                      (∃ s62 s63 n64,
                                                        Good PG nG G0 f_seal_Split [AV.str c2] [] (AV.tup [AV.str s62, AV.str s63, AV.int Go.IntKind.i64 n64]) [] ∧
                                                          ifK (n64 != (0 : Int)) (R (AV.bool true) [])
                                                            (∃ s65 n66,
                                                              Good PG nG G0 f_seal_Node [AV.str s62, AV.str s63] [] (AV.tup [AV.str s65, AV.int Go.IntKind.i64 n66]) [] ∧
                                                                ifK (n66 != (0 : Int)) (R (AV.bool true) []) (R (AV.bool (s65 == c2)) [])))))
                                              (∃ s67,
                                                Good PG nG G0 f_seal_None [] [] (AV.str s67) [] ∧
                                                  ifK (s43 == s67) (R (AV.bool false) [])
                                                    (∃ s68 s69 n70,
                                                      Good PG nG G0 f_seal_Split [AV.str c2] [] (AV.tup [AV.str s68, AV.str s69, AV.int Go.IntKind.i64 n70]) [] ∧
                                                        ifK (n70 != (0 : Int)) (R (AV.bool true) [])
                                                          (∃ s71 n72,
                                                            Good PG nG G0 f_seal_Node [AV.str s68, AV.str s69] [] (AV.tup [AV.str s71, AV.int Go.IntKind.i64 n72]) [] ∧
                                                              ifK (n72 != (0 : Int)) (R (AV.bool true) []) (R (AV.bool (s71 == c2)) []))))))))
                              (∃ s73 s74 n75,
                                Good PG nG G0 f_seal_Split [AV.str c2] [] (AV.tup [AV.str s73, AV.str s74, AV.int Go.IntKind.i64 n75]) [] ∧
                                  ifK (n75 != (0 : Int)) (R (AV.bool true) [])
                                    (∃ s76 n77, Good PG nG G0 f_seal_Node [AV.str s73, AV.str s74] [] (AV.tup [AV.str s76, AV.int Go.IntKind.i64 n77]) [] ∧ ifK (n77 != (0 : Int)) (R (AV.bool true) []) (R (AV.bool (s76 == c2)) []))))))
                    (ifK (!(s0 == s2) == false) (R (AV.bool false) [])
                      (ifK (n1 == (0 : Int))
                        (∃ s78 s79 n80,
                          Good PG nG G0 f_seal_Split [AV.str s0] [] (AV.tup [AV.str s78, AV.str s79, AV.int Go.IntKind.i64 n80]) [] ∧
                            ifK (n80 != (0 : Int)) (R (AV.bool false) [])
                              (ifK (!s78 == a0) (R (AV.bool false) [])
                                (ifK (!s79 == b1) (R (AV.bool false) [])
                                  (∃ s81 n82,
                                    Good PG nG G0 f_seal_Leaf [AV.str a0] [] (AV.tup [AV.str s81, AV.int Go.IntKind.i64 n82]) [] ∧
                                      ifK (n82 == (0 : Int))
                                        (∃ s83 n84,
                                          Good PG nG G0 f_seal_Leaf [AV.str c2] [] (AV.tup [AV.str s83, AV.int Go.IntKind.i64 n84]) [] ∧
                                            ∃ s85 n86,
                                              Good PG nG G0 f_seal_Open [AV.str s81] [] (AV.tup [AV.str s85, AV.int Go.IntKind.i64 n86]) [] ∧
                                                ifK (n86 != (0 : Int)) (R (AV.bool false) [])
                                                  (ifK (!s85 == a0) (R (AV.bool false) [])
                                                    (ifK (n84 == (0 : Int))
                                                      (ifK (!(s81 == s83) == (a0 == c2)) (R (AV.bool false) [])
                                                        (ifK (n1 == (0 : Int))
                                                          (ifK (s81 == s0) (R (AV.bool false) [])
                                                            (∃ s87,
                                                              Good PG nG G0 f_seal_None [] [] (AV.str s87) [] ∧
                                                                ifK (s81 == s87) (R (AV.bool false) [])
                                                                  (∃ s88 s89 n90,
                                                                    Good PG nG G0 f_seal_Split [AV.str c2] [] (AV.tup [AV.str s88, AV.str s89, AV.int Go.IntKind.i64 n90]) [] ∧
                                                                      ifK (n90 != (0 : Int)) (R (AV.bool true) [])
                                                                        (∃ s91 n92,
                                                                          Good PG nG G0 f_seal_Node [AV.str s88, AV.str s89] [] (AV.tup [AV.str s91, AV.int Go.IntKind.i64 n92]) [] ∧
                                                                            ifK (n92 != (0 : Int)) (R (AV.bool true) []) (R (AV.bool (s91 == c2)) [])))))
                                                          (∃ s93,
                                                            Good PG nG G0 f_seal_None [] [] (AV.str s93) [] ∧
                                                              ifK (s81 == s93) (R (AV.bool false) [])
                                                                (∃ s94 s95 n96,
                                                                  Good PG nG G0 f_seal_Split [AV.str c2] [] (AV.tup [AV.str s94, AV.str s95, AV.int Go.IntKind.i64 n96]) [] ∧
                                                                    ifK (n96 != (0 : Int)) (R (AV.bool true) [])
                                                                      (∃ s97 n98,
                                                                        Good PG nG G0 f_seal_Node [AV.str s94, AV.str s95] [] (AV.tup [AV.str s97, AV.int Go.IntKind.i64 n98]) [] ∧
                                                                          ifK (n98 != (0 : Int)) (R (AV.bool true) []) (R (AV.bool (s97 == c2)) []))))))
                                                      (ifK (n1 == (0 : Int))
                                                        (ifK (s81 == s0) (R (AV.bool false) [])
                                                          (∃ s99,
                                                            Good PG nG G0 f_seal_None [] [] (AV.str s99) [] ∧
                                                              ifK (s81 == s99) (R (AV.bool false) [])
                                                                (∃ s100 s101 n102,
                                                                  Good PG nG G0 f_seal_Split [AV.str c2] [] (AV.tup [AV.str s100, AV.str s101, AV.int Go.IntKind.i64 n102]) [] ∧
                                                                    ifK (n102 != (0 : Int)) (R (AV.bool true) [])
                                                                      (∃ s103 n104,
                                                                        Good PG nG G0 f_seal_Node [AV.str s100, AV.str s101] [] (AV.tup [AV.str s103, AV.int Go.IntKind.i64 n104]) [] ∧
                                                                          ifK (n104 != (0 : Int)) (R (AV.bool true) []) (R (AV.bool (s103 == c2)) [])))))
                                                        (∃ s105,
                                                          Good PG nG G0 f_seal_None [] [] (AV.str s105) [] ∧
                                                            ifK (s81 == s105) (R (AV.bool false) [])
                                                              (∃ s106 s107 n108,
                                                                Good PG nG G0 f_seal_Split [AV.str c2] [] (AV.tup [AV.str s106, AV.str s107, AV.int Go.IntKind.i64 n108]) [] ∧
                                                                  ifK (n108 != (0 : Int)) (R (AV.bool true) [])
                                                                    (∃ s109 n110,
                                                                      Good PG nG G0 f_seal_Node [AV.str s106, AV.str s107] [] (AV.tup [AV.str s109, AV.int Go.IntKind.i64 n110]) [] ∧
                                                                        ifK (n110 != (0 : Int)) (R (AV.bool true) []) (R (AV.bool (s109 == c2)) []))))))))
                                        (∃ s111 s112 n113,
                                          Good PG nG G0 f_seal_Split [AV.str c2] [] (AV.tup [AV.str s111, AV.str s112, AV.int Go.IntKind.i64 n113]) [] ∧
                                            ifK (n113 != (0 : Int)) (R (AV.bool true) [])
                                              (∃ s114 n115,
                                                Good PG nG G0 f_seal_Node [AV.str s111, AV.str s112] [] (AV.tup [AV.str s114, AV.int Go.IntKind.i64 n115]) [] ∧
                                                  ifK (n115 != (0 : Int)) (R (AV.bool true) []) (R (AV.bool (s114 == c2)) [])))))))
                        (∃ s116 n117,
                          Good PG nG G0 f_seal_Leaf [AV.str a0] [] (AV.tup [AV.str s116, AV.int Go.IntKind.i64 n117]) [] ∧
                            ifK (n117 == (0 : Int))
                              (∃ s118 n119,
                                Good PG nG G0 f_seal_Leaf [AV.str c2] [] (AV.tup [AV.str s118, AV.int Go.IntKind.i64 n119]) [] ∧
                                  ∃ s120 n121,
                                    Good PG nG G0 f_seal_Open [AV.str s116] [] (AV.tup [AV.str s120, AV.int Go.IntKind.i64 n121]) [] ∧
                                      ifK (n121 != (0 : Int)) (R (AV.bool false) [])
                                        (ifK (!s120 == a0) (R (AV.bool false) [])
                                          (ifK (n119 == (0 : Int))
                                            (ifK (!(s116 == s118) == (a0 == c2)) (R (AV.bool false) [])
                                              (ifK (n1 == (0 : Int))
                                                (ifK (s116 == s0) (R (AV.bool false) [])
                                                  (∃ s122,
                                                    Good PG nG G0 f_seal_None [] [] (AV.str s122) [] ∧
                                                      ifK (s116 == s122) (R (AV.bool false) [])
                                                        (∃ s123 s124 n125,
                                                          Good PG nG G0 f_seal_Split [AV.str c2] [] (AV.tup [AV.str s123, AV.str s124, AV.int Go.IntKind.i64 n125]) [] ∧
                                                            ifK (n125 != (0 : Int)) (R (AV.bool true) [])
                                                              (∃ s126 n127,
                                                                Good PG nG G0 f_seal_Node [AV.str s123, AV.str s124] [] (AV.tup [AV.str s126, AV.int Go.IntKind.i64 n127]) [] ∧
                                                                  ifK (n127 != (0 : Int)) (R (AV.bool true) []) (R (AV.bool (s126 == c2)) [])))))
                                                (∃ s128,
                                                  Good PG nG G0 f_seal_None [] [] (AV.str s128) [] ∧
                                                    ifK (s116 == s128) (R (AV.bool false) [])
                                                      (∃ s129 s130 n131,
                                                        Good PG nG G0 f_seal_Split [AV.str c2] [] (AV.tup [AV.str s129, AV.str s130, AV.int Go.IntKind.i64 n131]) [] ∧
                                                          ifK (n131 != (0 : Int)) (R (AV.bool true) [])
                                                            (∃ s132 n133,
                                                              Good PG nG G0 f_seal_Node [AV.str s129, AV.str s130] [] (AV.tup [AV.str s132, AV.int Go.IntKind.i64 n133]) [] ∧
                                                                ifK (n133 != (0 : Int)) (R (AV.bool true) []) (R (AV.bool (s132 == c2)) []))))))
                                            (ifK (n1 == (0 : Int))
                                              (ifK (s116 == s0) (R (AV.bool false) [])
                                                (∃ s134,
                                                  Good PG nG G0 f_seal_None [] [] (AV.str s134) [] ∧
                                                    ifK (s116 == s134) (R (AV.bool false) [])
                                                      (∃ s135 s136 n137,
                                                        Good PG nG G0 f_seal_Split [AV.str c2] [] (AV.tup [AV.str s135, AV.str s136, AV.int Go.IntKind.i64 n137]) [] ∧
                                                          ifK (n137 != (0 : Int)) (R (AV.bool true) [])
                                                            (∃ s138 n139,
                                                              Good PG nG G0 f_seal_Node [AV.str s135, AV.str s136] [] (AV.tup [AV.str s138, AV.int Go.IntKind.i64 n139]) [] ∧
                                                                ifK (n139 != (0 : Int)) (R (AV.bool true) []) (R (AV.bool (s138 == c2)) [])))))
                                              (∃ s140,
                                                Good PG nG G0 f_seal_None [] [] (AV.str s140) [] ∧
                                                  ifK (s116 == s140) (R (AV.bool false) [])
                                                    (∃ s141 s142 n143,
                                                      Good PG nG G0 f_seal_Split [AV.str c2] [] (AV.tup [AV.str s141, AV.str s142, AV.int Go.IntKind.i64 n143]) [] ∧
                                                        ifK (n143 != (0 : Int)) (R (AV.bool true) [])
                                                          (∃ s144 n145,
                                                            Good PG nG G0 f_seal_Node [AV.str s141, AV.str s142] [] (AV.tup [AV.str s144, AV.int Go.IntKind.i64 n145]) [] ∧
                                                              ifK (n145 != (0 : Int)) (R (AV.bool true) []) (R (AV.bool (s144 == c2)) []))))))))
                              (∃ s146 s147 n148,
                                Good PG nG G0 f_seal_Split [AV.str c2] [] (AV.tup [AV.str s146, AV.str s147, AV.int Go.IntKind.i64 n148]) [] ∧
                                  ifK (n148 != (0 : Int)) (R (AV.bool true) [])
                                    (∃ s149 n150,
                                      Good PG nG G0 f_seal_Node [AV.str s146, AV.str s147] [] (AV.tup [AV.str s149, AV.int Go.IntKind.i64 n150]) [] ∧ ifK (n150 != (0 : Int)) (R (AV.bool true) []) (R (AV.bool (s149 == c2)) [])))))))
                  (ifK (n1 == (0 : Int))
                    (∃ s151 s152 n153,
                      Good PG nG G0 f_seal_Split [AV.str s0] [] (AV.tup [AV.str s151, AV.str s152, AV.int Go.IntKind.i64 n153]) [] ∧
                        ifK (n153 != (0 : Int)) (R (AV.bool false) [])
                          (ifK (!s151 == a0) (R (AV.bool false) [])
                            (ifK (!s152 == b1) (R (AV.bool false) [])
                              (∃ s154 n155,
                                Good PG nG G0 f_seal_Leaf [AV.str a0] [] (AV.tup [AV.str s154, AV.int Go.IntKind.i64 n155]) [] ∧
                                  ifK (n155 == (0 : Int))
                                    (∃ s156 n157,
                                      Good PG nG G0 f_seal_Leaf [AV.str c2] [] (AV.tup [AV.str s156, AV.int Go.IntKind.i64 n157]) [] ∧
                                        ∃ s158 n159,
                                          Good PG nG G0 f_seal_Open [AV.str s154] [] (AV.tup [AV.str s158, AV.int Go.IntKind.i64 n159]) [] ∧
                                            ifK (n159 != (0 : Int)) (R (AV.bool false) [])
                                              (ifK (!s158 == a0) (R (AV.bool false) [])
                                                (ifK (n157 == (0 : Int))
                                                  (ifK (!(s154 == s156) == (a0 == c2)) (R (AV.bool false) [])
                                                    (ifK (n1 == (0 : Int))
                                                      (ifK (s154 == s0) (R (AV.bool false) [])
                                                        (∃ s160,
                                                          Good PG nG G0 f_seal_None [] [] (AV.str s160) [] ∧
                                                            ifK (s154 == s160) (R (AV.bool false) [])
                                                              (∃ s161 s162 n163,
                                                                Good PG nG G0 f_seal_Split [AV.str c2] [] (AV.tup [AV.str s161, AV.str s162, AV.int Go.IntKind.i64 n163]) [] ∧
                                                                  ifK (n163 != (0 : Int)) (R (AV.bool true) [])
                                                                    (∃ s164 n165,
                                                                      Good PG nG G0 f_seal_Node [AV.str s161, AV.str s162] [] (AV.tup [AV.str s164, AV.int Go.IntKind.i64 n165]) [] ∧
                                                                        ifK (n165 != (0 : Int)) (R (AV.bool true) []) (R (AV.bool (s164 == c2)) [])))))
                                                      (∃ s166,
                                                        Good PG nG G0 f_seal_None [] [] (AV.str s166) [] ∧
                                                          ifK (s154 == s166) (R (AV.bool false) [])
                                                            (∃ s167 s168 n169,
                                                              Good PG nG G0 f_seal_Split [AV.str c2] [] (AV.tup [AV.str s167, AV.str s168, AV.int Go.IntKind.i64 n169]) [] ∧
                                                                ifK (n169 != (0 : Int)) (R (AV.bool true) [])
                                                                  (∃ s170 n171,
                                                                    Good PG nG G0 f_seal_Node [AV.str s167, AV.str s168] [] (AV.tup [AV.str s170, AV.int Go.IntKind.i64 n171]) [] ∧
                                                                      ifK (n171 != (0 : Int)) (R (AV.bool true) []) (R (AV.bool (s170 == c2)) []))))))
                                                  (ifK (n1 == (0 : Int))
                                                    (ifK (s154 == s0) (R (AV.bool false) [])
                                                      (∃ s172,
                                                        Good PG nG G0 f_seal_None [] [] (AV.str s172) [] ∧
                                                          ifK (s154 == s172) (R (AV.bool false) [])
                                                            (∃ s173 s174 n175,
                                                              Good PG nG G0 f_seal_Split [AV.str c2] [] (AV.tup [AV.str s173, AV.str s174, AV.int Go.IntKind.i64 n175]) [] ∧
                                                                ifK (n175 != (0 : Int)) (R (AV.bool true) [])
                                                                  (∃ s176 n177,
                                                                    Good PG nG G0 f_seal_Node [AV.str s173, AV.str s174] [] (AV.tup [AV.str s176, AV.int Go.IntKind.i64 n177]) [] ∧
                                                                      ifK (n177 != (0 : Int)) (R (AV.bool true) []) (R (AV.bool (s176 == c2)) [])))))
                                                    (∃ s178,
                                                      Good PG nG G0 f_seal_None [] [] (AV.str s178) [] ∧
                                                        ifK (s154 == s178) (R (AV.bool false) [])
                                                          (∃ s179 s180 n181,
                                                            Good PG nG G0 f_seal_Split [AV.str c2] [] (AV.tup [AV.str s179, AV.str s180, AV.int Go.IntKind.i64 n181]) [] ∧
                                                              ifK (n181 != (0 : Int)) (R (AV.bool true) [])
                                                                (∃ s182 n183,
                                                                  Good PG nG G0 f_seal_Node [AV.str s179, AV.str s180] [] (AV.tup [AV.str s182, AV.int Go.IntKind.i64 n183]) [] ∧
                                                                    ifK (n183 != (0 : Int)) (R (AV.bool true) []) (R (AV.bool (s182 == c2)) []))))))))
                                    (∃ s184 s185 n186,
                                      Good PG nG G0 f_seal_Split [AV.str c2] [] (AV.tup [AV.str s184, AV.str s185, AV.int Go.IntKind.i64 n186]) [] ∧
                                        ifK (n186 != (0 : Int)) (R (AV.bool true) [])
                                          (∃ s187 n188,
                                            Good PG nG G0 f_seal_Node [AV.str s184, AV.str s185] [] (AV.tup [AV.str s187, AV.int Go.IntKind.i64 n188]) [] ∧
                                              ifK (n188 != (0 : Int)) (R (AV.bool true) []) (R (AV.bool (s187 == c2)) [])))))))
                    (∃ s189 n190,
                      Good PG nG G0 f_seal_Leaf [AV.str a0] [] (AV.tup [AV.str s189, AV.int Go.IntKind.i64 n190]) [] ∧
                        ifK (n190 == (0 : Int))
                          (∃ s191 n192,
                            Good PG nG G0 f_seal_Leaf [AV.str c2] [] (AV.tup [AV.str s191, AV.int Go.IntKind.i64 n192]) [] ∧
                              ∃ s193 n194,
                                Good PG nG G0 f_seal_Open [AV.str s189] [] (AV.tup [AV.str s193, AV.int Go.IntKind.i64 n194]) [] ∧
                                  ifK (n194 != (0 : Int)) (R (AV.bool false) [])
                                    (ifK (!s193 == a0) (R (AV.bool false) [])
                                      (ifK (n192 == (0 : Int))
                                        (ifK (!(s189 == s191) == (a0 == c2)) (R (AV.bool false) [])
                                          (ifK (n1 == (0 : Int))
                                            (ifK (s189 == s0) (R (AV.bool false) [])
                                              (∃ s195,
                                                Good PG nG G0 f_seal_None [] [] (AV.str s195) [] ∧
                                                  ifK (s189 == s195) (R (AV.bool false) [])
                                                    (∃ s196 s197 n198,
                                                      Good PG nG G0 f_seal_Split [AV.str c2] [] (AV.tup [AV.str s196, AV.str s197, AV.int Go.IntKind.i64 n198]) [] ∧
                                                        ifK (n198 != (0 : Int)) (R (AV.bool true) [])
                                                          (∃ s199 n200,
                                                            Good PG nG G0 f_seal_Node [AV.str s196, AV.str s197] [] (AV.tup [AV.str s199, AV.int Go.IntKind.i64 n200]) [] ∧
                                                              ifK (n200 != (0 : Int)) (R (AV.bool true) []) (R (AV.bool (s199 == c2)) [])))))
                                            (∃ s201,
                                              Good PG nG G0 f_seal_None [] [] (AV.str s201) [] ∧
                                                ifK (s189 == s201) (R (AV.bool false) [])
                                                  (∃ s202 s203 n204,
                                                    Good PG nG G0 f_seal_Split [AV.str c2] [] (AV.tup [AV.str s202, AV.str s203, AV.int Go.IntKind.i64 n204]) [] ∧
                                                      ifK (n204 != (0 : Int)) (R (AV.bool true) [])
                                                        (∃ s205 n206,
                                                          Good PG nG G0 f_seal_Node [AV.str s202, AV.str s203] [] (AV.tup [AV.str s205, AV.int Go.IntKind.i64 n206]) [] ∧
                                                            ifK (n206 != (0 : Int)) (R (AV.bool true) []) (R (AV.bool (s205 == c2)) []))))))
                                        (ifK (n1 == (0 : Int))
                                          (ifK (s189 == s0) (R (AV.bool false) [])
                                            (∃ s207,
                                              Good PG nG G0 f_seal_None [] [] (AV.str s207) [] ∧
                                                ifK (s189 == s207) (R (AV.bool false) [])
                                                  (∃ s208 s209 n210,
                                                    Good PG nG G0 f_seal_Split [AV.str c2] [] (AV.tup [AV.str s208, AV.str s209, AV.int Go.IntKind.i64 n210]) [] ∧
                                                      ifK (n210 != (0 : Int)) (R (AV.bool true) [])
                                                        (∃ s211 n212,
                                                          Good PG nG G0 f_seal_Node [AV.str s208, AV.str s209] [] (AV.tup [AV.str s211, AV.int Go.IntKind.i64 n212]) [] ∧
                                                            ifK (n212 != (0 : Int)) (R (AV.bool true) []) (R (AV.bool (s211 == c2)) [])))))
                                          (∃ s213,
                                            Good PG nG G0 f_seal_None [] [] (AV.str s213) [] ∧
                                              ifK (s189 == s213) (R (AV.bool false) [])
                                                (∃ s214 s215 n216,
                                                  Good PG nG G0 f_seal_Split [AV.str c2] [] (AV.tup [AV.str s214, AV.str s215, AV.int Go.IntKind.i64 n216]) [] ∧
                                                    ifK (n216 != (0 : Int)) (R (AV.bool true) [])
                                                      (∃ s217 n218,
                                                        Good PG nG G0 f_seal_Node [AV.str s214, AV.str s215] [] (AV.tup [AV.str s217, AV.int Go.IntKind.i64 n218]) [] ∧
                                                          ifK (n218 != (0 : Int)) (R (AV.bool true) []) (R (AV.bool (s217 == c2)) []))))))))
                          (∃ s219 s220 n221,
                            Good PG nG G0 f_seal_Split [AV.str c2] [] (AV.tup [AV.str s219, AV.str s220, AV.int Go.IntKind.i64 n221]) [] ∧
                              ifK (n221 != (0 : Int)) (R (AV.bool true) [])
                                (∃ s222 n223,
                                  Good PG nG G0 f_seal_Node [AV.str s219, AV.str s220] [] (AV.tup [AV.str s222, AV.int Go.IntKind.i64 n223]) [] ∧ ifK (n223 != (0 : Int)) (R (AV.bool true) []) (R (AV.bool (s222 == c2)) []))))))
                (ifK (n1 == (0 : Int))
                  (∃ s224 s225 n226,
                    Good PG nG G0 f_seal_Split [AV.str s0] [] (AV.tup [AV.str s224, AV.str s225, AV.int Go.IntKind.i64 n226]) [] ∧
                      ifK (n226 != (0 : Int)) (R (AV.bool false) [])
                        (ifK (!s224 == a0) (R (AV.bool false) [])
                          (ifK (!s225 == b1) (R (AV.bool false) [])
                            (∃ s227 n228,
                              Good PG nG G0 f_seal_Leaf [AV.str a0] [] (AV.tup [AV.str s227, AV.int Go.IntKind.i64 n228]) [] ∧
                                ifK (n228 == (0 : Int))
                                  (∃ s229 n230,
                                    Good PG nG G0 f_seal_Leaf [AV.str c2] [] (AV.tup [AV.str s229, AV.int Go.IntKind.i64 n230]) [] ∧
                                      ∃ s231 n232,
                                        Good PG nG G0 f_seal_Open [AV.str s227] [] (AV.tup [AV.str s231, AV.int Go.IntKind.i64 n232]) [] ∧
                                          ifK (n232 != (0 : Int)) (R (AV.bool false) [])
                                            (ifK (!s231 == a0) (R (AV.bool false) [])
                                              (ifK (n230 == (0 : Int))
                                                (ifK (!(s227 == s229) == (a0 == c2)) (R (AV.bool false) [])
                                                  (ifK (n1 == (0 : Int))
                                                    (ifK (s227 == s0) (R (AV.bool false) [])
                                                      (∃ s233,
                                                        Good PG nG G0 f_seal_None [] [] (AV.str s233) [] ∧
                                                          ifK (s227 == s233) (R (AV.bool false) [])
                                                            (∃ s234 s235 n236,
                                                              Good PG nG G0 f_seal_Split [AV.str c2] [] (AV.tup [AV.str s234, AV.str s235, AV.int Go.IntKind.i64 n236]) [] ∧
                                                                ifK (n236 != (0 : Int)) (R (AV.bool true) [])
                                                                  (∃ s237 n238,
                                                                    Good PG nG G0 f_seal_Node [AV.str s234, AV.str s235] [] (AV.tup [AV.str s237, AV.int Go.IntKind.i64 n238]) [] ∧
                                                                      ifK (n238 != (0 : Int)) (R (AV.bool true) []) (R (AV.bool (s237 == c2)) [])))))
                                                    (∃ s239,
                                                      Good PG nG G0 f_seal_None [] [] (AV.str s239) [] ∧
                                                        ifK (s227 == s239) (R (AV.bool false) [])
                                                          (∃ s240 s241 n242,
                                                            Good PG nG G0 f_seal_Split [AV.str c2] [] (AV.tup [AV.str s240, AV.str s241, AV.int Go.IntKind.i64 n242]) [] ∧
                                                              ifK (n242 != (0 : Int)) (R (AV.bool true) [])
                                                                (∃ s243 n244,
                                                                  Good PG nG G0 f_seal_Node [AV.str s240, AV.str s241] [] (AV.tup [AV.str s243, AV.int Go.IntKind.i64 n244]) [] ∧
                                                                    ifK (n244 != (0 : Int)) (R (AV.bool true) []) (R (AV.bool (s243 == c2)) []))))))
                                                (ifK (n1 == (0 : Int))
                                                  (ifK (s227 == s0) (R (AV.bool false) [])
                                                    (∃ s245,
                                                      Good PG nG G0 f_seal_None [] [] (AV.str s245) [] ∧
                                                        ifK (s227 == s245) (R (AV.bool false) [])
                                                          (∃ s246 s247 n248,
                                                            Good PG nG G0 f_seal_Split [AV.str c2] [] (AV.tup [AV.str s246, AV.str s247, AV.int Go.IntKind.i64 n248]) [] ∧
                                                              ifK (n248 != (0 : Int)) (R (AV.bool true) [])
                                                                (∃ s249 n250,
                                                                  Good PG nG G0 f_seal_Node [AV.str s246, AV.str s247] [] (AV.tup [AV.str s249, AV.int Go.IntKind.i64 n250]) [] ∧
                                                                    ifK (n250 != (0 : Int)) (R (AV.bool true) []) (R (AV.bool (s249 == c2)) [])))))
                                                  (∃ s251,
                                                    Good PG nG G0 f_seal_None [] [] (AV.str s251) [] ∧
                                                      ifK (s227 == s251) (R (AV.bool false) [])
                                                        (∃ s252 s253 n254,
                                                          Good PG nG G0 f_seal_Split [AV.str c2] [] (AV.tup [AV.str s252, AV.str s253, AV.int Go.IntKind.i64 n254]) [] ∧
                                                            ifK (n254 != (0 : Int)) (R (AV.bool true) [])
                                                              (∃ s255 n256,
                                                                Good PG nG G0 f_seal_Node [AV.str s252, AV.str s253] [] (AV.tup [AV.str s255, AV.int Go.IntKind.i64 n256]) [] ∧
                                                                  ifK (n256 != (0 : Int)) (R (AV.bool true) []) (R (AV.bool (s255 == c2)) []))))))))
                                  (∃ s257 s258 n259,
                                    Good PG nG G0 f_seal_Split [AV.str c2] [] (AV.tup [AV.str s257, AV.str s258, AV.int Go.IntKind.i64 n259]) [] ∧
                                      ifK (n259 != (0 : Int)) (R (AV.bool true) [])
                                        (∃ s260 n261,
                                          Good PG nG G0 f_seal_Node [AV.str s257, AV.str s258] [] (AV.tup [AV.str s260, AV.int Go.IntKind.i64 n261]) [] ∧
                                            ifK (n261 != (0 : Int)) (R (AV.bool true) []) (R (AV.bool (s260 == c2)) [])))))))
                  (∃ s262 n263,
                    Good PG nG G0 f_seal_Leaf [AV.str a0] [] (AV.tup [AV.str s262, AV.int Go.IntKind.i64 n263]) [] ∧
                      ifK (n263 == (0 : Int))
                        (∃ s264 n265,
                          Good PG nG G0 f_seal_Leaf [AV.str c2] [] (AV.tup [AV.str s264, AV.int Go.IntKind.i64 n265]) [] ∧
                            ∃ s266 n267,
                              Good PG nG G0 f_seal_Open [AV.str s262] [] (AV.tup [AV.str s266, AV.int Go.IntKind.i64 n267]) [] ∧
                                ifK (n267 != (0 : Int)) (R (AV.bool false) [])
                                  (ifK (!s266 == a0) (R (AV.bool false) [])
                                    (ifK (n265 == (0 : Int))
                                      (ifK (!(s262 == s264) == (a0 == c2)) (R (AV.bool false) [])
                                        (ifK (n1 == (0 : Int))
                                          (ifK (s262 == s0) (R (AV.bool false) [])
                                            (∃ s268,
                                              Good PG nG G0 f_seal_None [] [] (AV.str s268) [] ∧
                                                ifK (s262 == s268) (R (AV.bool false) [])
                                                  (∃ s269 s270 n271,
                                                    Good PG nG G0 f_seal_Split [AV.str c2] [] (AV.tup [AV.str s269, AV.str s270, AV.int Go.IntKind.i64 n271]) [] ∧
                                                      ifK (n271 != (0 : Int)) (R (AV.bool true) [])
                                                        (∃ s272 n273,
                                                          Good PG nG G0 f_seal_Node [AV.str s269, AV.str s270] [] (AV.tup [AV.str s272, AV.int Go.IntKind.i64 n273]) [] ∧
                                                            ifK (n273 != (0 : Int)) (R (AV.bool true) []) (R (AV.bool (s272 == c2)) [])))))
                                          (∃ s274,
                                            Good PG nG G0 f_seal_None [] [] (AV.str s274) [] ∧
                                              ifK (s262 == s274) (R (AV.bool false) [])
                                                (∃ s275 s276 n277,
                                                  Good PG nG G0 f_seal_Split [AV.str c2] [] (AV.tup [AV.str s275, AV.str s276, AV.int Go.IntKind.i64 n277]) [] ∧
                                                    ifK (n277 != (0 : Int)) (R (AV.bool true) [])
                                                      (∃ s278 n279,
                                                        Good PG nG G0 f_seal_Node [AV.str s275, AV.str s276] [] (AV.tup [AV.str s278, AV.int Go.IntKind.i64 n279]) [] ∧
                                                          ifK (n279 != (0 : Int)) (R (AV.bool true) []) (R (AV.bool (s278 == c2)) []))))))
                                      (ifK (n1 == (0 : Int))
                                        (ifK (s262 == s0) (R (AV.bool false) [])
                                          (∃ s280,
                                            Good PG nG G0 f_seal_None [] [] (AV.str s280) [] ∧
                                              ifK (s262 == s280) (R (AV.bool false) [])
                                                (∃ s281 s282 n283,
                                                  Good PG nG G0 f_seal_Split [AV.str c2] [] (AV.tup [AV.str s281, AV.str s282, AV.int Go.IntKind.i64 n283]) [] ∧
                                                    ifK (n283 != (0 : Int)) (R (AV.bool true) [])
                                                      (∃ s284 n285,
                                                        Good PG nG G0 f_seal_Node [AV.str s281, AV.str s282] [] (AV.tup [AV.str s284, AV.int Go.IntKind.i64 n285]) [] ∧
                                                          ifK (n285 != (0 : Int)) (R (AV.bool true) []) (R (AV.bool (s284 == c2)) [])))))
                                        (∃ s286,
                                          Good PG nG G0 f_seal_None [] [] (AV.str s286) [] ∧
                                            ifK (s262 == s286) (R (AV.bool false) [])
                                              (∃ s287 s288 n289,
                                                Good PG nG G0 f_seal_Split [AV.str c2] [] (AV.tup [AV.str s287, AV.str s288, AV.int Go.IntKind.i64 n289]) [] ∧
                                                  ifK (n289 != (0 : Int)) (R (AV.bool true) [])
                                                    (∃ s290 n291,
                                                      Good PG nG G0 f_seal_Node [AV.str s287, AV.str s288] [] (AV.tup [AV.str s290, AV.int Go.IntKind.i64 n291]) [] ∧
                                                        ifK (n291 != (0 : Int)) (R (AV.bool true) []) (R (AV.bool (s290 == c2)) []))))))))
                        (∃ s292 s293 n294,
                          Good PG nG G0 f_seal_Split [AV.str c2] [] (AV.tup [AV.str s292, AV.str s293, AV.int Go.IntKind.i64 n294]) [] ∧
                            ifK (n294 != (0 : Int)) (R (AV.bool true) [])
                              (∃ s295 n296,
                                Good PG nG G0 f_seal_Node [AV.str s292, AV.str s293] [] (AV.tup [AV.str s295, AV.int Go.IntKind.i64 n296]) [] ∧ ifK (n296 != (0 : Int)) (R (AV.bool true) []) (R (AV.bool (s295 == c2)) []))))))) :
  Hold (runF PG ty nG G0 an_greatseallaw_SealOne f_greatseallaw_SealOne [AV.str a0, AV.str b1, AV.str c2, AV.str d3] [] R) := kshow h (by kernel_rfl)

theorem greatseallaw_SealLong_run (a0 : List UInt8) (b1 : List UInt8) (G0 : Nat → Option Go.Obj) (R : AV → List (Option Blk) → Prop) (h :
  ∃ s0 n1,
  Good PG nG G0 f_seal_Leaf [AV.str a0] [] (AV.tup [AV.str s0, AV.int Go.IntKind.i64 n1]) [] ∧
    ∃ s2 n3,
      Good PG nG G0 f_seal_Node [AV.str a0, AV.str b1] [] (AV.tup [AV.str s2, AV.int Go.IntKind.i64 n3]) [] ∧
        ∃ b4,
          Good PG nG G0 f_greatseallaw_sealed [] [] (AV.bool b4) [] ∧
            ifK (!b4) (R (AV.bool false) [])
              (ifK (n1 == (0 : Int))
                (ifK ((↑(List.length s0) : Int) != Go.IntKind.wrap Go.IntKind.i64 ((↑(List.length a0) : Int) + (1 : Int))) (R (AV.bool false) [])
                  (ifK (n3 != (0 : Int)) (R (AV.bool true) [])
                    (ifK (decide ((↑(List.length s2) : Int) ≤ Go.IntKind.wrap Go.IntKind.i64 (Go.IntKind.wrap Go.IntKind.i64 ((↑(List.length a0) : Int) + (↑(List.length b1) : Int)) + (7 : Int))))
                      (ifK (decide ((↑(List.length s2) : Int) ≥ Go.IntKind.wrap Go.IntKind.i64 (Go.IntKind.wrap Go.IntKind.i64 ((↑(List.length a0) : Int) + (↑(List.length b1) : Int)) + (3 : Int))))
                        (List.length a0 + List.length b1 ≤ (9223372036854775807 : Nat) ∧ ∃ b5, Good PG nG G0 f_strings_HasSuffix [AV.str s2, AV.str (a0 ++ b1)] [] (AV.bool b5) [] ∧ R (AV.bool b5) []) (R (AV.bool false) []))
                      (R (AV.bool false) []))))
                (ifK (n3 != (0 : Int)) (R (AV.bool true) [])
                  (ifK (decide ((↑(List.length s2) : Int) ≤ Go.IntKind.wrap Go.IntKind.i64 (Go.IntKind.wrap Go.IntKind.i64 ((↑(List.length a0) : Int) + (↑(List.length b1) : Int)) + (7 : Int))))
                    (ifK (decide ((↑(List.length s2) : Int) ≥ Go.IntKind.wrap Go.IntKind.i64 (Go.IntKind.wrap Go.IntKind.i64 ((↑(List.length a0) : Int) + (↑(List.length b1) : Int)) + (3 : Int))))
                      (List.length a0 + List.length b1 ≤ (9223372036854775807 : Nat) ∧ ∃ b6, Good PG nG G0 f_strings_HasSuffix [AV.str s2, AV.str (a0 ++ b1)] [] (AV.bool b6) [] ∧ R (AV.bool b6) []) (R (AV.bool false) []))
                    (R (AV.bool false) []))))) :
  Hold (runF PG ty nG G0 an_greatseallaw_SealLong f_greatseallaw_SealLong [AV.str a0, AV.str b1] [] R) := kshow h (by kernel_rfl)

theorem greatseallaw_TreeHalves_run (nll0 : Bool) (l0 : List (List AV)) (G0 : Nat → Option Go.Obj) (R : AV → List (Option Blk) → Prop) (h :
  ∃ s0 n1,
  Good PG nG G0 f_tree_Root [AV.sl (1 : Nat) nll0 none l0] [] (AV.tup [AV.str s0, AV.int Go.IntKind.i64 n1]) [] ∧
    ∃ b2,
      Good PG nG G0 f_greatseallaw_planted [] [] (AV.bool b2) [] ∧
        ifK (!b2) (∃ b3, Good PG nG G0 f_greatseallaw_planted [] [] (AV.bool b3) [] ∧ R (AV.bool b3) [])
          (ifK (n1 != (0 : Int)) (∃ b4, Good PG nG G0 f_greatseallaw_planted [] [] (AV.bool b4) [] ∧ R (AV.bool b4) [])
            (ifK (decide ((↑(List.length l0) : Int) < (2 : Int))) (∃ b5, Good PG nG G0 f_greatseallaw_planted [] [] (AV.bool b5) [] ∧ R (AV.bool b5) [])
              (∃ n6 n7,
                Good PG nG G0 f_tree_Half [AV.int Go.IntKind.i64 (↑(List.length l0) : Int)] [] (AV.tup [AV.int Go.IntKind.i64 n6, AV.int Go.IntKind.i64 n7]) [] ∧
                  ifK (n7 != (0 : Int)) (R (AV.bool false) [])
                    (ifK (decide (n6 < (1 : Int))) (R (AV.bool false) [])
                      (ifK (decide (n6 ≥ (↑(List.length l0) : Int))) (R (AV.bool false) [])
                        (ifK (decide (n6 < Go.IntKind.wrap Go.IntKind.i64 ((↑(List.length l0) : Int) - n6))) (R (AV.bool false) [])
                          (ifK (Go.IntKind.wrap Go.IntKind.i64 (↑(BitVec.toNat (BitVec.ofInt (64 : Nat) n6 &&& BitVec.ofInt (64 : Nat) (Go.IntKind.wrap Go.IntKind.i64 (n6 - (1 : Int))))) : Int) != (0 : Int)) (R (AV.bool false) [])
                            ((0 : Int) ≤ (0 : Int) ∧
                              (0 : Int) ≤ n6 ∧
                                n6 ≤ (↑(List.length l0) : Int) ∧
                                  ∃ s8 n9,
                                    Good PG nG G0 f_tree_Root [AV.sl (1 : Nat) nll0 none (List.drop (0 : Nat) (List.take (Int.toNat n6) l0))] [] (AV.tup [AV.str s8, AV.int Go.IntKind.i64 n9]) [] ∧
                                      (0 : Int) ≤ n6 ∧
                                        n6 ≤ (↑(List.length l0) : Int) ∧
                                          (↑(List.length l0) : Int) ≤ (↑(List.length l0) : Int) ∧
                                            ∃ s10 n11,
                                              Good PG nG G0 f_tree_Root [AV.sl (1 : Nat) nll0 none (List.drop (Int.toNat n6) (List.take (Int.toNat (↑(List.length l0) : Int)) l0))] [] (AV.tup [AV.str s10, AV.int Go.IntKind.i64 n11])
                                                  [] ∧
                                                ∃ s12 s13 n14,
                                                  Good PG nG G0 f_seal_Split [AV.str s0] [] (AV.tup [AV.str s12, AV.str s13, AV.int Go.IntKind.i64 n14]) [] ∧
                                                    ifK (n9 == (0 : Int)) (ifK (n11 == (0 : Int)) (ifK (n14 == (0 : Int)) (ifK (s12 == s8) (R (AV.bool (s13 == s10)) []) (R (AV.bool false) [])) (R (AV.bool false) [])) (R (AV.bool false) []))
                                                      (R (AV.bool false) [])))))))))) :
  Hold (runF PG ty nG G0 an_greatseallaw_TreeHalves f_greatseallaw_TreeHalves [AV.sl (1 : Nat) nll0 none l0] [] R) := kshow h (by kernel_rfl)

theorem greatseallaw_NoteSays_run (h0_0 : Int) (h0_1 : List UInt8) (h0_2 : List UInt8) (s1 : List UInt8) (G0 : Nat → Option Go.Obj) (R : AV → List (Option Blk) → Prop) (h :
  ∃ s0 n1,
  Good PG nG G0 f_note_Print [AV.agg [AV.int Go.IntKind.i64 h0_0, AV.str h0_1, AV.str h0_2]] [] (AV.tup [AV.str s0, AV.int Go.IntKind.i64 n1]) [] ∧
    ∃ n2 s3 s4 n5,
      Good PG nG G0 f_note_Parse [AV.str s1] [] (AV.tup [AV.agg [AV.int Go.IntKind.i64 n2, AV.str s3, AV.str s4], AV.int Go.IntKind.i64 n5]) [] ∧
        ∃ s6 n7,
          Good PG nG G0 f_greatsealref_HeadText [AV.agg [AV.int Go.IntKind.i64 h0_0, AV.str h0_1, AV.str h0_2]] [] (AV.tup [AV.str s6, AV.int Go.IntKind.i64 n7]) [] ∧
            ∃ n8 s9 s10 n11,
              Good PG nG G0 f_greatsealref_HeadRead [AV.str s1] [] (AV.tup [AV.agg [AV.int Go.IntKind.i64 n8, AV.str s9, AV.str s10], AV.int Go.IntKind.i64 n11]) [] ∧
                ∃ b12,
                  Good PG nG G0 f_greatseallaw_noted [] [] (AV.bool b12) [] ∧
                    ifK b12
                      (∃ n13,
                        Good PG nG G0 f_note_Check [AV.agg [AV.int Go.IntKind.i64 h0_0, AV.str h0_1, AV.str h0_2]] [] (AV.int Go.IntKind.i64 n13) [] ∧
                          ∃ n14,
                            Good PG nG G0 f_greatsealref_CheckHead [AV.agg [AV.int Go.IntKind.i64 h0_0, AV.str h0_1, AV.str h0_2]] [] (AV.int Go.IntKind.i64 n14) [] ∧
                              ifK (n13 == n14)
                                (ifK (n1 == n7)
                                  (ifK (s0 == s6) (ifK (n5 == n11) (R (AV.bool (eqAll [AV.int Go.IntKind.i64 n2, AV.str s3, AV.str s4] [AV.int Go.IntKind.i64 n8, AV.str s9, AV.str s10])) []) (R (AV.bool false) [])) (R (AV.bool false) []))
                                  (R (AV.bool false) []))
                                (R (AV.bool false) []))
                      (R (AV.bool false) [])) :
  Hold (runF PG ty nG G0 an_greatseallaw_NoteSays f_greatseallaw_NoteSays [AV.agg [AV.int Go.IntKind.i64 h0_0, AV.str h0_1, AV.str h0_2], AV.str s1] [] R) := kshow h (by kernel_rfl)

theorem greatseallaw_NoteBack_run (h0_0 : Int) (h0_1 : List UInt8) (h0_2 : List UInt8) (g1_0 : Int) (g1_1 : List UInt8) (g1_2 : List UInt8) (s2 : List UInt8) (G0 : Nat → Option Go.Obj) (R : AV → List (Option Blk) → Prop) (h :
  ∃ s0 n1,
  Good PG nG G0 f_note_Print [AV.agg [AV.int Go.IntKind.i64 h0_0, AV.str h0_1, AV.str h0_2]] [] (AV.tup [AV.str s0, AV.int Go.IntKind.i64 n1]) [] ∧
    ∃ s2_1 n3,
      Good PG nG G0 f_note_Print [AV.agg [AV.int Go.IntKind.i64 g1_0, AV.str g1_1, AV.str g1_2]] [] (AV.tup [AV.str s2_1, AV.int Go.IntKind.i64 n3]) [] ∧
        ∃ b4,
          Good PG nG G0 f_greatseallaw_noted [] [] (AV.bool b4) [] ∧
            ifK (!b4) (R (AV.bool false) [])
              (ifK (n1 == (0 : Int))
                (ifK (n3 == (0 : Int))
                  (ifK (!(s0 == s2_1) == eqAll [AV.int Go.IntKind.i64 h0_0, AV.str h0_1, AV.str h0_2] [AV.int Go.IntKind.i64 g1_0, AV.str g1_1, AV.str g1_2]) (R (AV.bool false) [])
                    (ifK (n1 == (0 : Int))
                      (∃ n5 s6 s7 n8,
                        Good PG nG G0 f_note_Parse [AV.str s0] [] (AV.tup [AV.agg [AV.int Go.IntKind.i64 n5, AV.str s6, AV.str s7], AV.int Go.IntKind.i64 n8]) [] ∧
                          ifK (n8 != (0 : Int)) (R (AV.bool false) [])
                            (ifK (!eqAll [AV.int Go.IntKind.i64 n5, AV.str s6, AV.str s7] [AV.int Go.IntKind.i64 h0_0, AV.str h0_1, AV.str h0_2]) (R (AV.bool false) [])
                              (∃ n9 s10 s11 n12,
                                Good PG nG G0 f_note_Parse [AV.str s2] [] (AV.tup [AV.agg [AV.int Go.IntKind.i64 n9, AV.str s10, AV.str s11], AV.int Go.IntKind.i64 n12]) [] ∧
                                  ifK (n12 != (0 : Int)) (R (AV.bool true) [])
                                    (∃ s13 n14,
                                      Good PG nG G0 f_note_Print [AV.agg [AV.int Go.IntKind.i64 n9, AV.str s10, AV.str s11]] [] (AV.tup [AV.str s13, AV.int Go.IntKind.i64 n14]) [] ∧
                                        ifK (n14 == (0 : Int)) (R (AV.bool (s13 == s2)) []) (R (AV.bool false) [])))))
                      (∃ n15 s16 s17 n18,
                        Good PG nG G0 f_note_Parse [AV.str s2] [] (AV.tup [AV.agg [AV.int Go.IntKind.i64 n15, AV.str s16, AV.str s17], AV.int Go.IntKind.i64 n18]) [] ∧
                          ifK (n18 != (0 : Int)) (R (AV.bool true) [])
                            (∃ s19 n20,
                              Good PG nG G0 f_note_Print [AV.agg [AV.int Go.IntKind.i64 n15, AV.str s16, AV.str s17]] [] (AV.tup [AV.str s19, AV.int Go.IntKind.i64 n20]) [] ∧
                                ifK (n20 == (0 : Int)) (R (AV.bool (s19 == s2)) []) (R (AV.bool false) [])))))
                  (ifK (n1 == (0 : Int))
                    (∃ n21 s22 s23 n24,
                      Good PG nG G0 f_note_Parse [AV.str s0] [] (AV.tup [AV.agg [AV.int Go.IntKind.i64 n21, AV.str s22, AV.str s23], AV.int Go.IntKind.i64 n24]) [] ∧
                        ifK (n24 != (0 : Int)) (R (AV.bool false) [])
                          (ifK (!eqAll [AV.int Go.IntKind.i64 n21, AV.str s22, AV.str s23] [AV.int Go.IntKind.i64 h0_0, AV.str h0_1, AV.str h0_2]) (R (AV.bool false) [])
                            (∃ n25 s26 s27 n28,
                              Good PG nG G0 f_note_Parse [AV.str s2] [] (AV.tup [AV.agg [AV.int Go.IntKind.i64 n25, AV.str s26, AV.str s27], AV.int Go.IntKind.i64 n28]) [] ∧
                                ifK (n28 != (0 : Int)) (R (AV.bool true) [])
                                  (∃ s29 n30,
                                    Good PG nG G0 f_note_Print [AV.agg [AV.int Go.IntKind.i64 n25, AV.str s26, AV.str s27]] [] (AV.tup [AV.str s29, AV.int Go.IntKind.i64 n30]) [] ∧
                                      ifK (n30 == (0 : Int)) (R (AV.bool (s29 == s2)) []) (R (AV.bool false) [])))))
                    (∃ n31 s32 s33 n34,
                      Good PG nG G0 f_note_Parse [AV.str s2] [] (AV.tup [AV.agg [AV.int Go.IntKind.i64 n31, AV.str s32, AV.str s33], AV.int Go.IntKind.i64 n34]) [] ∧
                        ifK (n34 != (0 : Int)) (R (AV.bool true) [])
                          (∃ s35 n36,
                            Good PG nG G0 f_note_Print [AV.agg [AV.int Go.IntKind.i64 n31, AV.str s32, AV.str s33]] [] (AV.tup [AV.str s35, AV.int Go.IntKind.i64 n36]) [] ∧
                              ifK (n36 == (0 : Int)) (R (AV.bool (s35 == s2)) []) (R (AV.bool false) [])))))
                (ifK (n1 == (0 : Int))
                  (∃ n37 s38 s39 n40,
                    Good PG nG G0 f_note_Parse [AV.str s0] [] (AV.tup [AV.agg [AV.int Go.IntKind.i64 n37, AV.str s38, AV.str s39], AV.int Go.IntKind.i64 n40]) [] ∧
                      ifK (n40 != (0 : Int)) (R (AV.bool false) [])
                        (ifK (!eqAll [AV.int Go.IntKind.i64 n37, AV.str s38, AV.str s39] [AV.int Go.IntKind.i64 h0_0, AV.str h0_1, AV.str h0_2]) (R (AV.bool false) [])
                          (∃ n41 s42 s43 n44,
                            Good PG nG G0 f_note_Parse [AV.str s2] [] (AV.tup [AV.agg [AV.int Go.IntKind.i64 n41, AV.str s42, AV.str s43], AV.int Go.IntKind.i64 n44]) [] ∧
                              ifK (n44 != (0 : Int)) (R (AV.bool true) [])
                                (∃ s45 n46,
                                  Good PG nG G0 f_note_Print [AV.agg [AV.int Go.IntKind.i64 n41, AV.str s42, AV.str s43]] [] (AV.tup [AV.str s45, AV.int Go.IntKind.i64 n46]) [] ∧
                                    ifK (n46 == (0 : Int)) (R (AV.bool (s45 == s2)) []) (R (AV.bool false) [])))))
                  (∃ n47 s48 s49 n50,
                    Good PG nG G0 f_note_Parse [AV.str s2] [] (AV.tup [AV.agg [AV.int Go.IntKind.i64 n47, AV.str s48, AV.str s49], AV.int Go.IntKind.i64 n50]) [] ∧
                      ifK (n50 != (0 : Int)) (R (AV.bool true) [])
                        (∃ s51 n52,
                          Good PG nG G0 f_note_Print [AV.agg [AV.int Go.IntKind.i64 n47, AV.str s48, AV.str s49]] [] (AV.tup [AV.str s51, AV.int Go.IntKind.i64 n52]) [] ∧
                            ifK (n52 == (0 : Int)) (R (AV.bool (s51 == s2)) []) (R (AV.bool false) [])))))) :
  Hold (runF PG ty nG G0 an_greatseallaw_NoteBack f_greatseallaw_NoteBack [AV.agg [AV.int Go.IntKind.i64 h0_0, AV.str h0_1, AV.str h0_2], AV.agg [AV.int Go.IntKind.i64 g1_0, AV.str g1_1, AV.str g1_2], AV.str s2] [] R) := kshow h (by kernel_rfl)

end Go.Ab

namespace Go.Ab
open Go.Proofs Go.Gs
variable {G0 : Nat → Option Obj}

theorem cons_ne {a b : UInt8} (h : a ≠ b) (r s : By) : ((a :: r : By) == (b :: s)) = false := beq_eq_false_iff_ne.2 fun e => by
  injection e with e _
  exact h e

theorem cons_beq (a : UInt8) (r s : By) : ((a :: r : By) == (a :: s)) = (r == s) := by
  by_cases h : r = s
  · rw [h]; simp
  · rw [beq_eq_false_iff_ne.2 h, beq_eq_false_iff_ne.2 fun e => h (by injection e)]

theorem good_SealSays (hG : GlobOk G0) (hE : GlobE G0) (a b : By) (ha : a.length ≤ 140737488351232) (hb : b.length ≤ 140737488351232) : Good PG nG G0 f_greatseallaw_SealSays [.str a, .str b] [] (.bool true) [] := by
  suffices main : ∀ R : AV → List (Option Blk) → Prop, R (.bool true) [] → Hold (runF PG ty nG G0 an_greatseallaw_SealSays f_greatseallaw_SealSays [.str a, .str b] [] R) from
    good_of_run prOk (by kernel_rfl) (main _ ⟨rfl, rfl⟩)
  intro R hR
  refine greatseallaw_SealSays_run a b G0 R ⟨_, _, good_Leaf a, _, _, good_Node hG a b, _, _, good_Open a, _, _, _, good_Split hG hE a ha, _, _, good_LeafOf a, _, _, good_NodeOf hG a b (by omega) (by omega), _, _, _, good_SplitOf hG hE a ha, _, good_sealed hG hE, ?_⟩
  simp only [beq_self_eq_true, Bool.not_true, ifF, bne_self_eq_false]
  cases a with
  | nil =>
    simp only [List.length_nil, Int.natCast_zero, beq_self_eq_true, ifT]
    exact hR
  | cons c r =>
    have hne : (((c :: r : By).length : Int) == 0) = false := by rw [beq_eq_false_iff_ne]; simp only [List.length_cons]; omega
    rw [hne, ifF]
    refine ⟨by decide, c, rfl, ?_⟩
    unfold openS
    simp only [List.head?_cons, Option.some.injEq]
    by_cases hc : c = 76
    · subst hc
      rw [show (((UInt8.toNat 76 : Nat) : Int) != 76) = false from rfl, ifF, if_pos rfl]
      simp only [beq_self_eq_true, ifT]
      refine ⟨by decide, by simp only [List.length_cons]; omega, Int.le_refl _, ?_⟩
      rw [Int.toNat_natCast, List.take_length, beq_self_eq_true]
      exact hR
    · have h76 : (((UInt8.toNat c : Nat) : Int) != 76) = true := by
        rw [bne_iff_ne]
        intro e
        apply hc
        apply UInt8.toNat_inj.1
        show c.toNat = 76
        omega
      rw [h76, ifT, if_neg hc]
      simp only [beq_self_eq_true, ifT]
      exact hR

theorem tLeaf_ok {a : By} (h : (tLeaf a).2 = 0) : (tLeaf a).1 = 76 :: a := by
  unfold tLeaf at h ⊢
  split at h
  · cases h
  · rename_i h1; rw [if_neg h1]

theorem tNode_small {a b : By} (h : (tNode a b).2 = 0) : a.length + b.length ≤ 20000 := by
  unfold tNode at h
  split at h
  · cases h
  · omega

theorem itoa_len5 {n : Nat} (h : n < 100000) : (Lib.itoa (n : Int)).length ≤ 5 ∧ 1 ≤ (Lib.itoa (n : Int)).length := by
  rw [itoa_nat]
  have h1 := decDigits_len4 h
  have h2 := decDigits_ne n
  refine ⟨h1, ?_⟩
  cases hd : Lib.decDigits n with
  | nil => exact absurd hd h2
  | cons => simp

theorem good_HasSuffix (s p : By) (hs : s.length ≤ 140737488455328) : Good PG nG G0 f_strings_HasSuffix [.str s, .str p] [] (.bool (hasSuf s p)) [] := by
  have h1 : Good PG nG G0 f_internal_stringslite_HasSuffix [.str s, .str p] [] (.bool (hasSuf s p)) [] := by
    refine good_of_run prOk (by kernel_rfl) (internal_stringslite_HasSuffix_run s p G0 _ ?_)
    unfold hasSuf
    refine ifK_dec' (fun h => ?_) fun h => ?_
    · have hp : p.length ≤ s.length := by omega
      rw [wrap64 (show -9223372036854775808 ≤ (s.length : Int) - (p.length : Int) by omega) (by omega), Int.toNat_natCast, List.take_length, show ((s.length : Int) - (p.length : Int)).toNat = s.length - p.length by omega]
      refine ⟨by omega, by omega, Int.le_refl _, ?_, rfl⟩
      rw [decide_eq_true hp, Bool.true_and]
    · rw [decide_eq_false (show ¬ p.length ≤ s.length by omega), Bool.false_and]
      exact ⟨rfl, rfl⟩
  exact good_of_run prOk (by kernel_rfl) (strings_HasSuffix_run s p G0 _ ⟨_, h1, rfl, rfl⟩)

theorem good_SealLong (hG : GlobOk G0) (hE : GlobE G0) (a b : By) (ha : a.length ≤ 140737488351232) (hb : b.length ≤ 140737488351232) : Good PG nG G0 f_greatseallaw_SealLong [.str a, .str b] [] (.bool true) [] := by
  suffices main : ∀ R : AV → List (Option Blk) → Prop, R (.bool true) [] → Hold (runF PG ty nG G0 an_greatseallaw_SealLong f_greatseallaw_SealLong [.str a, .str b] [] R) from
    good_of_run prOk (by kernel_rfl) (main _ ⟨rfl, rfl⟩)
  intro R hR
  refine greatseallaw_SealLong_run a b G0 R ⟨_, _, good_Leaf a, _, _, good_Node hG a b, _, good_sealed hG hE, ?_⟩
  rw [Bool.not_true, ifF]
  have last : ifK ((tNode a b).2 != (0 : Int)) (R (.bool true) [])
      (ifK (decide (((tNode a b).1.length : Int) ≤ IntKind.i64.wrap (IntKind.i64.wrap ((a.length : Int) + (b.length : Int)) + 7)))
        (ifK (decide (((tNode a b).1.length : Int) ≥ IntKind.i64.wrap (IntKind.i64.wrap ((a.length : Int) + (b.length : Int)) + 3)))
          (a.length + b.length ≤ 9223372036854775807 ∧ ∃ b5, Good PG nG G0 f_strings_HasSuffix [.str (tNode a b).1, .str (a ++ b)] [] (.bool b5) [] ∧ R (.bool b5) []) (R (.bool false) [])) (R (.bool false) [])) := by
    refine ifK_ne0 (fun _ => hR) fun h => ?_
    have hsm := tNode_small h
    have hi := itoa_len5 (n := a.length) (by omega)
    have hn : (tNode a b).1.length = (Lib.itoa (a.length : Int)).length + 2 + a.length + b.length := by
      rw [tNode_ok h]; simp only [List.length_cons, List.length_append]; omega
    rw [wrap64 (show -9223372036854775808 ≤ (a.length : Int) + (b.length : Int) by omega) (by omega), wrap64 (show -9223372036854775808 ≤ (a.length : Int) + (b.length : Int) + 7 by omega) (by omega), wrap64 (show -9223372036854775808 ≤ (a.length : Int) + (b.length : Int) + 3 by omega) (by omega), decide_eq_true (by omega), ifT, decide_eq_true (by omega), ifT]
    have hsf : hasSuf (tNode a b).1 (a ++ b) = true := by
      unfold hasSuf
      rw [hn, List.length_append, decide_eq_true (by omega), Bool.true_and, tNode_ok h]
      have : (78 :: (Lib.itoa (a.length : Int) ++ 58 :: (a ++ b)) : By) = (78 :: (Lib.itoa (a.length : Int) ++ [58])) ++ (a ++ b) := by simp
      rw [this, List.drop_left' (by simp only [List.length_cons, List.length_append, List.length_nil]; omega), beq_self_eq_true]
    have gs := good_HasSuffix (G0 := G0) (tNode a b).1 (a ++ b) (by omega)
    rw [hsf] at gs
    exact ⟨by omega, _, gs, hR⟩
  refine ifK_bool' (fun h => ?_) fun _ => last
  have h : (tLeaf a).2 = 0 := by simpa using h
  rw [tLeaf_ok h, List.length_cons, wrap64 (show -9223372036854775808 ≤ (a.length : Int) + 1 by omega) (by omega)]
  rw [show ((((a.length + 1 : Nat) : Int) != (a.length : Int) + 1)) = false by simp, ifF]
  exact last

theorem good_TreeHalves (hG : GlobOk G0) (hE : GlobE G0) (l : List By) (nl : Bool) : Good PG nG G0 f_greatseallaw_TreeHalves [.sl 1 nl none (l.map S1)] [] (.bool true) [] := by
  suffices main : ∀ R : AV → List (Option Blk) → Prop, R (.bool true) [] → Hold (runF PG ty nG G0 an_greatseallaw_TreeHalves f_greatseallaw_TreeHalves [.sl 1 nl none (l.map S1)] [] R) from
    good_of_run prOk (by kernel_rfl) (main _ ⟨rfl, rfl⟩)
  intro R hR
  have pl := good_planted (G0 := G0) hG
  have hl : (l.map S1).length = l.length := List.length_map ..
  refine greatseallaw_TreeHalves_run nl _ G0 R ⟨_, _, good_Root' hG l nl, _, pl, ?_⟩
  rw [Bool.not_true, ifF, hl]
  refine ifK_ne0 (fun _ => ⟨_, pl, hR⟩) fun h => ifK_dec' (fun _ => ⟨_, pl, hR⟩) fun h2 => ?_
  obtain ⟨h24, hrt⟩ := rootOf_ok h
  have h2 : 2 ≤ l.length := by omega
  have hk1 := halfN_pos l.length
  have hk2 := halfN_lt h2
  have hsp := halfN_spec l.length
  refine ⟨_, _, good_Half' l.length h2 h24, ?_⟩
  rw [bne_self_eq_false, ifF, decide_eq_false (by omega), ifF, decide_eq_false (by omega), ifF, wrap64 (show -9223372036854775808 ≤ (l.length : Int) - (halfN l.length : Int) by omega) (by omega), decide_eq_false (by omega), ifF]
  have hbit : (IntKind.i64.wrap ((BitVec.toNat (BitVec.ofInt 64 (halfN l.length : Int) &&& BitVec.ofInt 64 (IntKind.i64.wrap ((halfN l.length : Int) - 1))) : Nat) : Int) != 0) = false := by
    rcases hsp with ⟨e, _⟩ | ⟨e, _⟩ | ⟨e, _⟩ | ⟨e, _⟩ | ⟨e, _⟩ <;> rw [e] <;> decide
  rw [hbit, ifF]
  have et : (tRoot l).2 = 0 := by rw [← hrt]; exact h
  have e2 := tRoot_two h2
  rw [e2] at et
  by_cases ha : (tRoot (l.take (halfN l.length))).2 = 0
  case neg => rw [if_pos ha] at et; exact absurd et ha
  by_cases hb : (tRoot (l.drop (halfN l.length))).2 = 0
  case neg => rw [if_neg (by simpa using ha), if_pos hb] at et; exact absurd et hb
  rw [if_neg (by simpa using ha), if_neg (by simpa using hb)] at et e2
  have hsm := tNode_small et
  have ra : rootOf (l.take (halfN l.length)) = tRoot (l.take (halfN l.length)) := by unfold rootOf; rw [if_neg (by simp only [List.length_take]; omega)]
  have rb : rootOf (l.drop (halfN l.length)) = tRoot (l.drop (halfN l.length)) := by unfold rootOf; rw [if_neg (by simp only [List.length_drop]; omega)]
  have g1 := good_Root' (G0 := G0) hG (l.take (halfN l.length)) nl
  have g2 := good_Root' (G0 := G0) hG (l.drop (halfN l.length)) nl
  rw [ra, ha] at g1
  rw [rb, hb] at g2
  have i5 := itoa_len5 (n := (tRoot (l.take (halfN l.length))).1.length) (by omega)
  have gs := good_Split (G0 := G0) hG hE (rootOf l).1 (by rw [hrt, e2, tNode_ok et]; simp only [List.length_cons, List.length_append]; omega)
  have hsplit : splitR (rootOf l).1 = (((tRoot (l.take (halfN l.length))).1, (tRoot (l.drop (halfN l.length))).1), 0) := by
    rw [hrt, e2, tNode_ok et]
    exact splitR_node (by omega)
  rw [hsplit] at gs
  rw [Int.toNat_natCast, Int.toNat_natCast, List.take_of_length_le (show (l.map S1).length ≤ l.length by rw [hl]; exact Nat.le_refl _), List.drop_zero, ← List.map_take, ← List.map_drop]
  refine ⟨by decide, by omega, by omega, _, _, g1, by omega, by omega, Int.le_refl _, _, _, g2, _, _, _, gs, ?_⟩
  simp only [beq_self_eq_true, ifT]
  exact hR

theorem good_NoteSays (hG : GlobOk G0) (hE : GlobE G0) (h : Hd) (s : By) (hs : s.length ≤ 140737488351232) : Good PG nG G0 f_greatseallaw_NoteSays [.agg [.int .i64 h.n, .str h.log, .str h.mp], .str s] [] (.bool true) [] := by
  refine good_of_run prOk (by kernel_rfl) (greatseallaw_NoteSays_run _ _ _ s G0 _ ⟨_, _, good_Print hG h, _, _, _, _, good_Parse hG hE s hs, _, _, good_HeadText hG h, _, _, _, _, good_HeadRead hG hE s hs, _, good_noted hG hE, ?_⟩)
  rw [ifT]
  refine ⟨_, good_noteCheck h, _, good_CheckHead h, ?_⟩
  simp only [beq_self_eq_true, ifT]
  rw [eqAll_hd, decide_eq_true rfl]
  exact ⟨rfl, by trivial⟩

theorem printR_two (h : Hd) : (printR h).2 = checkH h := by
  unfold printR
  split
  · rfl
  · rename_i h1; simpa using (by simpa using h1 : checkH h = 0).symm

theorem printR_len {h : Hd} (hc : checkH h = 0) : (printR h).1.length ≤ 40100 := by
  have hk := checkH_ok' hc
  have l1 := itoa_len20 (n := h.n) (by omega) (by omega)
  have l2 := itoa_len20 (n := (h.log.length : Int)) (by omega) (by omega)
  have l3 := itoa_len20 (n := (h.mp.length : Int)) (by omega) (by omega)
  rw [printR_eq hc]
  simp only [List.length_append, List.length_cons, List.length_nil]; omega

theorem good_NoteBack (hG : GlobOk G0) (hE : GlobE G0) (h g : Hd) (s : By) (hs : s.length ≤ 140737488351232) : Good PG nG G0 f_greatseallaw_NoteBack [.agg [.int .i64 h.n, .str h.log, .str h.mp], .agg [.int .i64 g.n, .str g.log, .str g.mp], .str s] [] (.bool true) [] := by
  suffices main : ∀ R : AV → List (Option Blk) → Prop, R (.bool true) [] → Hold (runF PG ty nG G0 an_greatseallaw_NoteBack f_greatseallaw_NoteBack [.agg [.int .i64 h.n, .str h.log, .str h.mp], .agg [.int .i64 g.n, .str g.log, .str g.mp], .str s] [] R) from
    good_of_run prOk (by kernel_rfl) (main _ ⟨rfl, rfl⟩)
  intro R hR
  have q : ∃ n9 s10 s11 n12, Good PG nG G0 f_note_Parse [.str s] [] (.tup [.agg [.int .i64 n9, .str s10, .str s11], .int .i64 n12]) [] ∧ ifK (n12 != (0 : Int)) (R (.bool true) [])
      (∃ s13 n14, Good PG nG G0 f_note_Print [.agg [.int .i64 n9, .str s10, .str s11]] [] (.tup [.str s13, .int .i64 n14]) [] ∧ ifK (n14 == (0 : Int)) (R (.bool (s13 == s)) []) (R (.bool false) [])) := by
    refine ⟨_, _, _, _, good_Parse hG hE s hs, ifK_ne0 (fun _ => hR) fun h0 => ?_⟩
    have gp := good_Print (G0 := G0) hG (parseR s).1
    rw [(print_parse h0).2] at gp
    refine ⟨_, _, gp, ?_⟩
    simp only [beq_self_eq_true, ifT]
    exact hR
  have p : ifK ((printR h).2 == (0 : Int)) (∃ n5 s6 s7 n8, Good PG nG G0 f_note_Parse [.str (printR h).1] [] (.tup [.agg [.int .i64 n5, .str s6, .str s7], .int .i64 n8]) [] ∧ ifK (n8 != (0 : Int)) (R (.bool false) [])
      (ifK (!eqAll [.int .i64 n5, .str s6, .str s7] [.int .i64 h.n, .str h.log, .str h.mp]) (R (.bool false) []) (∃ n9 s10 s11 n12, Good PG nG G0 f_note_Parse [.str s] [] (.tup [.agg [.int .i64 n9, .str s10, .str s11], .int .i64 n12]) [] ∧ ifK (n12 != (0 : Int)) (R (.bool true) [])
      (∃ s13 n14, Good PG nG G0 f_note_Print [.agg [.int .i64 n9, .str s10, .str s11]] [] (.tup [.str s13, .int .i64 n14]) [] ∧ ifK (n14 == (0 : Int)) (R (.bool (s13 == s)) []) (R (.bool false) [])))))
      (∃ n9 s10 s11 n12, Good PG nG G0 f_note_Parse [.str s] [] (.tup [.agg [.int .i64 n9, .str s10, .str s11], .int .i64 n12]) [] ∧ ifK (n12 != (0 : Int)) (R (.bool true) [])
      (∃ s13 n14, Good PG nG G0 f_note_Print [.agg [.int .i64 n9, .str s10, .str s11]] [] (.tup [.str s13, .int .i64 n14]) [] ∧ ifK (n14 == (0 : Int)) (R (.bool (s13 == s)) []) (R (.bool false) []))) := by
    refine ifK_bool' (fun h0 => ?_) fun _ => q
    have hc : checkH h = 0 := by rw [← printR_two]; simpa using h0
    have gp := good_Parse (G0 := G0) hG hE (printR h).1 (by have := printR_len hc; omega)
    rw [parse_print hc] at gp
    refine ⟨_, _, _, _, gp, ?_⟩
    rw [bne_self_eq_false, ifF, eqAll_hd, decide_eq_true rfl, Bool.not_true, ifF]
    exact q
  refine greatseallaw_NoteBack_run _ _ _ _ _ _ s G0 R ⟨_, _, good_Print hG h, _, _, good_Print hG g, _, good_noted hG hE, ?_⟩
  rw [Bool.not_true, ifF]
  refine ifK_bool' (fun h0 => ifK_bool' (fun g0 => ?_) fun _ => p) fun _ => p
  have hc : checkH h = 0 := by rw [← printR_two]; simpa using h0
  have gc : checkH g = 0 := by rw [← printR_two]; simpa using g0
  have e : ((printR h).1 == (printR g).1) = eqAll [.int .i64 h.n, .str h.log, .str h.mp] [.int .i64 g.n, .str g.log, .str g.mp] := by
    rw [eqAll_hd]
    by_cases hg : h = g
    · rw [decide_eq_true hg, hg]; simp
    · rw [decide_eq_false hg, beq_eq_false_iff_ne]
      exact fun e => hg ((printR_inj hc gc).1 e)
  rw [e, beq_self_eq_true, Bool.not_true, ifF]
  exact p

theorem good_SealOne (hG : GlobOk G0) (hE : GlobE G0) (a b c d : By) (hc : c.length ≤ 140737488351232) : Good PG nG G0 f_greatseallaw_SealOne [.str a, .str b, .str c, .str d] [] (.bool true) [] := by
  suffices main : ∀ R : AV → List (Option Blk) → Prop, R (.bool true) [] → Hold (runF PG ty nG G0 an_greatseallaw_SealOne f_greatseallaw_SealOne [.str a, .str b, .str c, .str d] [] R) from
    good_of_run prOk (by kernel_rfl) (main _ ⟨rfl, rfl⟩)
  intro R hR
  have p3 : ∃ s15 s16 n17, Good PG nG G0 f_seal_Split [.str c] [] (.tup [.str s15, .str s16, .int .i64 n17]) [] ∧ ifK (n17 != (0 : Int)) (R (.bool true) [])
      (∃ s18 n19, Good PG nG G0 f_seal_Node [.str s15, .str s16] [] (.tup [.str s18, .int .i64 n19]) [] ∧ ifK (n19 != (0 : Int)) (R (.bool true) []) (R (.bool (s18 == c)) [])) := by
    refine ⟨_, _, _, good_Split hG hE c hc, ifK_ne0 (fun _ => hR) fun h => ⟨_, _, good_Node hG _ _, ifK_ne0 (fun _ => hR) fun h2 => ?_⟩⟩
    rw [tNode_ok h2, ← splitR_zero h, beq_self_eq_true]
    exact hR
  have p2 : ∃ s8 n9, Good PG nG G0 f_seal_Leaf [.str a] [] (.tup [.str s8, .int .i64 n9]) [] ∧ ifK (n9 == (0 : Int))
      (∃ s10 n11, Good PG nG G0 f_seal_Leaf [.str c] [] (.tup [.str s10, .int .i64 n11]) [] ∧ ∃ s12 n13, Good PG nG G0 f_seal_Open [.str s8] [] (.tup [.str s12, .int .i64 n13]) [] ∧ ifK (n13 != (0 : Int)) (R (.bool false) [])
        (ifK (!s12 == a) (R (.bool false) []) (ifK (n11 == (0 : Int))
          (ifK (!(s8 == s10) == (a == c)) (R (.bool false) []) (ifK ((tNode a b).2 == (0 : Int))
            (ifK (s8 == (tNode a b).1) (R (.bool false) []) (∃ s14, Good PG nG G0 f_seal_None [] [] (.str s14) [] ∧ ifK (s8 == s14) (R (.bool false) [])
              (∃ s15 s16 n17, Good PG nG G0 f_seal_Split [.str c] [] (.tup [.str s15, .str s16, .int .i64 n17]) [] ∧ ifK (n17 != (0 : Int)) (R (.bool true) [])
                (∃ s18 n19, Good PG nG G0 f_seal_Node [.str s15, .str s16] [] (.tup [.str s18, .int .i64 n19]) [] ∧ ifK (n19 != (0 : Int)) (R (.bool true) []) (R (.bool (s18 == c)) [])))))
            (∃ s14, Good PG nG G0 f_seal_None [] [] (.str s14) [] ∧ ifK (s8 == s14) (R (.bool false) [])
              (∃ s15 s16 n17, Good PG nG G0 f_seal_Split [.str c] [] (.tup [.str s15, .str s16, .int .i64 n17]) [] ∧ ifK (n17 != (0 : Int)) (R (.bool true) [])
                (∃ s18 n19, Good PG nG G0 f_seal_Node [.str s15, .str s16] [] (.tup [.str s18, .int .i64 n19]) [] ∧ ifK (n19 != (0 : Int)) (R (.bool true) []) (R (.bool (s18 == c)) []))))))
          (ifK ((tNode a b).2 == (0 : Int))
            (ifK (s8 == (tNode a b).1) (R (.bool false) []) (∃ s14, Good PG nG G0 f_seal_None [] [] (.str s14) [] ∧ ifK (s8 == s14) (R (.bool false) [])
              (∃ s15 s16 n17, Good PG nG G0 f_seal_Split [.str c] [] (.tup [.str s15, .str s16, .int .i64 n17]) [] ∧ ifK (n17 != (0 : Int)) (R (.bool true) [])
                (∃ s18 n19, Good PG nG G0 f_seal_Node [.str s15, .str s16] [] (.tup [.str s18, .int .i64 n19]) [] ∧ ifK (n19 != (0 : Int)) (R (.bool true) []) (R (.bool (s18 == c)) [])))))
            (∃ s14, Good PG nG G0 f_seal_None [] [] (.str s14) [] ∧ ifK (s8 == s14) (R (.bool false) [])
              (∃ s15 s16 n17, Good PG nG G0 f_seal_Split [.str c] [] (.tup [.str s15, .str s16, .int .i64 n17]) [] ∧ ifK (n17 != (0 : Int)) (R (.bool true) [])
                (∃ s18 n19, Good PG nG G0 f_seal_Node [.str s15, .str s16] [] (.tup [.str s18, .int .i64 n19]) [] ∧ ifK (n19 != (0 : Int)) (R (.bool true) []) (R (.bool (s18 == c)) []))))))))
      (∃ s15 s16 n17, Good PG nG G0 f_seal_Split [.str c] [] (.tup [.str s15, .str s16, .int .i64 n17]) [] ∧ ifK (n17 != (0 : Int)) (R (.bool true) [])
        (∃ s18 n19, Good PG nG G0 f_seal_Node [.str s15, .str s16] [] (.tup [.str s18, .int .i64 n19]) [] ∧ ifK (n19 != (0 : Int)) (R (.bool true) []) (R (.bool (s18 == c)) []))) := by
    refine ⟨_, _, good_Leaf a, ifK_bool' (fun h => ?_) fun _ => p3⟩
    have h : (tLeaf a).2 = 0 := by simpa using h
    rw [tLeaf_ok h]
    have go := good_Open (G0 := G0) (76 :: a)
    rw [show openS (76 :: a) = (a, 0) from rfl] at go
    refine ⟨_, _, good_Leaf c, _, _, go, ?_⟩
    rw [bne_self_eq_false, ifF, beq_self_eq_true, Bool.not_true, ifF]
    have e69 : ((76 :: a : By) == [69]) = false := cons_ne (by decide) _ _
    have n1 : ∃ s14, Good PG nG G0 f_seal_None [] [] (.str s14) [] ∧ ifK ((76 :: a : By) == s14) (R (.bool false) [])
              (∃ s15 s16 n17, Good PG nG G0 f_seal_Split [.str c] [] (.tup [.str s15, .str s16, .int .i64 n17]) [] ∧ ifK (n17 != (0 : Int)) (R (.bool true) [])
                (∃ s18 n19, Good PG nG G0 f_seal_Node [.str s15, .str s16] [] (.tup [.str s18, .int .i64 n19]) [] ∧ ifK (n19 != (0 : Int)) (R (.bool true) []) (R (.bool (s18 == c)) []))) :=
      ⟨_, good_None, by rw [e69, ifF]; exact p3⟩
    have n2 : ifK ((tNode a b).2 == (0 : Int))
            (ifK ((76 :: a : By) == (tNode a b).1) (R (.bool false) []) (∃ s14, Good PG nG G0 f_seal_None [] [] (.str s14) [] ∧ ifK ((76 :: a : By) == s14) (R (.bool false) [])
              (∃ s15 s16 n17, Good PG nG G0 f_seal_Split [.str c] [] (.tup [.str s15, .str s16, .int .i64 n17]) [] ∧ ifK (n17 != (0 : Int)) (R (.bool true) [])
                (∃ s18 n19, Good PG nG G0 f_seal_Node [.str s15, .str s16] [] (.tup [.str s18, .int .i64 n19]) [] ∧ ifK (n19 != (0 : Int)) (R (.bool true) []) (R (.bool (s18 == c)) [])))))
            (∃ s14, Good PG nG G0 f_seal_None [] [] (.str s14) [] ∧ ifK ((76 :: a : By) == s14) (R (.bool false) [])
              (∃ s15 s16 n17, Good PG nG G0 f_seal_Split [.str c] [] (.tup [.str s15, .str s16, .int .i64 n17]) [] ∧ ifK (n17 != (0 : Int)) (R (.bool true) [])
                (∃ s18 n19, Good PG nG G0 f_seal_Node [.str s15, .str s16] [] (.tup [.str s18, .int .i64 n19]) [] ∧ ifK (n19 != (0 : Int)) (R (.bool true) []) (R (.bool (s18 == c)) [])))) := by
      refine ifK_bool' (fun h1 => ?_) fun _ => n1
      rw [tNode_ok (by simpa using h1), cons_ne (by decide), ifF]
      exact n1
    refine ifK_bool' (fun h1 => ?_) fun _ => n2
    rw [tLeaf_ok (by simpa using h1), cons_beq, beq_self_eq_true, Bool.not_true, ifF]
    exact n2
  have p1 : ∀ {Y : Prop}, Y → ifK ((tNode a b).2 == (0 : Int)) (∃ s5 s6 n7, Good PG nG G0 f_seal_Split [.str (tNode a b).1] [] (.tup [.str s5, .str s6, .int .i64 n7]) [] ∧ ifK (n7 != (0 : Int)) (R (.bool false) [])
      (ifK (!s5 == a) (R (.bool false) []) (ifK (!s6 == b) (R (.bool false) []) Y))) Y := by
    intro Y hY
    refine ifK_bool' (fun h1 => ?_) fun _ => hY
    have h1 : (tNode a b).2 = 0 := by simpa using h1
    have hsm := tNode_small h1
    have i5 := itoa_len5 (n := a.length) (by omega)
    have gs := good_Split (G0 := G0) hG hE (tNode a b).1 (by rw [tNode_ok h1]; simp only [List.length_cons, List.length_append]; omega)
    have hsp : splitR (tNode a b).1 = ((a, b), 0) := by rw [tNode_ok h1]; exact splitR_node (by omega)
    rw [hsp] at gs
    refine ⟨_, _, _, gs, ?_⟩
    rw [bne_self_eq_false, ifF, beq_self_eq_true, Bool.not_true, ifF, beq_self_eq_true, Bool.not_true, ifF]
    exact hY
  refine greatseallaw_SealOne_run a b c d G0 R ⟨_, _, good_Node hG a b, _, _, good_Node hG c d, _, good_sealed hG hE, ?_⟩
  rw [Bool.not_true, ifF]
  refine ifK_bool' (fun h1 => ifK_bool' (fun h2 => ifK_bool' (fun h3 => ?_) fun h3 => ?_) fun _ => p1 p2) fun _ => p1 p2
  · have e1 := tNode_ok (a := a) (b := b) (by simpa using h1)
    have e2 := tNode_ok (a := c) (b := d) (by simpa using h2)
    have hac : a = c := by simpa using h3
    have e : (((tNode a b).1 == (tNode c d).1) == (b == d)) = true := by
      rw [e1, e2, ← hac, cons_beq]
      by_cases hbd : b = d
      · rw [hbd]; simp
      · have : (Lib.itoa (a.length : Int) ++ 58 :: (a ++ b) == Lib.itoa (a.length : Int) ++ 58 :: (a ++ d)) = false := by
          rw [beq_eq_false_iff_ne]
          intro e
          have := List.append_cancel_left e
          injection this with _ this
          exact hbd (List.append_cancel_left this)
        rw [this, beq_eq_false_iff_ne.2 hbd]; rfl
    rw [e, Bool.not_true, ifF]
    exact p1 p2
  · have hac : a ≠ c := by simpa using h3
    have e : ((tNode a b).1 == (tNode c d).1) = false := by
      rw [beq_eq_false_iff_ne]
      intro e
      have k1 : tNode a b = ((tNode a b).1, 0) := Prod.ext rfl (by simpa using h1)
      have k2 : tNode c d = ((tNode a b).1, 0) := Prod.ext e.symm (by simpa using h2)
      exact hac (tNode_inj k1 k2).1
    rw [e, beq_self_eq_true, Bool.not_true, ifF]
    exact p1 p2
end Go.Ab

namespace Go.Proofs.YtlfhhbcihaginaaDoor
open Go.Ab Go.Gs Go.ChangeShapes Go.WideShapes Go.ChangeAt Go.RowKit

theorem own : ownKnob Tryd.prog.godebug = none := by kernel_rfl
theorem laidOutP : laidOutB Tryd.prog = true := by kernel_rfl

/-- The three tables, as the rows list them. -/
def tabs : List (String × DataW Unit) := Rows.pathOnlyRow.laid

theorem var_heap {W : World} {name : String} {cs : Array Value} {g : Nat} (hg : Tryd.prog.globalNamed name = some g) (h : W.var? Tryd.prog name = some cs) : g < W.heap.size := by
  simp only [World.var?, hg, Option.bind_some] at h
  split at h
  · rename_i hh; exact (Array.getElem?_eq_some_iff.1 hh).1
  · cases h

theorem var_same {W w : World} {name : String} {g : Nat} (hg : Tryd.prog.globalNamed name = some g) (h : w.heap[g]? = W.heap[g]?) : w.var? Tryd.prog name = W.var? Tryd.prog name := by
  simp only [World.var?, hg, Option.bind_some, h]

theorem glob_ofM {W : World} {rest : List (String × DataW Unit)} (h : laidMet Tryd.prog (Rows.pathOnlyRow.laid ++ rest) W) : GlobOk (fun b => W.heap[b]?) ∧ nG ≤ W.heap.size := by
  obtain ⟨ps, ⟨g0, t0, cs0, f0, p0, q0, hg0, ht0, hv0, hd0, ⟨g1, t1, cs1, f1, p1, q1, hg1, ht1, hv1, hd1, ⟨g2, t2, cs2, f2, p2, q2, hg2, ht2, hv2, hd2, _, _⟩, _⟩, _⟩, _⟩ := h
  have hn0 : Tryd.prog.globalNamed "math/bits.deBruijn32tab" = some 6 := by kernel_rfl
  have hn1 : Tryd.prog.globalNamed "math/bits.deBruijn64tab" = some 7 := by kernel_rfl
  have hn2 : Tryd.prog.globalNamed "internal/strconv.uint64pow10" = some 3 := by kernel_rfl
  have l1 := var_heap hn1 hv1
  have hng : nG = 8 := rfl
  refine ⟨fun w hw => ?_, by omega⟩
  have hty : (Tryd.prog.globals[3]?).map (·.type) = some 115 := by kernel_rfl
  obtain rfl := Option.some.inj (hn2.symm.trans hg2)
  obtain rfl := Option.some.inj (hty.symm.trans ht2)
  unfold Lib.TabIs
  rw [var_same hn2 (hw 3 (by decide)), hv2]
  have := Lib.cells_of_tab (k := .u64) (zs := Lib.pow10Tab) (n := 20) Tryd.underlying115 Tryd.underlying95 (by kernel_rfl) (by kernel_rfl) (show DataW.trod (fun _ => ()) Tryd.prog W 0 (fun _ => true) false f2 115 cs2.toList = some (Lib.tabData .u64 Lib.pow10Tab, p2) from hd2)
  rw [← this]

theorem glob_of {W : World} (h : laidMetH Tryd.prog Rows.pathOnlyRow.laid W) : GlobOk (fun b => W.heap[b]?) ∧ nG ≤ W.heap.size := glob_ofM (rest := []) (show laidMet Tryd.prog Rows.pathOnlyRow.laid W from h)

theorem star : "*" ++ "errors.errorString" = "*errors.errorString" := by decide
theorem row_err (u : TypeId) (h : Tryd.prog.typeName? 3 u = some "*errors.errorString") : u = 123 :=
  typeName_ptr_named (nm := "errors.errorString") (by rw [star]; kernel_rfl) (by kernel_rfl) (by decide) u (by rw [star]; exact h)

/-- What the two variables of errors hold. -/
theorem err_of {W : World} {t1 t2 : List UInt8} {r : List (String × DataW Unit)}
    (h : laidMet Tryd.prog (("strconv.ErrRange", .iface "*errors.errorString" (.ptr (.agg [.lit (.string t1)]))) :: ("strconv.ErrSyntax", .iface "*errors.errorString" (.ptr (.agg [.lit (.string t2)]))) :: r) W) : GlobE (fun b => W.heap[b]?) := by
  have gR : Tryd.prog.globalNamed "strconv.ErrRange" = some 2 := by kernel_rfl
  have gS : Tryd.prog.globalNamed "strconv.ErrSyntax" = some 1 := by kernel_rfl
  have tR : (Tryd.prog.globals[2]?).map (·.type) = some 68 := by kernel_rfl
  have tS : (Tryd.prog.globals[1]?).map (·.type) = some 68 := by kernel_rfl
  obtain ⟨a0, s0, hR, _⟩ := laid_sentinel h gR tR Tryd.underlying68 row_err Tryd.underlying123 Tryd.underlying125 rfl rfl Tryd.underlying9 (by kernel_rfl) (by kernel_rfl)
  obtain ⟨a1, s1, hS, _⟩ := laid_sentinel h.tail gS tS Tryd.underlying68 row_err Tryd.underlying123 Tryd.underlying125 rfl rfl Tryd.underlying9 (by kernel_rfl) (by kernel_rfl)
  exact fun w hw => ⟨⟨_, _, (var_same gS (hw 1 (by decide))).trans hS⟩, _, _, (var_same gR (hw 2 (by decide))).trans hR⟩

/-- A world for the witness. -/
noncomputable def wit0 (os : Os) : World := World.doorLaid Tryd.prog 1000 os

end Go.Proofs.YtlfhhbcihaginaaDoor

/- What the proofs of these laws lean on (7): Worlds: what is so of whose heads they are, plainly; What the runs come to; Contracts: worlds, and what happens in them; What the runs come to; no condition. -/
import Derived.Test.YtdolapjfihjmgaaDoorZAllF
namespace Go.Ab
open Go.Proofs Go.Gs

theorem lcpN_le : ∀ a b : Bk, lcpN a b ≤ a.length ∧ lcpN a b ≤ b.length
  | a :: r, b :: s => by
    unfold lcpN
    split
    · have := lcpN_le r s
      simp only [List.length_cons]; omega
    · simp
  | [], _ => by simp [lcpN]
  | _ :: _, [] => by simp [lcpN]

theorem lcpN_take : ∀ a b : Bk, a.take (lcpN a b) = b.take (lcpN a b)
  | a :: r, b :: s => by
    unfold lcpN
    split
    · rename_i h
      rw [List.take_succ_cons, List.take_succ_cons, lcpN_take r s, h]
    · simp
  | [], _ => by simp [lcpN]
  | _ :: _, [] => by simp [lcpN]

theorem lcpN_stop : ∀ (a b : Bk) (h1 : lcpN a b < a.length) (h2 : lcpN a b < b.length), a[lcpN a b] ≠ b[lcpN a b]
  | a :: r, b :: s, h1, h2 => by
    by_cases h : a = b
    · have e : lcpN (a :: r) (b :: s) = lcpN r s + 1 := by rw [lcpN, if_pos h]
      have := lcpN_stop r s (by rw [e] at h1; simpa using h1) (by rw [e] at h2; simpa using h2)
      simpa [e] using this
    · have e : lcpN (a :: r) (b :: s) = 0 := by rw [lcpN, if_neg h]
      simpa [e] using h
  | [], _, h1, _ => by simp at h1
  | _ :: _, [], _, h2 => by simp at h2

theorem lcpN_of_take : ∀ {a b : Bk} {i : Nat}, i ≤ a.length → i ≤ b.length → a.take i = b.take i → i ≤ lcpN a b
  | _, _, 0, _, _, _ => Nat.zero_le _
  | a :: r, b :: s, i + 1, h1, h2, h => by
    rw [List.take_succ_cons, List.take_succ_cons] at h
    injection h with h3 h4
    unfold lcpN
    rw [if_pos h3]
    have := lcpN_of_take (i := i) (by simpa using h1) (by simpa using h2) h4
    omega
  | [], _, i + 1, h1, _, _ => by simp at h1
  | _ :: _, [], i + 1, _, h2, _ => by simp at h2

theorem lcpN_self (a : Bk) : lcpN a a = a.length := by
  have h1 := lcpN_of_take (a := a) (b := a) (Nat.le_refl _) (Nat.le_refl _) rfl
  have h2 := (lcpN_le a a).1
  omega

/-- The head is that of the first entries of a book. -/
def OfB (x : Hd) (b : Bk) : Prop := x = hd0 ∨ ∃ n : Nat, n ≤ b.length ∧ x = (headOf (b.take n)).1

theorem OfB.snoc {x : Hd} {b : Bk} (h : OfB x b) (e : List En) : OfB x (b ++ e) := by
  rcases h with h | ⟨n, h1, h2⟩
  · exact .inl h
  · refine .inr ⟨n, by simp; omega, ?_⟩
    rw [List.take_append_of_le_length h1, h2]

theorem OfB.check {x : Hd} {b : Bk} (h : OfB x b) (hc : checkB b = 0) : checkH x = 0 := by
  rcases h with rfl | ⟨n, _, rfl⟩
  · decide
  · exact headOf_check (checkB_take hc n)

/-- .. and how many these are. -/
theorem OfB.num {x : Hd} {b : Bk} (h : OfB x b) (hc : checkB b = 0) : ∃ m : Nat, m ≤ b.length ∧ x.n = m ∧ (m ≠ 0 → x = (headOf (b.take m)).1) := by
  rcases h with rfl | ⟨n, h1, rfl⟩
  · exact ⟨0, Nat.zero_le _, rfl, fun h => absurd rfl h⟩
  · exact ⟨n, h1, headOf_take_n hc h1, fun _ => rfl⟩

theorem growthR_ok {b : Bk} (hc : checkB b = 0) {m : Nat} (h1 : 1 ≤ m) (hm : m ≤ b.length) : growthR b m = growOf (textsOf b) m true := by
  unfold growthR
  rw [showG_ok hc h1 hm, if_neg (by simp)]

theorem showG_good {b : Bk} (h : checkB b = 0) (m : Int) : showG b m = growR (textsOf b) m := by rw [showG, if_neg (by simpa using h)]
theorem showG_bad {b : Bk} (h : checkB b ≠ 0) (m : Int) : showG b m = ([], checkB b) := by rw [showG, if_pos h]

theorem growthR_cases (b : Bk) (m : Int) : growthR b m = [] ∨ (checkB b = 0 ∧ (rootOf (textsOf b)).2 = 0 ∧ 1 ≤ m ∧ m ≤ b.length ∧ growthR b m = growOf (textsOf b) m.toNat true) := by
  unfold growthR
  by_cases h : checkB b = 0
  · rw [showG_good h]
    unfold growR
    by_cases h2 : (rootOf (textsOf b)).2 = 0
    · by_cases h3 : m < 1 ∨ (textsOf b).length < m
      · left; simp [h2, h3]
      · right
        refine ⟨h, h2, by omega, by rw [texts_len] at h3; omega, ?_⟩
        simp [h2, h3]
    · left; simp [h2]
  · left; rw [showG_bad h]; simp

theorem growthR_zero (b : Bk) : growthR b 0 = [] := by
  rcases growthR_cases b 0 with h | ⟨_, _, h, _⟩
  · exact h
  · omega

theorem meet_none {x y : Hd} (hx : checkH x = 0) (hy : checkH y = 0) (h : x.n = 0 ∨ y.n = 0) : meetR x y [] = 0 := by
  have h1 := checkH_ok hx
  have h2 := checkH_ok hy
  rw [meetR_eq hx hy]
  unfold meetS
  split
  · rw [if_pos (by omega), if_pos rfl]
  · rw [if_pos (by omega), if_pos rfl]

theorem meetsB_of {b : Bk} (hb : checkB b = 0) {x y : Hd} {i j : Nat} (hi : 1 ≤ i) (hib : i ≤ b.length) (hj : 1 ≤ j) (hjb : j ≤ b.length) (hx : x = (headOf (b.take i)).1) (hy : y = (headOf (b.take j)).1) : meetsB x y b = true := by
  have hxn : x.n = i := by rw [hx, headOf_take_n hb hib]
  have hyn : y.n = j := by rw [hy, headOf_take_n hb hjb]
  have hxc : checkH x = 0 := by rw [hx]; exact headOf_check (checkB_take hb i)
  have hyc : checkH y = 0 := by rw [hy]; exact headOf_check (checkB_take hb j)
  unfold meetsB
  rw [meetR_eq hxc hyc, hxn, hyn]
  by_cases h : i ≤ j
  · have e1 : maxI i j = j := by unfold maxI; split <;> omega
    have e2 : minI (i : Int) j = i := by unfold minI; split <;> omega
    rw [e1, e2, if_neg (by omega), Int.toNat_natCast]
    have hcj := checkB_take hb j
    have hl : (b.take j).length = j := by rw [List.length_take, Nat.min_eq_left hjb]
    rw [growthR_ok hcj hi (by omega), hx, hy]
    have := meetS_ok hcj hi (show i ≤ (b.take j).length by omega)
    rw [List.take_take, Nat.min_eq_left h] at this
    rw [this, decide_eq_true (by omega)]; rfl
  · have e1 : maxI i j = i := by unfold maxI; split <;> omega
    have e2 : minI (i : Int) j = j := by unfold minI; split <;> omega
    rw [e1, e2, if_pos (by omega), Int.toNat_natCast]
    have hci := checkB_take hb i
    have hl : (b.take i).length = i := by rw [List.length_take, Nat.min_eq_left hib]
    rw [growthR_ok hci hj (by omega), hx, hy]
    have := meetS_ok hci hj (show j ≤ (b.take i).length by omega)
    rw [List.take_take, Nat.min_eq_left (by omega)] at this
    rw [this, decide_eq_true (by omega)]; rfl

/-- Heads of one book are shown to be so. -/
theorem one_of_book {w : Wd} (h : checkW w = 0) (s : Int) {x y : Hd} (hx : OfB x (w.bk s)) (hy : OfB y (w.bk s)) : oneB x y w = true := by
  have hb := checkW_bk h s
  obtain ⟨i, hi, hxn, hxe⟩ := hx.num hb
  obtain ⟨j, hj, hyn, hye⟩ := hy.num hb
  unfold oneB
  by_cases h0 : x.n = 0 ∨ y.n = 0
  · rw [meet_none (hx.check hb) (hy.check hb) h0]; simp
  · have := meetsB_of hb (by omega) hi (by omega) hj (hxe (by omega)) (hye (by omega))
    unfold Wd.bk at this
    split at this
    · rw [this]; simp
    · rw [this]; simp

/-- Heads of books that parted are never shown to be of one. -/
theorem parted_meet {a b : Bk} (ha : checkB a = 0) (hb : checkB b = 0) {i j : Nat} (hi : lcpN a b < i) (hia : i ≤ a.length) (hj : lcpN a b < j) (hjb : j ≤ b.length) (l : List By) : meetR (headOf (a.take i)).1 (headOf (b.take j)).1 l ≠ 0 := by
  intro h
  have hca := checkB_take ha i
  have hcb := checkB_take hb j
  have la : (a.take i).length = i := by rw [List.length_take, Nat.min_eq_left hia]
  have lb : (b.take j).length = j := by rw [List.length_take, Nat.min_eq_left hjb]
  rw [meetR_eq (headOf_check hca) (headOf_check hcb), headOf_take_n ha hia, headOf_take_n hb hjb] at h
  split at h
  · have := meetS_zero hcb hca (by omega) h
    rw [lb, List.take_take, Nat.min_eq_left (by omega)] at this
    have := lcpN_of_take (by omega) hjb this
    omega
  · have := meetS_zero hca hcb (by omega) h
    rw [la, List.take_take, Nat.min_eq_left (by omega)] at this
    have := lcpN_of_take hia (by omega) this.symm
    omega

theorem parted_one {w : Wd} (h : checkW w = 0) {i j : Nat} (hi : lcpN w.b0 w.b1 < i) (hia : i ≤ w.b0.length) (hj : lcpN w.b0 w.b1 < j) (hjb : j ≤ w.b1.length) : oneB (headOf (w.b0.take i)).1 (headOf (w.b1.take j)).1 w = false := by
  have hw := checkW_iff.1 h
  have key := parted_meet hw.1 hw.2.1 hi hia hj hjb
  unfold oneB meetsB
  rw [beq_eq_false_iff_ne.2 (key []), beq_eq_false_iff_ne.2 (key _), beq_eq_false_iff_ne.2 (key _)]
  simp

theorem lcpN_comm : ∀ a b : Bk, lcpN a b = lcpN b a
  | a :: r, b :: s => by
    unfold lcpN
    by_cases h : a = b
    · rw [if_pos h, if_pos h.symm, lcpN_comm r s]
    · rw [if_neg h, if_neg (fun e => h e.symm)]
  | [], [] => rfl
  | [], _ :: _ => rfl
  | _ :: _, [] => rfl

theorem parted_one' {w : Wd} (h : checkW w = 0) {i j : Nat} (hi : lcpN w.b0 w.b1 < i) (hia : i ≤ w.b1.length) (hj : lcpN w.b0 w.b1 < j) (hjb : j ≤ w.b0.length) : oneB (headOf (w.b1.take i)).1 (headOf (w.b0.take j)).1 w = false := by
  have hw := checkW_iff.1 h
  rw [lcpN_comm] at hi hj
  have key := parted_meet hw.2.1 hw.1 hi hia hj hjb
  unfold oneB meetsB
  rw [beq_eq_false_iff_ne.2 (key []), beq_eq_false_iff_ne.2 (key _), beq_eq_false_iff_ne.2 (key _)]
  simp

theorem cl_setC {w : Wd} {k : Int} (hk : k.toNat < w.c.length) (c : Cl) (j : Int) : (w.setC k c).cl j = if k.toNat = j.toNat then c else w.cl j := by
  unfold Wd.cl Wd.setC
  simp only [List.getD_eq_getElem?_getD, List.getElem?_set, hk]
  split <;> simp

theorem cl_mem {w : Wd} {k : Int} (hk : k.toNat < w.c.length) : w.cl k ∈ w.c := by
  unfold Wd.cl
  rw [List.getD_eq_getElem?_getD, List.getElem?_eq_getElem hk]
  exact List.getElem_mem hk

theorem cl_get {w : Wd} {k : Int} (hk : k.toNat < w.c.length) : w.cl k = w.c[k.toNat] := by
  unfold Wd.cl
  rw [List.getD_eq_getElem?_getD, List.getElem?_eq_getElem hk]
  rfl

theorem fool_cl {w : Wd} {a b : Int} (ha : a.toNat < w.c.length) (hb : b.toNat < w.c.length) : ((foolW w a b).cl a).2 = true ∧ ((foolW w a b).cl b).2 = true ∧ ∀ k, ((foolW w a b).cl k).1 = (w.cl k).1 := by
  have hb' : b.toNat < (w.setC a ((w.cl a).1, true)).c.length := by simpa [Wd.setC] using hb
  have hk : ∀ k, (foolW w a b).cl k = if b.toNat = k.toNat then (((w.setC a ((w.cl a).1, true)).cl b).1, true) else (w.setC a ((w.cl a).1, true)).cl k := fun k => cl_setC hb' _ k
  have hk1 : ∀ k, (w.setC a ((w.cl a).1, true)).cl k = if a.toNat = k.toNat then ((w.cl a).1, true) else w.cl k := fun k => cl_setC ha _ k
  have hcl : ∀ {k j : Int}, k.toNat = j.toNat → w.cl k = w.cl j := fun {k j} e => by unfold Wd.cl; rw [e]
  refine ⟨?_, ?_, fun k => ?_⟩
  · rw [hk]; split
    · rfl
    · rw [hk1, if_pos rfl]
  · rw [hk, if_pos rfl]
  · rw [hk]; split
    · rename_i e
      simp only
      rw [hk1]; split
      · rename_i e2; exact congrArg (·.1) (hcl (e2.trans e))
      · exact congrArg (·.1) (hcl e)
    · rw [hk1]; split
      · rename_i e2; exact congrArg (·.1) (hcl e2)
      · rfl

/-- The cases of what happens. -/
theorem happen_cases {w : Wd} (h : checkW w = 0) (x : Hap) (e : (happenR w x).2 = 0) :
    (1 ≤ x.1 ∧ x.1 ≤ 5) ∧ (0 ≤ x.2.1 ∧ x.2.1 ≤ 1) ∧ (0 ≤ x.2.2.1 ∧ x.2.2.1 ≤ 2) ∧ (0 ≤ x.2.2.2.1 ∧ x.2.2.2.1 ≤ 2) ∧
    ((x.1 = 1 ∧ (happenR w x).1 = w.put x.2.1 (w.bk x.2.1 ++ [x.2.2.2.2])) ∨
     (x.1 = 2 ∧ (happenR w x).1 = { w with n1 := w.n0, b1 := w.b0 }) ∨
     (x.1 = 3 ∧ (showsR w x.2.2.1 x.2.1).2 = 0 ∧ (happenR w x).1 = (showsR w x.2.2.1 x.2.1).1) ∨
     (x.1 = 4 ∧ (happenR w x).1 = meetsR w x.2.2.1 x.2.2.2.1) ∨
     (x.1 = 5 ∧ (happenR w x).1 = w)) := by
  have h3 := (checkW_iff.1 h).2.2.1
  unfold happenR at e ⊢
  split at e
  · cases e
  · rename_i h1
    rw [if_neg h1]
    split at e
    · cases e
    · rename_i h2
      rw [if_neg h2]
      refine ⟨by omega, by omega, by omega, by omega, ?_⟩
      split at e
      · rename_i h3
        rw [if_pos h3]
        split at e
        · rename_i h4
          rw [if_pos h4]
          exact .inl ⟨h3, by rw [(putBk_zero h4).2.2]⟩
        · rename_i h4; exact absurd e h4
      · rename_i h3
        rw [if_neg h3]
        split at e
        · rename_i h4
          rw [if_pos h4]
          exact .inr (.inl ⟨h4, rfl⟩)
        · rename_i h4
          rw [if_neg h4]
          split at e
          · rename_i h5
            rw [if_pos h5]
            exact .inr (.inr (.inl ⟨h5, e, rfl⟩))
          · rename_i h5
            rw [if_neg h5]
            split at e
            · rename_i h6
              rw [if_pos h6]
              exact .inr (.inr (.inr (.inl ⟨h6, rfl⟩)))
            · rename_i h6
              rw [if_neg h6]
              exact .inr (.inr (.inr (.inr ⟨by omega, rfl⟩)))

/-- One book: nobody is fooled, all go by its heads. -/
def HonestI (w : Wd) : Prop := checkW w = 0 ∧ ∀ c ∈ w.c, OfB c.1 w.b0 ∧ c.2 = false

theorem honest_new : HonestI newW := ⟨by decide +kernel, fun c hc => by
  have : c = c0 := by simpa [newW] using hc
  rw [this]; exact ⟨.inl rfl, rfl⟩⟩

theorem honest_happen {w : Wd} (h : HonestI w) (x : Hap) (hs : x.2.1 = 0) (hk : x.1 ≠ 2) (e : (happenR w x).2 = 0) : HonestI (happenR w x).1 := by
  obtain ⟨hw, hc⟩ := h
  have hW := checkW_iff.1 hw
  refine ⟨checkW_happen hw x e, ?_⟩
  obtain ⟨_, _, hwho, hoth, hcase⟩ := happen_cases hw x e
  have hb : w.bk 0 = w.b0 := by simp [Wd.bk]
  rw [hs, hb] at hcase
  rcases hcase with ⟨_, e1⟩ | ⟨h2, _⟩ | ⟨_, e2, e1⟩ | ⟨_, e1⟩ | ⟨_, e1⟩
  · rw [e1]
    intro c hcm
    have hcm : c ∈ w.c := by simpa [Wd.put] using hcm
    have : (w.put 0 (w.b0 ++ [x.2.2.2.2])).b0 = w.b0 ++ [x.2.2.2.2] := by simp [Wd.put]
    rw [this]
    exact ⟨(hc c hcm).1.snoc _, (hc c hcm).2⟩
  · exact absurd h2 hk
  · rw [e1]
    have hin : x.2.2.1.toNat < w.c.length := by omega
    have hcw := hc _ (cl_mem hin)
    obtain ⟨m, hm, hmn, hme⟩ := hcw.1.num hW.1
    have hfo := follow_ok hW.1 hm (Nat.le_refl _) (c := (w.cl x.2.2.1).1) hmn (checkW_cl hw _) hme
    rw [show w.b0.take w.b0.length = w.b0 from List.take_of_length_le (Nat.le_refl _)] at hfo
    have hg : growthR w.b0 (w.cl x.2.2.1).1.n = if m = 0 then [] else growOf (textsOf w.b0) m true := by
      rw [hmn]
      split
      · rename_i h0; rw [h0]; exact growthR_zero _
      · exact growthR_ok hW.1 (by omega) hm
    have hcl : w.cl x.2.2.1 = ((w.cl x.2.2.1).1, false) := by rw [← hcw.2]
    have hsh : (showsR w x.2.2.1 0).1 = w.setC x.2.2.1 ((headOf w.b0).1, false) := by
      unfold showsR
      rw [hb, show (headOf w.b0).2 = 0 by rw [headOf_code]; exact hW.1, hg]
      rw [← hcl] at hfo
      rw [hfo]
      simp
    rw [hsh]
    intro c hcm
    rcases mem_set_or hcm with rfl | hcm
    · refine ⟨.inr ⟨w.b0.length, Nat.le_refl _, ?_⟩, rfl⟩
      show (headOf w.b0).1 = (headOf (w.b0.take w.b0.length)).1
      rw [show w.b0.take w.b0.length = w.b0 from List.take_of_length_le (Nat.le_refl _)]
    · exact hc c hcm
  · have h1 := (hc _ (cl_mem (w := w) (k := x.2.2.1) (by omega))).1
    have h2 := (hc _ (cl_mem (w := w) (k := x.2.2.2.1) (by omega))).1
    rw [e1]
    unfold meetsR
    rw [if_pos (one_of_book hw 0 (by rw [hb]; exact h1) (by rw [hb]; exact h2))]
    exact hc
  · rw [e1]; exact hc

/-- Whose head it is, told. -/
theorem ofR_true {w : Wd} (h : checkW w = 0) {k s : Int} (hk : 0 ≤ k ∧ k ≤ 2) (hs : 0 ≤ s ∧ s ≤ 1) : (ofR w k s).2 = 0 ∧ ((ofR w k s).1 = true ↔ OfB (w.cl k).1 (w.bk s)) := by
  have hW := checkW_iff.1 h
  have hb := checkW_bk h s
  have hck := checkH_ok (checkW_cl h k)
  unfold ofR
  rw [if_neg (by simpa using h), if_neg (by omega)]
  split
  · rename_i h1; exact ⟨rfl, by simp [OfB, h1]⟩
  · rename_i h1
    split
    · rename_i h2
      refine ⟨rfl, ?_⟩
      constructor
      · intro h3; cases h3
      · rintro (h3 | ⟨n, h3, h4⟩)
        · exact absurd h3 h1
        · rw [h4, headOf_take_n hb h3] at h2; omega
    · rename_i h2
      refine ⟨rfl, ?_⟩
      rw [decide_eq_true_eq]
      constructor
      · intro h3; exact .inr ⟨_, by omega, h3.symm⟩
      · rintro (h3 | ⟨n, h3, h4⟩)
        · exact absurd h3 h1
        · rw [h4, headOf_take_n hb h3, Int.toNat_natCast]

/-- Of which entries each client's head is. -/
def FollowsI (w : Wd) (of : Nat → Bk) : Prop := checkW w = 0 ∧ ∀ k : Nat, k < 3 → checkB (of k) = 0 ∧ ((of k = [] ∧ (w.cl k).1.n = 0) ∨ (w.cl k).1 = (headOf (of k)).1)

theorem follows_same {w v : Wd} {of : Nat → Bk} (h : FollowsI w of) (hv : checkW v = 0) (e : ∀ k : Nat, k < 3 → (v.cl k).1 = (w.cl k).1) : FollowsI v of :=
  ⟨hv, fun k hk => ⟨(h.2 k hk).1, by rw [e k hk]; exact (h.2 k hk).2⟩⟩

theorem heads_inj {b c : Bk} (hb : checkB b = 0) (hc : checkB c = 0) (h : (headOf b).1 = (headOf c).1) : b = c := by
  refine (headOf_inj hb hc).1 (Prod.ext h ?_)
  rw [headOf_code, headOf_code, hb, hc]

theorem follows_show {w : Wd} {of : Nat → Bk} (h : FollowsI w of) {who side : Int} (hwho : 0 ≤ who ∧ who ≤ 2) (e : (showsR w who side).2 = 0) :
    (((showsR w who side).1.cl who).1 ≠ (headOf (w.bk side)).1 → FollowsI (showsR w who side).1 of) ∧
    (((showsR w who side).1.cl who).1 = (headOf (w.bk side)).1 → (of who.toNat).length ≤ (w.bk side).length ∧ (w.bk side).take (of who.toNat).length = of who.toNat ∧
      FollowsI (showsR w who side).1 (fun k => if k = who.toNat then w.bk side else of k)) ∧ (showsR w who side).1.bk side = w.bk side := by
  obtain ⟨hw, hof⟩ := h
  have hW := checkW_iff.1 hw
  have hb := checkW_bk hw side
  have hin : who.toNat < w.c.length := by omega
  obtain ⟨hle, hcase⟩ := showsR_cases hw who side e
  have hchk : ∀ c : Cl, checkH c.1 = 0 → checkW (w.setC who c) = 0 := fun c hc => checkW_setC hw who hc
  have hwn : ((who.toNat : Nat) : Int) = who := by omega
  obtain ⟨h1, h2⟩ := hof who.toNat (by omega)
  rw [hwn] at h2
  have hbk : ∀ c : Cl, (w.setC who c).bk side = w.bk side := fun c => rfl
  have hcl : ∀ c : Cl, (w.setC who c).cl who = c := fun c => by rw [cl_setC hin, if_pos rfl]
  have hfin : ∀ c : Cl, c.1 = (headOf (w.bk side)).1 → FollowsI (w.setC who c) (fun k => if k = who.toNat then w.bk side else of k) := by
    intro c hc
    refine ⟨hchk c (by rw [hc]; exact headOf_check hb), fun k hk => ?_⟩
    by_cases hkw : k = who.toNat
    · simp only [if_pos hkw]
      rw [hkw, hwn, hcl, hc]; exact ⟨hb, .inr rfl⟩
    · simp only [if_neg hkw]
      rw [cl_setC hin, if_neg (by simpa using fun e : who.toNat = k => hkw e.symm)]
      exact hof k hk
  rcases hcase with ⟨e1, h3⟩ | e1
  · rw [e1, hcl, hbk]
    refine ⟨fun hne => absurd rfl hne, fun _ => ?_, rfl⟩
    have h0 : (headOf (w.bk side)).1.n = (w.bk side).length := headOf_n hb
    have key : (of who.toNat).length ≤ (w.bk side).length ∧ (w.bk side).take (of who.toNat).length = of who.toNat := by
      by_cases hn : (w.cl who).1.n = 0
      · have : of who.toNat = [] := by
          rcases h2 with h2 | h2
          · exact h2.1
          · rw [h2, headOf_n h1] at hn
            exact List.eq_nil_of_length_eq_zero (by omega)
        rw [this]; simp
      · have h2 : (w.cl who).1 = (headOf (of who.toNat)).1 := by
          rcases h2 with h2 | h2
          · exact absurd h2.2 hn
          · exact h2
        have hnn := headOf_n h1
        rw [h2] at hle h3 hn
        rw [hnn] at hle h3 hn
        rw [h0] at hle h3
        rcases h3 with ⟨h3, _⟩ | ⟨_, h3, _⟩
        · exact absurd h3 hn
        · have hl : (of who.toNat).length ≤ (w.bk side).length := by omega
          exact ⟨hl, grow_begins h1 hb (by omega) hl h3⟩
    exact ⟨key.1, key.2, hfin _ rfl⟩
  · rw [e1, hcl, hbk]
    refine ⟨fun _ => ?_, fun heq => ?_, rfl⟩
    · refine follows_same ⟨hw, hof⟩ (hchk _ (checkW_cl hw who)) fun k hk => ?_
      rw [cl_setC hin]
      split
      · rename_i hk2
        have : who = k := by omega
        rw [this]
      · rfl
    · simp only at heq
      have key : (of who.toNat).length ≤ (w.bk side).length ∧ (w.bk side).take (of who.toNat).length = of who.toNat := by
        rcases h2 with h2 | h2
        · rw [h2.1]; simp
        · have := heads_inj h1 hb (h2.symm.trans heq)
          rw [this]; simp
      exact ⟨key.1, key.2, hfin _ heq⟩

theorem put_cl (w : Wd) (s : Int) (b : Bk) (k : Int) : (w.put s b).cl k = w.cl k := by unfold Wd.put Wd.cl; split <;> rfl

/-- All but what is shown leaves the heads. -/
theorem heads_kept {w : Wd} (h : checkW w = 0) (x : Hap) (e : (happenR w x).2 = 0) (hk : x.1 ≠ 3) (k : Int) : ((happenR w x).1.cl k).1 = (w.cl k).1 := by
  have hW := checkW_iff.1 h
  obtain ⟨_, _, hwho, hoth, hcase⟩ := happen_cases h x e
  rcases hcase with ⟨_, e1⟩ | ⟨_, e1⟩ | ⟨h3, _⟩ | ⟨_, e1⟩ | ⟨_, e1⟩
  · rw [e1, put_cl]
  · rw [e1]; rfl
  · exact absurd h3 hk
  · rw [e1]
    unfold meetsR
    split
    · rfl
    · exact (fool_cl (by omega) (by omega)).2.2 k
  · rw [e1]

/-- What is caught where clients meet. -/
theorem caught {w : Wd} (h : checkW w = 0) (x : Hap) (e : (happenR w x).2 = 0) (hk : x.1 = 4) :
    (happenR w x).1 = meetsR w x.2.2.1 x.2.2.2.1 ∧ (happenR w x).1.b0 = w.b0 ∧ (happenR w x).1.b1 = w.b1 ∧ (∀ k, ((happenR w x).1.cl k).1 = (w.cl k).1) ∧
    (∀ s, 0 ≤ s ∧ s ≤ 1 → OfB (w.cl x.2.2.1).1 (w.bk s) → OfB (w.cl x.2.2.2.1).1 (w.bk s) → (happenR w x).1 = w) ∧
    ((lcpN w.b0 w.b1 : Int) < (w.cl x.2.2.1).1.n → (lcpN w.b0 w.b1 : Int) < (w.cl x.2.2.2.1).1.n →
      (OfB (w.cl x.2.2.1).1 w.b0 ∧ OfB (w.cl x.2.2.2.1).1 w.b1) ∨ (OfB (w.cl x.2.2.1).1 w.b1 ∧ OfB (w.cl x.2.2.2.1).1 w.b0) →
      ((happenR w x).1.cl x.2.2.1).2 = true ∧ ((happenR w x).1.cl x.2.2.2.1).2 = true) := by
  have hW := checkW_iff.1 h
  obtain ⟨_, _, hwho, hoth, hcase⟩ := happen_cases h x e
  have e1 : (happenR w x).1 = meetsR w x.2.2.1 x.2.2.2.1 := by
    rcases hcase with ⟨h3, _⟩ | ⟨h3, _⟩ | ⟨h3, _⟩ | ⟨_, e1⟩ | ⟨h3, _⟩
    · omega
    · omega
    · omega
    · exact e1
    · omega
  refine ⟨e1, ?_, ?_, heads_kept h x e (by omega), fun s _ h1 h2 => ?_, fun h1 h2 h3 => ?_⟩
  · rw [e1]; unfold meetsR; split <;> rfl
  · rw [e1]; unfold meetsR; split <;> rfl
  · rw [e1]; unfold meetsR
    rw [if_pos (one_of_book h s h1 h2)]
  · rw [e1]; unfold meetsR
    rw [if_neg]
    · have := fool_cl (w := w) (a := x.2.2.1) (b := x.2.2.2.1) (by omega) (by omega)
      exact ⟨this.1, this.2.1⟩
    · rcases h3 with ⟨h3, h4⟩ | ⟨h3, h4⟩
      · obtain ⟨i, hi, hin, hie⟩ := h3.num hW.1
        obtain ⟨j, hj, hjn, hje⟩ := h4.num hW.2.1
        rw [hie (by omega), hje (by omega), parted_one h (by omega) hi (by omega) hj]
        simp
      · obtain ⟨i, hi, hin, hie⟩ := h3.num hW.2.1
        obtain ⟨j, hj, hjn, hje⟩ := h4.num hW.1
        rw [hie (by omega), hje (by omega), parted_one' h (by omega) hi (by omega) hj]
        simp

theorem lcpN_snoc (b : Bk) (x y : En) : lcpN (b ++ [x]) (b ++ [y]) = if x = y then b.length + 1 else b.length := by
  induction b with
  | nil => simp [lcpN]
  | cons a r ih =>
    simp only [List.cons_append, lcpN, if_true, ih, List.length_cons]
    split <;> rfl

/-- What a world keeps. -/
theorem keeps {w : Wd} (h : checkW w = 0) (x : Hap) (e : (happenR w x).2 = 0) :
    w.b0.length ≤ (happenR w x).1.b0.length ∧ (happenR w x).1.b0.take w.b0.length = w.b0 ∧
    ∀ k : Nat, k < 3 → ((w.cl k).2 = true → ((happenR w x).1.cl k).2 = true) ∧ (w.cl k).1.n ≤ ((happenR w x).1.cl k).1.n ∧ (((happenR w x).1.cl k).1 ≠ (w.cl k).1 → x.1 = 3 ∧ x.2.2.1 = k) := by
  have hW := checkW_iff.1 h
  obtain ⟨_, _, hwho, hoth, hcase⟩ := happen_cases h x e
  have htk : w.b0.take w.b0.length = w.b0 := List.take_of_length_le (Nat.le_refl _)
  rcases hcase with ⟨_, e1⟩ | ⟨_, e1⟩ | ⟨h3, e2, e1⟩ | ⟨_, e1⟩ | ⟨_, e1⟩
  · rw [e1]
    refine ⟨?_, ?_, fun k hk => ?_⟩
    · unfold Wd.put Wd.bk; split <;> simp
    · unfold Wd.put Wd.bk; split <;> simp
    · rw [put_cl]; exact ⟨id, Int.le_refl _, fun h => absurd rfl h⟩
  · rw [e1]
    exact ⟨Nat.le_refl _, htk, fun k hk => ⟨id, Int.le_refl _, fun h => absurd rfl h⟩⟩
  · rw [e1]
    obtain ⟨hle, hcs⟩ := showsR_cases h _ _ e2
    have hin : x.2.2.1.toNat < w.c.length := by omega
    have key : ∀ c : Cl, ((w.cl x.2.2.1).2 = true → c.2 = true) → (w.cl x.2.2.1).1.n ≤ c.1.n → (showsR w x.2.2.1 x.2.1).1 = w.setC x.2.2.1 c →
        w.b0.length ≤ (showsR w x.2.2.1 x.2.1).1.b0.length ∧ (showsR w x.2.2.1 x.2.1).1.b0.take w.b0.length = w.b0 ∧
          ∀ k : Nat, k < 3 → ((w.cl k).2 = true → ((showsR w x.2.2.1 x.2.1).1.cl k).2 = true) ∧ (w.cl k).1.n ≤ ((showsR w x.2.2.1 x.2.1).1.cl k).1.n ∧ (((showsR w x.2.2.1 x.2.1).1.cl k).1 ≠ (w.cl k).1 → x.1 = 3 ∧ x.2.2.1 = k) := by
      intro c hc1 hc2 hc3
      rw [hc3]
      refine ⟨Nat.le_refl _, htk, fun k hk => ?_⟩
      rw [cl_setC hin]
      by_cases hkw : x.2.2.1.toNat = (k : Int).toNat
      · rw [if_pos hkw]
        have : x.2.2.1 = k := by omega
        rw [← this]
        exact ⟨hc1, hc2, fun _ => ⟨h3, rfl⟩⟩
      · rw [if_neg hkw]
        exact ⟨id, Int.le_refl _, fun h => absurd rfl h⟩
    rcases hcs with ⟨h4, _⟩ | h4
    · exact key ((headOf (w.bk x.2.1)).1, (w.cl x.2.2.1).2) id hle h4
    · exact key ((w.cl x.2.2.1).1, true) (fun _ => rfl) (Int.le_refl _) h4
  · rw [e1]
    unfold meetsR
    split
    · exact ⟨Nat.le_refl _, htk, fun k hk => ⟨id, Int.le_refl _, fun h => absurd rfl h⟩⟩
    · have ha : x.2.2.1.toNat < w.c.length := by omega
      have hb : x.2.2.2.1.toNat < w.c.length := by omega
      have hf := fool_cl (w := w) ha hb
      refine ⟨Nat.le_refl _, htk, fun k hk => ⟨fun hk2 => ?_, by rw [hf.2.2 k]; exact Int.le_refl _, fun hne => absurd (hf.2.2 k) hne⟩⟩
      have hb' : x.2.2.2.1.toNat < (w.setC x.2.2.1 ((w.cl x.2.2.1).1, true)).c.length := by simpa [Wd.setC] using hb
      unfold foolW
      rw [cl_setC hb']
      split
      · rfl
      · rw [cl_setC ha]
        split
        · rfl
        · exact hk2
  · rw [e1]
    exact ⟨Nat.le_refl _, htk, fun k hk => ⟨id, Int.le_refl _, fun h => absurd rfl h⟩⟩
end Go.Ab

namespace Go.Ab
open Go.Proofs
set_option maxRecDepth 100000

def an_world_New : FAnn := ⟨[], [], none, []⟩
def an_world_Check : FAnn := ⟨[], [(0, [1, 10, 11], []), (2, [25, 26, 27], [])], none, []⟩
def an_world_Copy : FAnn := ⟨[(1, 15, ⟨[], [], [100]⟩)], [], some [], []⟩
def an_world_growth : FAnn := ⟨[], [], none, []⟩
def an_world_shows : FAnn := ⟨[], [], none, []⟩
def an_world_meets : FAnn := ⟨[], [(0, [0, 1, 2, 7, 8, 31, 32], [])], none, []⟩
def an_world_happen : FAnn := ⟨[(15, 5, ⟨[0, 1], [], []⟩), (17, 5, ⟨[0, 1], [], []⟩)], [], none, []⟩
def an_world_Do : FAnn := ⟨[(4, 1, ⟨[], [], [102]⟩), (5, 1, ⟨[0, 3], [], []⟩)], [], none, []⟩
def an_world_Run : FAnn := ⟨[(11, 1, ⟨[], [], [102]⟩), (12, 1, ⟨[5, 4], [], []⟩)], [(0, [2, 4, 8, 25, 26, 27], [8])], none, [(13, [4])]⟩
def an_world_Same : FAnn := ⟨[], [], none, []⟩
def an_slices_Clone_Client : FAnn := ⟨[], [], some [2], []⟩
def an_slices_Equal_Client : FAnn := ⟨[], [(0, [0, 1, 12, 13], [])], none, []⟩

theorem world_New_run (G0 : Nat → Option Go.Obj) (R : AV → List (Option Blk) → Prop) (h :
  (3 : Int) = (3 : Int) ∧
  (0 : Int) ≤ (3 : Int) ∧
    (144 : Int) ≤ (281474976710656 : Int) ∧
      (3 : Int) ≤ (9223372036854775807 : Int) ∧
        R
          (AV.agg
            [AV.sl (2 : Nat) true none [], AV.sl (2 : Nat) true none [],
              AV.sl (4 : Nat) false none
                [[AV.int Go.IntKind.i64 (0 : Int), AV.str [], AV.str [], AV.bool false], [AV.int Go.IntKind.i64 (0 : Int), AV.str [], AV.str [], AV.bool false], [AV.int Go.IntKind.i64 (0 : Int), AV.str [], AV.str [], AV.bool false]]])
          []) :
  Hold (runF PG ty nG G0 an_world_New f_world_New [] [] R) := kshow h (by kernel_rfl)

theorem world_Check_run (nlw0_0 : Bool) (w0_0 : List (List AV)) (nlw0_1 : Bool) (w0_1 : List (List AV)) (nlw0_2 : Bool) (w0_2 : List (List AV)) (G0 : Nat → Option Go.Obj) (R : AV → List (Option Blk) → Prop) (h :
  Does PG nG G0 (fnOf PG f_world_Check) (0 : Nat) (lp PG f_world_Check (0 : Nat))
  (mkT (38 : Nat) [((1 : Nat), AV.ref (0 : Nat) (0 : Nat)), ((10 : Nat), AV.agg [AV.sl (2 : Nat) nlw0_0 none w0_0, AV.sl (2 : Nat) nlw0_1 none w0_1]), ((11 : Nat), AV.int Go.IntKind.i64 (0 : Int))])
  [some (Blk.var [AV.sl (2 : Nat) nlw0_0 none w0_0, AV.sl (2 : Nat) nlw0_1 none w0_1, AV.sl (4 : Nat) nlw0_2 none w0_2])] R) :
  Hold (runF PG ty nG G0 an_world_Check f_world_Check [AV.agg [AV.sl (2 : Nat) nlw0_0 none w0_0, AV.sl (2 : Nat) nlw0_1 none w0_1, AV.sl (4 : Nat) nlw0_2 none w0_2]] [] R) := kshow h (by kernel_rfl)

theorem world_Check_l0_run (G0 : Nat → Option Obj) (b0 : Bool) (xs1 : List (List AV)) (b2 : Bool) (xs3 : List (List AV)) (n4 : Int) (b5 : Bool) (xs6 : List (List AV)) (b7 : Bool) (xs8 : List (List AV)) (b9 : Bool) (xs10 : List (List AV)) (R : AV → List (Option Blk) → Prop) (h :
  ifK (decide (n4 < (2 : Int)))
  ((0 : Int) ≤ n4 ∧
    n4 < (2 : Int) ∧
      ifK (n4 == (0 : Int))
        (∃ n11,
          Good PG nG G0 f_book_Check [AV.agg [AV.sl (2 : Nat) b0 none xs1]] [] (AV.int Go.IntKind.i64 n11) [] ∧
            ifK (n11 != (0 : Int)) (R (AV.int Go.IntKind.i64 n11) [])
              (Does PG nG G0 (fnOf PG f_world_Check) (0 : Nat) (lp PG f_world_Check (0 : Nat))
                (mkT (38 : Nat)
                  [((1 : Nat), AV.ref (0 : Nat) (0 : Nat)), ((10 : Nat), AV.agg [AV.sl (2 : Nat) b0 none xs1, AV.sl (2 : Nat) b2 none xs3]), ((11 : Nat), AV.int Go.IntKind.i64 (Go.IntKind.wrap Go.IntKind.i64 (n4 + (1 : Int))))])
                [some (Blk.var [AV.sl (2 : Nat) b5 none xs6, AV.sl (2 : Nat) b7 none xs8, AV.sl (4 : Nat) b9 none xs10])] R))
        (∃ n12,
          Good PG nG G0 f_book_Check [AV.agg [AV.sl (2 : Nat) b2 none xs3]] [] (AV.int Go.IntKind.i64 n12) [] ∧
            ifK (n12 != (0 : Int)) (R (AV.int Go.IntKind.i64 n12) [])
              (Does PG nG G0 (fnOf PG f_world_Check) (0 : Nat) (lp PG f_world_Check (0 : Nat))
                (mkT (38 : Nat)
                  [((1 : Nat), AV.ref (0 : Nat) (0 : Nat)), ((10 : Nat), AV.agg [AV.sl (2 : Nat) b0 none xs1, AV.sl (2 : Nat) b2 none xs3]), ((11 : Nat), AV.int Go.IntKind.i64 (Go.IntKind.wrap Go.IntKind.i64 (n4 + (1 : Int))))])
                [some (Blk.var [AV.sl (2 : Nat) b5 none xs6, AV.sl (2 : Nat) b7 none xs8, AV.sl (4 : Nat) b9 none xs10])] R)))
  (ifK ((↑(List.length xs10) : Int) != (3 : Int)) (R (AV.int Go.IntKind.i64 (4 : Int)) [])
    (Does PG nG G0 (fnOf PG f_world_Check) (0 : Nat) (lp PG f_world_Check (1 : Nat))
      (mkT (38 : Nat) [((25 : Nat), AV.sl (4 : Nat) b9 none xs10), ((26 : Nat), AV.int Go.IntKind.i64 (↑(List.length xs10) : Int)), ((27 : Nat), AV.int Go.IntKind.i64 (0 : Int))]) [] R))) :
  Hold (runL PG ty nG G0 an_world_Check f_world_Check (0 : Nat) (0 : Nat)
  (mkT (38 : Nat) [((1 : Nat), AV.ref (0 : Nat) (0 : Nat)), ((10 : Nat), AV.agg [AV.sl (2 : Nat) b0 none xs1, AV.sl (2 : Nat) b2 none xs3]), ((11 : Nat), AV.int Go.IntKind.i64 n4)])
  [some (Blk.var [AV.sl (2 : Nat) b5 none xs6, AV.sl (2 : Nat) b7 none xs8, AV.sl (4 : Nat) b9 none xs10])] R) := kshow h (by kernel_rfl)

theorem world_Check_l1_run (G0 : Nat → Option Obj) (b13 : Bool) (xs14 : List (List AV)) (n15 : Int) (n16 : Int) (R : AV → List (Option Blk) → Prop) (h :
  ifK (decide (n16 < n15))
  ((0 : Int) ≤ n16 ∧
    ∃ n17 s18 s19 b20,
      xs14[Int.toNat n16]? = some [AV.int Go.IntKind.i64 n17, AV.str s18, AV.str s19, AV.bool b20] ∧
        ∃ n21,
          Good PG nG G0 f_note_Check [AV.agg [AV.int Go.IntKind.i64 n17, AV.str s18, AV.str s19]] [] (AV.int Go.IntKind.i64 n21) [] ∧
            ifK (n21 != (0 : Int)) (R (AV.int Go.IntKind.i64 n21) [])
              (Does PG nG G0 (fnOf PG f_world_Check) (0 : Nat) (lp PG f_world_Check (1 : Nat))
                (mkT (38 : Nat) [((25 : Nat), AV.sl (4 : Nat) b13 none xs14), ((26 : Nat), AV.int Go.IntKind.i64 n15), ((27 : Nat), AV.int Go.IntKind.i64 (Go.IntKind.wrap Go.IntKind.i64 (n16 + (1 : Int))))]) [] R))
  (R (AV.int Go.IntKind.i64 (0 : Int)) [])) :
  Hold (runL PG ty nG G0 an_world_Check f_world_Check (1 : Nat) (0 : Nat) (mkT (38 : Nat) [((25 : Nat), AV.sl (4 : Nat) b13 none xs14), ((26 : Nat), AV.int Go.IntKind.i64 n15), ((27 : Nat), AV.int Go.IntKind.i64 n16)]) [] R) := kshow h (by kernel_rfl)

theorem world_Copy_run (nlw0_0 : Bool) (w0_0 : List (List AV)) (nlw0_1 : Bool) (w0_1 : List (List AV)) (nlw0_2 : Bool) (w0_2 : List (List AV)) (G0 : Nat → Option Go.Obj) (R : AV → List (Option Blk) → Prop) (h :
  (0 : Int) ≤ (0 : Int) ∧
  (0 : Int) < (2 : Int) ∧
    ∃ b0 xs1,
      Good PG nG G0 f_slices_Clone_Entry [AV.sl (2 : Nat) nlw0_0 none w0_0] [] (AV.sl (2 : Nat) b0 none xs1) [] ∧
        (0 : Int) ≤ (1 : Int) ∧
          (1 : Int) < (2 : Int) ∧
            ∃ b2 xs3,
              Good PG nG G0 f_slices_Clone_Entry [AV.sl (2 : Nat) nlw0_1 none w0_1] [] (AV.sl (2 : Nat) b2 none xs3) [] ∧
                ∃ b4 xs5,
                  b4 = false ∧
                    Good PG nG G0 f_slices_Clone_Client [AV.sl (4 : Nat) nlw0_2 none w0_2] [] (AV.rsl (4 : Nat) (0 : Nat) (0 : Nat) (List.length xs5)) [some (Blk.arr (4 : Nat) xs5)] ∧
                      R (AV.agg [AV.sl (2 : Nat) b0 none xs1, AV.sl (2 : Nat) b2 none xs3, AV.rsl (4 : Nat) (0 : Nat) (0 : Nat) (List.length xs5)]) [some (Blk.arr (4 : Nat) xs5)]) :
  Hold (runF PG ty nG G0 an_world_Copy f_world_Copy [AV.agg [AV.sl (2 : Nat) nlw0_0 none w0_0, AV.sl (2 : Nat) nlw0_1 none w0_1, AV.sl (4 : Nat) nlw0_2 none w0_2]] [] R) := kshow h (by kernel_rfl)

theorem world_growth_run (nlb0_0 : Bool) (b0_0 : List (List AV)) (m1 : Int) (G0 : Nat → Option Go.Obj) (R : AV → List (Option Blk) → Prop) (h :
  ∃ b0 xs1 n2,
  Good PG nG G0 f_show_Growth [AV.agg [AV.sl (2 : Nat) nlb0_0 none b0_0], AV.int Go.IntKind.i64 m1] [] (AV.tup [AV.sl (1 : Nat) b0 none xs1, AV.int Go.IntKind.i64 n2]) [] ∧
    ifK (n2 != (0 : Int)) (R (AV.sl (1 : Nat) true none []) []) (R (AV.sl (1 : Nat) b0 none xs1) [])) :
  Hold (runF PG ty nG G0 an_world_growth f_world_growth [AV.agg [AV.sl (2 : Nat) nlb0_0 none b0_0], AV.int Go.IntKind.i64 m1] [] R) := kshow h (by kernel_rfl)

theorem world_shows_run (n0 : Bool) (b0 : List (List AV)) (n1 : Bool) (b1 : List (List AV)) (m : Nat) (c : List (List AV)) (who : Int) (side : Int) (G0 : Nat → Option Go.Obj) (R : AV → List (Option Blk) → Prop) (h :
  (0 : Int) ≤ side ∧
  side < (2 : Int) ∧
    ifK (side == (0 : Int))
      (∃ n0_1 s1 s2 n3,
        Good PG nG G0 f_book_Head [AV.agg [AV.sl (2 : Nat) n0 none b0]] [] (AV.tup [AV.agg [AV.int Go.IntKind.i64 n0_1, AV.str s1, AV.str s2], AV.int Go.IntKind.i64 n3]) [] ∧
          ifK (n3 != (0 : Int)) (R (AV.int Go.IntKind.i64 n3) [some (Blk.var [AV.sl (2 : Nat) n0 none b0, AV.sl (2 : Nat) n1 none b1, AV.rsl (4 : Nat) (1 : Nat) (0 : Nat) m]), some (Blk.arr (4 : Nat) c)])
            ((0 : Int) ≤ who ∧
              who < (↑m : Int) ∧
                ∃ n4 s5 s6 b7,
                  (∃ xs8, c[(0 : Nat) + Int.toNat who]? = some xs8 ∧ List.take (4 : Nat) (List.drop (0 : Nat) xs8) = [AV.int Go.IntKind.i64 n4, AV.str s5, AV.str s6, AV.bool b7]) ∧
                    (0 : Int) ≤ side ∧
                      side < (2 : Int) ∧
                        ifK (side == (0 : Int))
                          ((0 : Int) ≤ who ∧
                            who < (↑m : Int) ∧
                              ∃ n9,
                                (∃ xs10, c[(0 : Nat) + Int.toNat who]? = some xs10 ∧ List.take (1 : Nat) (List.drop (0 : Nat) xs10) = [AV.int Go.IntKind.i64 n9]) ∧
                                  ∃ b11 xs12,
                                    Good PG nG G0 f_world_growth [AV.agg [AV.sl (2 : Nat) n0 none b0], AV.int Go.IntKind.i64 n9] [] (AV.sl (1 : Nat) b11 none xs12) [] ∧
                                      ∃ n13 s14 s15 b16 n17,
                                        Good PG nG G0 f_client_Follow [AV.agg [AV.int Go.IntKind.i64 n4, AV.str s5, AV.str s6, AV.bool b7], AV.agg [AV.int Go.IntKind.i64 n0_1, AV.str s1, AV.str s2], AV.sl (1 : Nat) b11 none xs12] []
                                            (AV.tup [AV.agg [AV.int Go.IntKind.i64 n13, AV.str s14, AV.str s15, AV.bool b16], AV.int Go.IntKind.i64 n17]) [] ∧
                                          ifK (n17 != (0 : Int))
                                            (ifK (n17 != (7 : Int))
                                              (R (AV.int Go.IntKind.i64 n17) [some (Blk.var [AV.sl (2 : Nat) n0 none b0, AV.sl (2 : Nat) n1 none b1, AV.rsl (4 : Nat) (1 : Nat) (0 : Nat) m]), some (Blk.arr (4 : Nat) c)])
                                              ((0 : Int) ≤ who ∧
                                                who < (↑m : Int) ∧
                                                  R (AV.int Go.IntKind.i64 (0 : Int))
                                                    [some (Blk.var [AV.sl (2 : Nat) n0 none b0, AV.sl (2 : Nat) n1 none b1, AV.rsl (4 : Nat) (1 : Nat) (0 : Nat) m]),
                                                      some
                                                        (Blk.arr (4 : Nat)
                                                          (List.set c ((0 : Nat) + Int.toNat who) (setR (List.getD c ((0 : Nat) + Int.toNat who) []) (0 : Nat) [AV.int Go.IntKind.i64 n13, AV.str s14, AV.str s15, AV.bool b16])))]))
                                            ((0 : Int) ≤ who ∧
                                              who < (↑m : Int) ∧
                                                R (AV.int Go.IntKind.i64 (0 : Int))
                                                  [some (Blk.var [AV.sl (2 : Nat) n0 none b0, AV.sl (2 : Nat) n1 none b1, AV.rsl (4 : Nat) (1 : Nat) (0 : Nat) m]),
                                                    some
                                                      (Blk.arr (4 : Nat)
                                                        (List.set c ((0 : Nat) + Int.toNat who) (setR (List.getD c ((0 : Nat) + Int.toNat who) []) (0 : Nat) [AV.int Go.IntKind.i64 n13, AV.str s14, AV.str s15, AV.bool b16])))]))
                          ((0 : Int) ≤ who ∧
                            who < (↑m : Int) ∧
                              ∃ n18,
                                (∃ xs19, c[(0 : Nat) + Int.toNat who]? = some xs19 ∧ List.take (1 : Nat) (List.drop (0 : Nat) xs19) = [AV.int Go.IntKind.i64 n18]) ∧
                                  ∃ b20 xs21,
                                    Good PG nG G0 f_world_growth [AV.agg [AV.sl (2 : Nat) n1 none b1], AV.int Go.IntKind.i64 n18] [] (AV.sl (1 : Nat) b20 none xs21) [] ∧
                                      ∃ n22 s23 s24 b25 n26,
                                        Good PG nG G0 f_client_Follow [AV.agg [AV.int Go.IntKind.i64 n4, AV.str s5, AV.str s6, AV.bool b7], AV.agg [AV.int Go.IntKind.i64 n0_1, AV.str s1, AV.str s2], AV.sl (1 : Nat) b20 none xs21] []
                                            (AV.tup [AV.agg [AV.int Go.IntKind.i64 n22, AV.str s23, AV.str s24, AV.bool b25], AV.int Go.IntKind.i64 n26]) [] ∧
                                          ifK (n26 != (0 : Int))
                                            (ifK (n26 != (7 : Int))
                                              (R (AV.int Go.IntKind.i64 n26) [some (Blk.var [AV.sl (2 : Nat) n0 none b0, AV.sl (2 : Nat) n1 none b1, AV.rsl (4 : Nat) (1 : Nat) (0 : Nat) m]), some (Blk.arr (4 : Nat) c)])
                                              ((0 : Int) ≤ who ∧
                                                who < (↑m : Int) ∧
                                                  R (AV.int Go.IntKind.i64 (0 : Int))
                                                    [some (Blk.var [AV.sl (2 : Nat) n0 none b0, AV.sl (2 : Nat) n1 none b1, AV.rsl (4 : Nat) (1 : Nat) (0 : Nat) m]),
                                                      some
                                                        (Blk.arr (4 : Nat)
                                                          (List.set c ((0 : Nat) + Int.toNat who) (setR (List.getD c ((0 : Nat) + Int.toNat who) []) (0 : Nat) [AV.int Go.IntKind.i64 n22, AV.str s23, AV.str s24, AV.bool b25])))]))
                                            ((0 : Int) ≤ who ∧
                                              who < (↑m : Int) ∧
                                                R (AV.int Go.IntKind.i64 (0 : Int))
                                                  [some (Blk.var [AV.sl (2 : Nat) n0 none b0, AV.sl (2 : Nat) n1 none b1, AV.rsl (4 : Nat) (1 : Nat) (0 : Nat) m]),
                                                    some
                                                      (Blk.arr (4 : Nat)
                                                        (List.set c ((0 : Nat) + Int.toNat who) (setR (List.getD c ((0 : Nat) + Int.toNat who) []) (0 : Nat) [AV.int Go.IntKind.i64 n22, AV.str s23, AV.str s24, AV.bool b25])))]))))
      (∃ n27 s28 s29 n30,
        Good PG nG G0 f_book_Head [AV.agg [AV.sl (2 : Nat) n1 none b1]] [] (AV.tup [AV.agg [AV.int Go.IntKind.i64 n27, AV.str s28, AV.str s29], AV.int Go.IntKind.i64 n30]) [] ∧
          ifK (n30 != (0 : Int)) (R (AV.int Go.IntKind.i64 n30) [some (Blk.var [AV.sl (2 : Nat) n0 none b0, AV.sl (2 : Nat) n1 none b1, AV.rsl (4 : Nat) (1 : Nat) (0 : Nat) m]), some (Blk.arr (4 : Nat) c)])
            ((0 : Int) ≤ who ∧
              who < (↑m : Int) ∧
                ∃ n31 s32 s33 b34,
                  (∃ xs35, c[(0 : Nat) + Int.toNat who]? = some xs35 ∧ List.take (4 : Nat) (List.drop (0 : Nat) xs35) = [AV.int Go.IntKind.i64 n31, AV.str s32, AV.str s33, AV.bool b34]) ∧
                    (0 : Int) ≤ side ∧
                      side < (2 : Int) ∧
                        ifK (side == (0 : Int))
                          ((0 : Int) ≤ who ∧
                            who < (↑m : Int) ∧
                              ∃ n36,
                                (∃ xs37, c[(0 : Nat) + Int.toNat who]? = some xs37 ∧ List.take (1 : Nat) (List.drop (0 : Nat) xs37) = [AV.int Go.IntKind.i64 n36]) ∧
                                  ∃ b38 xs39,
                                    Good PG nG G0 f_world_growth [AV.agg [AV.sl (2 : Nat) n0 none b0], AV.int Go.IntKind.i64 n36] [] (AV.sl (1 : Nat) b38 none xs39) [] ∧
                                      ∃ n40 s41 s42 b43 n44,
                                        Good PG nG G0 f_client_Follow [AV.agg [AV.int Go.IntKind.i64 n31, AV.str s32, AV.str s33, AV.bool b34], AV.agg [AV.int Go.IntKind.i64 n27, AV.str s28, AV.str s29], AV.sl (1 : Nat) b38 none xs39] []
                                            (AV.tup [AV.agg [AV.int Go.IntKind.i64 n40, AV.str s41, AV.str s42, AV.bool b43], AV.int Go.IntKind.i64 n44]) [] ∧
                                          ifK (n44 != (0 : Int))
                                            (ifK (n44 != (7 : Int))
                                              (R (AV.int Go.IntKind.i64 n44) [some (Blk.var [AV.sl (2 : Nat) n0 none b0, AV.sl (2 : Nat) n1 none b1, AV.rsl (4 : Nat) (1 : Nat) (0 : Nat) m]), some (Blk.arr (4 : Nat) c)])
                                              ((0 : Int) ≤ who ∧
                                                who < (↑m : Int) ∧
                                                  R (AV.int Go.IntKind.i64 (0 : Int))
                                                    [some (Blk.var [AV.sl (2 : Nat) n0 none b0, AV.sl (2 : Nat) n1 none b1, AV.rsl (4 : Nat) (1 : Nat) (0 : Nat) m]),
                                                      some
                                                        (Blk.arr (4 : Nat)
                                                          (List.set c ((0 : Nat) + Int.toNat who) (setR (List.getD c ((0 : Nat) + Int.toNat who) []) (0 : Nat) [AV.int Go.IntKind.i64 n40, AV.str s41, AV.str s42, AV.bool b43])))]))
                                            ((0 : Int) ≤ who ∧
                                              who < (↑m : Int) ∧
                                                R (AV.int Go.IntKind.i64 (0 : Int))
                                                  [some (Blk.var [AV.sl (2 : Nat) n0 none b0, AV.sl (2 : Nat) n1 none b1, AV.rsl (4 : Nat) (1 : Nat) (0 : Nat) m]),
                                                    some
                                                      (Blk.arr (4 : Nat)
                                                        (List.set c ((0 : Nat) + Int.toNat who) (setR (List.getD c ((0 : Nat) + Int.toNat who) []) (0 : Nat) [AV.int Go.IntKind.i64 n40, AV.str s41, AV.str s42, AV.bool b43])))]))
                          ((0 : Int) ≤ who ∧
                            who < (↑m : Int) ∧
                              ∃ n45,
                                (∃ xs46, c[(0 : Nat) + Int.toNat who]? = some xs46 ∧ List.take (1 : Nat) (List.drop (0 : Nat) xs46) = [AV.int Go.IntKind.i64 n45]) ∧
                                  ∃ b47 xs48,
                                    Good PG nG G0 f_world_growth [AV.agg [AV.sl (2 : Nat) n1 none b1], AV.int Go.IntKind.i64 n45] [] (AV.sl (1 : Nat) b47 none xs48) [] ∧
                                      ∃ n49 s50 s51 b52 n53,
                                        Good PG nG G0 f_client_Follow [AV.agg [AV.int Go.IntKind.i64 n31, AV.str s32, AV.str s33, AV.bool b34], AV.agg [AV.int Go.IntKind.i64 n27, AV.str s28, AV.str s29], AV.sl (1 : Nat) b47 none xs48] []
                                            (AV.tup [AV.agg [AV.int Go.IntKind.i64 n49, AV.str s50, AV.str s51, AV.bool b52], AV.int Go.IntKind.i64 n53]) [] ∧
                                          ifK (n53 != (0 : Int))
                                            (ifK (n53 != (7 : Int))
                                              (R (AV.int Go.IntKind.i64 n53) [some (Blk.var [AV.sl (2 : Nat) n0 none b0, AV.sl (2 : Nat) n1 none b1, AV.rsl (4 : Nat) (1 : Nat) (0 : Nat) m]), some (Blk.arr (4 : Nat) c)])
                                              ((0 : Int) ≤ who ∧
                                                who < (↑m : Int) ∧
                                                  R (AV.int Go.IntKind.i64 (0 : Int))
                                                    [some (Blk.var [AV.sl (2 : Nat) n0 none b0, AV.sl (2 : Nat) n1 none b1, AV.rsl (4 : Nat) (1 : Nat) (0 : Nat) m]),
                                                      some
                                                        (Blk.arr (4 : Nat)
                                                          (List.set c ((0 : Nat) + Int.toNat who) (setR (List.getD c ((0 : Nat) + Int.toNat who) []) (0 : Nat) [AV.int Go.IntKind.i64 n49, AV.str s50, AV.str s51, AV.bool b52])))]))
                                            ((0 : Int) ≤ who ∧
                                              who < (↑m : Int) ∧
                                                R (AV.int Go.IntKind.i64 (0 : Int))
                                                  [some (Blk.var [AV.sl (2 : Nat) n0 none b0, AV.sl (2 : Nat) n1 none b1, AV.rsl (4 : Nat) (1 : Nat) (0 : Nat) m]),
                                                    some
                                                      (Blk.arr (4 : Nat)
                                                        (List.set c ((0 : Nat) + Int.toNat who) (setR (List.getD c ((0 : Nat) + Int.toNat who) []) (0 : Nat) [AV.int Go.IntKind.i64 n49, AV.str s50, AV.str s51, AV.bool b52])))]))))) :
  Hold (runF PG ty nG G0 an_world_shows f_world_shows [AV.ref (0 : Nat) (0 : Nat), AV.int Go.IntKind.i64 who, AV.int Go.IntKind.i64 side]
  [some (Blk.var [AV.sl (2 : Nat) n0 none b0, AV.sl (2 : Nat) n1 none b1, AV.rsl (4 : Nat) (1 : Nat) (0 : Nat) m]), some (Blk.arr (4 : Nat) c)] R) := kshow h (by kernel_rfl)

theorem world_meets_run (n0 : Bool) (b0 : List (List AV)) (n1 : Bool) (b1 : List (List AV)) (m : Nat) (c : List (List AV)) (a : Int) (b : Int) (G0 : Nat → Option Go.Obj) (R : AV → List (Option Blk) → Prop) (h :
  (0 : Int) ≤ a ∧
  a < (↑m : Int) ∧
    ∃ n0_1 s1 s2,
      (∃ xs3, c[(0 : Nat) + Int.toNat a]? = some xs3 ∧ List.take (3 : Nat) (List.drop (0 : Nat) xs3) = [AV.int Go.IntKind.i64 n0_1, AV.str s1, AV.str s2]) ∧
        (0 : Int) ≤ b ∧
          b < (↑m : Int) ∧
            ∃ n4 s5 s6,
              (∃ xs7, c[(0 : Nat) + Int.toNat b]? = some xs7 ∧ List.take (3 : Nat) (List.drop (0 : Nat) xs7) = [AV.int Go.IntKind.i64 n4, AV.str s5, AV.str s6]) ∧
                Does PG nG G0 (fnOf PG f_world_meets) (2 : Nat)
                  (lp PG f_world_meets (0 : Nat))
                  (mkT (79 : Nat)
                    [((0 : Nat), AV.ref (0 : Nat) (0 : Nat)), ((1 : Nat), AV.int Go.IntKind.i64 a), ((2 : Nat), AV.int Go.IntKind.i64 b), ((7 : Nat), AV.ref (2 : Nat) (0 : Nat)), ((8 : Nat), AV.ref (3 : Nat) (0 : Nat)),
                      ((31 : Nat), AV.agg [AV.sl (2 : Nat) n0 none b0, AV.sl (2 : Nat) n1 none b1]), ((32 : Nat), AV.int Go.IntKind.i64 (0 : Int))])
                  [some (Blk.var [AV.sl (2 : Nat) n0 none b0, AV.sl (2 : Nat) n1 none b1, AV.rsl (4 : Nat) (1 : Nat) (0 : Nat) m]), some (Blk.arr (4 : Nat) c), some (Blk.var [AV.int Go.IntKind.i64 n0_1, AV.str s1, AV.str s2]),
                    some (Blk.var [AV.int Go.IntKind.i64 n4, AV.str s5, AV.str s6])]
                  R) :
  Hold (runF PG ty nG G0 an_world_meets f_world_meets [AV.ref (0 : Nat) (0 : Nat), AV.int Go.IntKind.i64 a, AV.int Go.IntKind.i64 b]
  [some (Blk.var [AV.sl (2 : Nat) n0 none b0, AV.sl (2 : Nat) n1 none b1, AV.rsl (4 : Nat) (1 : Nat) (0 : Nat) m]), some (Blk.arr (4 : Nat) c)] R) := kshow h (by kernel_rfl)

theorem world_meets_l0_run (G0 : Nat → Option Obj) (n8 : Int) (n9 : Int) (b10 : Bool) (xs11 : List (List AV)) (b12 : Bool) (xs13 : List (List AV)) (n14 : Int) (b15 : Bool) (xs16 : List (List AV)) (b17 : Bool) (xs18 : List (List AV)) (m19 : Nat) (m20 : Nat) (xs21 : List (List AV)) (n22 : Int) (s23 : List UInt8) (s24 : List UInt8) (n25 : Int) (s26 : List UInt8) (s27 : List UInt8) (R : AV → List (Option Blk) → Prop) (h :
  ifK (decide (n14 < (2 : Int)))
  ((0 : Int) ≤ n14 ∧
    n14 < (2 : Int) ∧
      ifK (n14 == (0 : Int))
        (ifK (decide ((if n25 > n22 then n25 else n22) > (↑(List.length xs11) : Int)))
          (Does PG nG G0 (fnOf PG f_world_meets) (2 : Nat) (lp PG f_world_meets (0 : Nat))
            (mkT (79 : Nat)
              [((0 : Nat), AV.ref (0 : Nat) (0 : Nat)), ((1 : Nat), AV.int Go.IntKind.i64 n8), ((2 : Nat), AV.int Go.IntKind.i64 n9), ((7 : Nat), AV.ref (2 : Nat) (0 : Nat)), ((8 : Nat), AV.ref (3 : Nat) (0 : Nat)),
                ((31 : Nat), AV.agg [AV.sl (2 : Nat) b10 none xs11, AV.sl (2 : Nat) b12 none xs13]), ((32 : Nat), AV.int Go.IntKind.i64 (Go.IntKind.wrap Go.IntKind.i64 (n14 + (1 : Int))))])
            [some (Blk.var [AV.sl (2 : Nat) b15 none xs16, AV.sl (2 : Nat) b17 none xs18, AV.rsl (4 : Nat) (1 : Nat) m19 m20]), some (Blk.arr (4 : Nat) xs21), some (Blk.var [AV.int Go.IntKind.i64 n22, AV.str s23, AV.str s24]),
              some (Blk.var [AV.int Go.IntKind.i64 n25, AV.str s26, AV.str s27])]
            R)
          ((0 : Int) ≤ (0 : Int) ∧
            ((0 : Int) ≤ if n25 > n22 then n25 else n22) ∧
              (if n25 > n22 then n25 else n22) ≤ (↑(List.length xs11) : Int) ∧
                ∃ b28 xs29,
                  Good PG nG G0 f_world_growth [AV.agg [AV.sl (2 : Nat) b10 none (List.drop (0 : Nat) (List.take (Int.toNat (if n25 > n22 then n25 else n22)) xs11))], AV.int Go.IntKind.i64 (if n25 < n22 then n25 else n22)] []
                      (AV.sl (1 : Nat) b28 none xs29) [] ∧
                    ∃ n30,
                      Good PG nG G0 f_meet_Same [AV.agg [AV.int Go.IntKind.i64 n22, AV.str s23, AV.str s24], AV.agg [AV.int Go.IntKind.i64 n25, AV.str s26, AV.str s27], AV.sl (1 : Nat) b28 none xs29] [] (AV.int Go.IntKind.i64 n30)
                          [] ∧
                        ifK (n30 == (0 : Int)) (R (AV.int Go.IntKind.i64 (0 : Int)) [some (Blk.var [AV.sl (2 : Nat) b15 none xs16, AV.sl (2 : Nat) b17 none xs18, AV.rsl (4 : Nat) (1 : Nat) m19 m20]), some (Blk.arr (4 : Nat) xs21)])
                          (Does PG nG G0 (fnOf PG f_world_meets) (2 : Nat)
                            (lp PG f_world_meets (0 : Nat))
                            (mkT (79 : Nat)
                              [((0 : Nat), AV.ref (0 : Nat) (0 : Nat)), ((1 : Nat), AV.int Go.IntKind.i64 n8), ((2 : Nat), AV.int Go.IntKind.i64 n9), ((7 : Nat), AV.ref (2 : Nat) (0 : Nat)), ((8 : Nat), AV.ref (3 : Nat) (0 : Nat)),
                                ((31 : Nat), AV.agg [AV.sl (2 : Nat) b10 none xs11, AV.sl (2 : Nat) b12 none xs13]), ((32 : Nat), AV.int Go.IntKind.i64 (Go.IntKind.wrap Go.IntKind.i64 (n14 + (1 : Int))))])
                            [some (Blk.var [AV.sl (2 : Nat) b15 none xs16, AV.sl (2 : Nat) b17 none xs18, AV.rsl (4 : Nat) (1 : Nat) m19 m20]), some (Blk.arr (4 : Nat) xs21),
                              some (Blk.var [AV.int Go.IntKind.i64 n22, AV.str s23, AV.str s24]), some (Blk.var [AV.int Go.IntKind.i64 n25, AV.str s26, AV.str s27])]
                            R)))
        (ifK (decide ((if n25 > n22 then n25 else n22) > (↑(List.length xs13) : Int)))
          (Does PG nG G0 (fnOf PG f_world_meets) (2 : Nat) (lp PG f_world_meets (0 : Nat))
            (mkT (79 : Nat)
              [((0 : Nat), AV.ref (0 : Nat) (0 : Nat)), ((1 : Nat), AV.int Go.IntKind.i64 n8), ((2 : Nat), AV.int Go.IntKind.i64 n9), ((7 : Nat), AV.ref (2 : Nat) (0 : Nat)), ((8 : Nat), AV.ref (3 : Nat) (0 : Nat)),
                ((31 : Nat), AV.agg [AV.sl (2 : Nat) b10 none xs11, AV.sl (2 : Nat) b12 none xs13]), ((32 : Nat), AV.int Go.IntKind.i64 (Go.IntKind.wrap Go.IntKind.i64 (n14 + (1 : Int))))])
            [some (Blk.var [AV.sl (2 : Nat) b15 none xs16, AV.sl (2 : Nat) b17 none xs18, AV.rsl (4 : Nat) (1 : Nat) m19 m20]), some (Blk.arr (4 : Nat) xs21), some (Blk.var [AV.int Go.IntKind.i64 n22, AV.str s23, AV.str s24]),
              some (Blk.var [AV.int Go.IntKind.i64 n25, AV.str s26, AV.str s27])]
            R)
          ((0 : Int) ≤ (0 : Int) ∧
            ((0 : Int) ≤ if n25 > n22 then n25 else n22) ∧
              (if n25 > n22 then n25 else n22) ≤ (↑(List.length xs13) : Int) ∧
                ∃ b31 xs32,
                  Good PG nG G0 f_world_growth [AV.agg [AV.sl (2 : Nat) b12 none (List.drop (0 : Nat) (List.take (Int.toNat (if n25 > n22 then n25 else n22)) xs13))], AV.int Go.IntKind.i64 (if n25 < n22 then n25 else n22)] []
                      (AV.sl (1 : Nat) b31 none xs32) [] ∧
                    ∃ n33,
                      Good PG nG G0 f_meet_Same [AV.agg [AV.int Go.IntKind.i64 n22, AV.str s23, AV.str s24], AV.agg [AV.int Go.IntKind.i64 n25, AV.str s26, AV.str s27], AV.sl (1 : Nat) b31 none xs32] [] (AV.int Go.IntKind.i64 n33)
                          [] ∧
                        ifK (n33 == (0 : Int)) (R (AV.int Go.IntKind.i64 (0 : Int)) [some (Blk.var [AV.sl (2 : Nat) b15 none xs16, AV.sl (2 : Nat) b17 none xs18, AV.rsl (4 : Nat) (1 : Nat) m19 m20]), some (Blk.arr (4 : Nat) xs21)])
                          (Does PG nG G0 (fnOf PG f_world_meets) (2 : Nat)
                            (lp PG f_world_meets (0 : Nat))
                            (mkT (79 : Nat)
                              [((0 : Nat), AV.ref (0 : Nat) (0 : Nat)), ((1 : Nat), AV.int Go.IntKind.i64 n8), ((2 : Nat), AV.int Go.IntKind.i64 n9), ((7 : Nat), AV.ref (2 : Nat) (0 : Nat)), ((8 : Nat), AV.ref (3 : Nat) (0 : Nat)),
                                ((31 : Nat), AV.agg [AV.sl (2 : Nat) b10 none xs11, AV.sl (2 : Nat) b12 none xs13]), ((32 : Nat), AV.int Go.IntKind.i64 (Go.IntKind.wrap Go.IntKind.i64 (n14 + (1 : Int))))])
                            [some (Blk.var [AV.sl (2 : Nat) b15 none xs16, AV.sl (2 : Nat) b17 none xs18, AV.rsl (4 : Nat) (1 : Nat) m19 m20]), some (Blk.arr (4 : Nat) xs21),
                              some (Blk.var [AV.int Go.IntKind.i64 n22, AV.str s23, AV.str s24]), some (Blk.var [AV.int Go.IntKind.i64 n25, AV.str s26, AV.str s27])]
                            R))))
  (∃ n34,
    Good PG nG G0 f_meet_Same [AV.agg [AV.int Go.IntKind.i64 n22, AV.str s23, AV.str s24], AV.agg [AV.int Go.IntKind.i64 n25, AV.str s26, AV.str s27], AV.sl (1 : Nat) true none []] [] (AV.int Go.IntKind.i64 n34) [] ∧
      ifK (n34 == (0 : Int)) (R (AV.int Go.IntKind.i64 (0 : Int)) [some (Blk.var [AV.sl (2 : Nat) b15 none xs16, AV.sl (2 : Nat) b17 none xs18, AV.rsl (4 : Nat) (1 : Nat) m19 m20]), some (Blk.arr (4 : Nat) xs21)])
        ((0 : Int) ≤ n8 ∧
          n8 < (↑m20 : Int) ∧
            (0 : Int) ≤ n9 ∧
              n9 < (↑m20 : Int) ∧
                R (AV.int Go.IntKind.i64 (0 : Int))
                  [some (Blk.var [AV.sl (2 : Nat) b15 none xs16, AV.sl (2 : Nat) b17 none xs18, AV.rsl (4 : Nat) (1 : Nat) m19 m20]),
                    some
                      (Blk.arr (4 : Nat)
                        (List.set (List.set xs21 (m19 + Int.toNat n8) (setR (List.getD xs21 (m19 + Int.toNat n8) []) (3 : Nat) [AV.bool true])) (m19 + Int.toNat n9)
                          (setR (List.getD (List.set xs21 (m19 + Int.toNat n8) (setR (List.getD xs21 (m19 + Int.toNat n8) []) (3 : Nat) [AV.bool true])) (m19 + Int.toNat n9) []) (3 : Nat) [AV.bool true])))]))) :
  Hold (runL PG ty nG G0 an_world_meets f_world_meets (0 : Nat) (2 : Nat)
  (mkT (79 : Nat)
    [((0 : Nat), AV.ref (0 : Nat) (0 : Nat)), ((1 : Nat), AV.int Go.IntKind.i64 n8), ((2 : Nat), AV.int Go.IntKind.i64 n9), ((7 : Nat), AV.ref (2 : Nat) (0 : Nat)), ((8 : Nat), AV.ref (3 : Nat) (0 : Nat)),
      ((31 : Nat), AV.agg [AV.sl (2 : Nat) b10 none xs11, AV.sl (2 : Nat) b12 none xs13]), ((32 : Nat), AV.int Go.IntKind.i64 n14)])
  [some (Blk.var [AV.sl (2 : Nat) b15 none xs16, AV.sl (2 : Nat) b17 none xs18, AV.rsl (4 : Nat) (1 : Nat) m19 m20]), some (Blk.arr (4 : Nat) xs21), some (Blk.var [AV.int Go.IntKind.i64 n22, AV.str s23, AV.str s24]),
    some (Blk.var [AV.int Go.IntKind.i64 n25, AV.str s26, AV.str s27])]
  R) := kshow h (by kernel_rfl)

theorem world_happen_run (n0 : Bool) (b0 : List (List AV)) (n1 : Bool) (b1 : List (List AV)) (m : Nat) (c : List (List AV)) (xk : Int) (xs : Int) (xw : Int) (xo : Int) (ek : Int) (ev : List UInt8) (G0 : Nat → Option Go.Obj) (R : AV → List (Option Blk) → Prop) (h :
  ifK (decide (xk < (1 : Int))) (R (AV.int Go.IntKind.i64 (4 : Int)) [some (Blk.var [AV.sl (2 : Nat) n0 none b0, AV.sl (2 : Nat) n1 none b1, AV.rsl (4 : Nat) (1 : Nat) (0 : Nat) m]), some (Blk.arr (4 : Nat) c)])
  (ifK (decide (xk > (5 : Int))) (R (AV.int Go.IntKind.i64 (4 : Int)) [some (Blk.var [AV.sl (2 : Nat) n0 none b0, AV.sl (2 : Nat) n1 none b1, AV.rsl (4 : Nat) (1 : Nat) (0 : Nat) m]), some (Blk.arr (4 : Nat) c)])
    (ifK (decide (xs < (0 : Int))) (R (AV.int Go.IntKind.i64 (5 : Int)) [some (Blk.var [AV.sl (2 : Nat) n0 none b0, AV.sl (2 : Nat) n1 none b1, AV.rsl (4 : Nat) (1 : Nat) (0 : Nat) m]), some (Blk.arr (4 : Nat) c)])
      (ifK (decide (xs > (1 : Int))) (R (AV.int Go.IntKind.i64 (5 : Int)) [some (Blk.var [AV.sl (2 : Nat) n0 none b0, AV.sl (2 : Nat) n1 none b1, AV.rsl (4 : Nat) (1 : Nat) (0 : Nat) m]), some (Blk.arr (4 : Nat) c)])
        (ifK (decide (xw < (0 : Int))) (R (AV.int Go.IntKind.i64 (5 : Int)) [some (Blk.var [AV.sl (2 : Nat) n0 none b0, AV.sl (2 : Nat) n1 none b1, AV.rsl (4 : Nat) (1 : Nat) (0 : Nat) m]), some (Blk.arr (4 : Nat) c)])
          (ifK (decide (xw ≥ (↑m : Int))) (R (AV.int Go.IntKind.i64 (5 : Int)) [some (Blk.var [AV.sl (2 : Nat) n0 none b0, AV.sl (2 : Nat) n1 none b1, AV.rsl (4 : Nat) (1 : Nat) (0 : Nat) m]), some (Blk.arr (4 : Nat) c)])
            (ifK (decide (xo < (0 : Int))) (R (AV.int Go.IntKind.i64 (5 : Int)) [some (Blk.var [AV.sl (2 : Nat) n0 none b0, AV.sl (2 : Nat) n1 none b1, AV.rsl (4 : Nat) (1 : Nat) (0 : Nat) m]), some (Blk.arr (4 : Nat) c)])
              (ifK (decide (xo ≥ (↑m : Int))) (R (AV.int Go.IntKind.i64 (5 : Int)) [some (Blk.var [AV.sl (2 : Nat) n0 none b0, AV.sl (2 : Nat) n1 none b1, AV.rsl (4 : Nat) (1 : Nat) (0 : Nat) m]), some (Blk.arr (4 : Nat) c)])
                (ifK (xk == (1 : Int))
                  ((0 : Int) ≤ xs ∧
                    xs < (2 : Int) ∧
                      ifK (xs == (0 : Int))
                        (∃ b0_1 xs1 n2,
                          Good PG nG G0 f_book_Put [AV.agg [AV.sl (2 : Nat) n0 none b0], AV.agg [AV.int Go.IntKind.i64 ek, AV.str ev]] [] (AV.tup [AV.agg [AV.sl (2 : Nat) b0_1 none xs1], AV.int Go.IntKind.i64 n2]) [] ∧
                            ifK (n2 == (0 : Int))
                              ((0 : Int) ≤ xs ∧
                                xs < (2 : Int) ∧
                                  ifK (xs == (0 : Int)) (R (AV.int Go.IntKind.i64 n2) [some (Blk.var [AV.sl (2 : Nat) b0_1 none xs1, AV.sl (2 : Nat) n1 none b1, AV.rsl (4 : Nat) (1 : Nat) (0 : Nat) m]), some (Blk.arr (4 : Nat) c)])
                                    (R (AV.int Go.IntKind.i64 n2) [some (Blk.var [AV.sl (2 : Nat) n0 none b0, AV.sl (2 : Nat) b0_1 none xs1, AV.rsl (4 : Nat) (1 : Nat) (0 : Nat) m]), some (Blk.arr (4 : Nat) c)]))
                              (R (AV.int Go.IntKind.i64 n2) [some (Blk.var [AV.sl (2 : Nat) n0 none b0, AV.sl (2 : Nat) n1 none b1, AV.rsl (4 : Nat) (1 : Nat) (0 : Nat) m]), some (Blk.arr (4 : Nat) c)]))
                        (∃ b3 xs4 n5,
                          Good PG nG G0 f_book_Put [AV.agg [AV.sl (2 : Nat) n1 none b1], AV.agg [AV.int Go.IntKind.i64 ek, AV.str ev]] [] (AV.tup [AV.agg [AV.sl (2 : Nat) b3 none xs4], AV.int Go.IntKind.i64 n5]) [] ∧
                            ifK (n5 == (0 : Int))
                              ((0 : Int) ≤ xs ∧
                                xs < (2 : Int) ∧
                                  ifK (xs == (0 : Int)) (R (AV.int Go.IntKind.i64 n5) [some (Blk.var [AV.sl (2 : Nat) b3 none xs4, AV.sl (2 : Nat) n1 none b1, AV.rsl (4 : Nat) (1 : Nat) (0 : Nat) m]), some (Blk.arr (4 : Nat) c)])
                                    (R (AV.int Go.IntKind.i64 n5) [some (Blk.var [AV.sl (2 : Nat) n0 none b0, AV.sl (2 : Nat) b3 none xs4, AV.rsl (4 : Nat) (1 : Nat) (0 : Nat) m]), some (Blk.arr (4 : Nat) c)]))
                              (R (AV.int Go.IntKind.i64 n5) [some (Blk.var [AV.sl (2 : Nat) n0 none b0, AV.sl (2 : Nat) n1 none b1, AV.rsl (4 : Nat) (1 : Nat) (0 : Nat) m]), some (Blk.arr (4 : Nat) c)])))
                  (ifK (xk == (2 : Int))
                    ((0 : Int) ≤ (0 : Int) ∧
                      (0 : Int) < (2 : Int) ∧
                        ∃ b6 xs7,
                          Good PG nG G0 f_slices_Clone_Entry [AV.sl (2 : Nat) n0 none b0] [] (AV.sl (2 : Nat) b6 none xs7) [] ∧
                            (0 : Int) ≤ (1 : Int) ∧
                              (1 : Int) < (2 : Int) ∧ R (AV.int Go.IntKind.i64 (0 : Int)) [some (Blk.var [AV.sl (2 : Nat) n0 none b0, AV.sl (2 : Nat) b6 none xs7, AV.rsl (4 : Nat) (1 : Nat) (0 : Nat) m]), some (Blk.arr (4 : Nat) c)])
                    (ifK (xk == (3 : Int))
                      (∃ n8 b9 xs10 b11 xs12 xs13,
                        Good PG nG G0 f_world_shows [AV.ref (0 : Nat) (0 : Nat), AV.int Go.IntKind.i64 xw, AV.int Go.IntKind.i64 xs]
                            [some (Blk.var [AV.sl (2 : Nat) n0 none b0, AV.sl (2 : Nat) n1 none b1, AV.rsl (4 : Nat) (1 : Nat) (0 : Nat) m]), some (Blk.arr (4 : Nat) c)] (AV.int Go.IntKind.i64 n8)
                            [some (Blk.var [AV.sl (2 : Nat) b9 none xs10, AV.sl (2 : Nat) b11 none xs12, AV.rsl (4 : Nat) (1 : Nat) (0 : Nat) m]), some (Blk.arr (4 : Nat) xs13)] ∧
                          R (AV.int Go.IntKind.i64 n8) [some (Blk.var [AV.sl (2 : Nat) b9 none xs10, AV.sl (2 : Nat) b11 none xs12, AV.rsl (4 : Nat) (1 : Nat) (0 : Nat) m]), some (Blk.arr (4 : Nat) xs13)])
                      (ifK (xk == (4 : Int))
                        (∃ n14 b15 xs16 b17 xs18 xs19,
                          Good PG nG G0 f_world_meets [AV.ref (0 : Nat) (0 : Nat), AV.int Go.IntKind.i64 xw, AV.int Go.IntKind.i64 xo]
                              [some (Blk.var [AV.sl (2 : Nat) n0 none b0, AV.sl (2 : Nat) n1 none b1, AV.rsl (4 : Nat) (1 : Nat) (0 : Nat) m]), some (Blk.arr (4 : Nat) c)] (AV.int Go.IntKind.i64 n14)
                              [some (Blk.var [AV.sl (2 : Nat) b15 none xs16, AV.sl (2 : Nat) b17 none xs18, AV.rsl (4 : Nat) (1 : Nat) (0 : Nat) m]), some (Blk.arr (4 : Nat) xs19)] ∧
                            R (AV.int Go.IntKind.i64 n14) [some (Blk.var [AV.sl (2 : Nat) b15 none xs16, AV.sl (2 : Nat) b17 none xs18, AV.rsl (4 : Nat) (1 : Nat) (0 : Nat) m]), some (Blk.arr (4 : Nat) xs19)])
                        ((0 : Int) ≤ xs ∧
                          xs < (2 : Int) ∧
                            ifK (xs == (0 : Int))
                              (∃ s20 b21 b22 xs23 n24,
                                Good PG nG G0 f_show_Value [AV.agg [AV.sl (2 : Nat) n0 none b0], AV.int Go.IntKind.i64 ek] [] (AV.tup [AV.str s20, AV.bool b21, AV.sl (1 : Nat) b22 none xs23, AV.int Go.IntKind.i64 n24]) [] ∧
                                  ifK (n24 != (0 : Int)) (R (AV.int Go.IntKind.i64 n24) [some (Blk.var [AV.sl (2 : Nat) n0 none b0, AV.sl (2 : Nat) n1 none b1, AV.rsl (4 : Nat) (1 : Nat) (0 : Nat) m]), some (Blk.arr (4 : Nat) c)])
                                    ((0 : Int) ≤ xw ∧
                                      xw < (↑m : Int) ∧
                                        ∃ n25 s26 s27 b28,
                                          (∃ xs29, c[(0 : Nat) + Int.toNat xw]? = some xs29 ∧ List.take (4 : Nat) (List.drop (0 : Nat) xs29) = [AV.int Go.IntKind.i64 n25, AV.str s26, AV.str s27, AV.bool b28]) ∧
                                            ∃ n30,
                                              Good PG nG G0 f_client_Finds [AV.agg [AV.int Go.IntKind.i64 n25, AV.str s26, AV.str s27, AV.bool b28], AV.int Go.IntKind.i64 ek, AV.str s20, AV.bool b21, AV.sl (1 : Nat) b22 none xs23] []
                                                  (AV.int Go.IntKind.i64 n30) [] ∧
                                                R (AV.int Go.IntKind.i64 n30) [some (Blk.var [AV.sl (2 : Nat) n0 none b0, AV.sl (2 : Nat) n1 none b1, AV.rsl (4 : Nat) (1 : Nat) (0 : Nat) m]), some (Blk.arr (4 : Nat) c)]))
                              (∃ s31 b32 b33 xs34 n35,
                                Good PG nG G0 f_show_Value [AV.agg [AV.sl (2 : Nat) n1 none b1], AV.int Go.IntKind.i64 ek] [] (AV.tup [AV.str s31, AV.bool b32, AV.sl (1 : Nat) b33 none xs34, AV.int Go.IntKind.i64 n35]) [] ∧
                                  ifK (n35 != (0 : Int)) (R (AV.int Go.IntKind.i64 n35) [some (Blk.var [AV.sl (2 : Nat) n0 none b0, AV.sl (2 : Nat) n1 none b1, AV.rsl (4 : Nat) (1 : Nat) (0 : Nat) m]), some (Blk.arr (4 : Nat) c)])
                                    ((0 : Int) ≤ xw ∧
                                      xw < (↑m : Int) ∧
                                        ∃ n36 s37 s38 b39,
                                          (∃ xs40, c[(0 : Nat) + Int.toNat xw]? = some xs40 ∧ List.take (4 : Nat) (List.drop (0 : Nat) xs40) = [AV.int Go.IntKind.i64 n36, AV.str s37, AV.str s38, AV.bool b39]) ∧
                                            ∃ n41,
                                              Good PG nG G0 f_client_Finds [AV.agg [AV.int Go.IntKind.i64 n36, AV.str s37, AV.str s38, AV.bool b39], AV.int Go.IntKind.i64 ek, AV.str s31, AV.bool b32, AV.sl (1 : Nat) b33 none xs34] []
                                                  (AV.int Go.IntKind.i64 n41) [] ∧
                                                R (AV.int Go.IntKind.i64 n41) [some (Blk.var [AV.sl (2 : Nat) n0 none b0, AV.sl (2 : Nat) n1 none b1, AV.rsl (4 : Nat) (1 : Nat) (0 : Nat) m]), some (Blk.arr (4 : Nat) c)]))))))))))))))) :
  Hold (runF PG ty nG G0 an_world_happen f_world_happen [AV.ref (0 : Nat) (0 : Nat), AV.agg [AV.int Go.IntKind.i64 xk, AV.int Go.IntKind.i64 xs, AV.int Go.IntKind.i64 xw, AV.int Go.IntKind.i64 xo, AV.int Go.IntKind.i64 ek, AV.str ev]]
  [some (Blk.var [AV.sl (2 : Nat) n0 none b0, AV.sl (2 : Nat) n1 none b1, AV.rsl (4 : Nat) (1 : Nat) (0 : Nat) m]), some (Blk.arr (4 : Nat) c)] R) := kshow h (by kernel_rfl)

theorem world_Do_run (nlw0_0 : Bool) (w0_0 : List (List AV)) (nlw0_1 : Bool) (w0_1 : List (List AV)) (nlw0_2 : Bool) (w0_2 : List (List AV)) (x1_0 : Int) (x1_1 : Int) (x1_2 : Int) (x1_3 : Int) (x1_4 : Int) (x1_5 : List UInt8) (G0 : Nat → Option Go.Obj) (R : AV → List (Option Blk) → Prop) (h :
  ∃ n0,
  Good PG nG G0 f_world_Check [AV.agg [AV.sl (2 : Nat) nlw0_0 none w0_0, AV.sl (2 : Nat) nlw0_1 none w0_1, AV.sl (4 : Nat) nlw0_2 none w0_2]] [] (AV.int Go.IntKind.i64 n0) [] ∧
    ifK (n0 != (0 : Int)) (R (AV.tup [AV.agg [AV.sl (2 : Nat) true none [], AV.sl (2 : Nat) true none [], AV.sl (4 : Nat) true none []], AV.int Go.IntKind.i64 n0]) [])
      (∃ b1 xs2 b3 xs4 b5 xs6,
        b5 = false ∧
          Good PG nG G0 f_world_Copy [AV.agg [AV.sl (2 : Nat) nlw0_0 none w0_0, AV.sl (2 : Nat) nlw0_1 none w0_1, AV.sl (4 : Nat) nlw0_2 none w0_2]] []
              (AV.agg [AV.sl (2 : Nat) b1 none xs2, AV.sl (2 : Nat) b3 none xs4, AV.rsl (4 : Nat) (0 : Nat) (0 : Nat) (List.length xs6)]) [some (Blk.arr (4 : Nat) xs6)] ∧
            ∃ n7 b8 xs9 b10 xs11 xs12,
              Good PG nG G0 f_world_happen [AV.ref (0 : Nat) (0 : Nat), AV.agg [AV.int Go.IntKind.i64 x1_0, AV.int Go.IntKind.i64 x1_1, AV.int Go.IntKind.i64 x1_2, AV.int Go.IntKind.i64 x1_3, AV.int Go.IntKind.i64 x1_4, AV.str x1_5]]
                  [some (Blk.var [AV.sl (2 : Nat) b1 none xs2, AV.sl (2 : Nat) b3 none xs4, AV.rsl (4 : Nat) (1 : Nat) (0 : Nat) (List.length xs6)]), some (Blk.arr (4 : Nat) xs6)] (AV.int Go.IntKind.i64 n7)
                  [some (Blk.var [AV.sl (2 : Nat) b8 none xs9, AV.sl (2 : Nat) b10 none xs11, AV.rsl (4 : Nat) (1 : Nat) (0 : Nat) (List.length xs6)]), some (Blk.arr (4 : Nat) xs12)] ∧
                ifK (n7 != (0 : Int)) (R (AV.tup [AV.agg [AV.sl (2 : Nat) true none [], AV.sl (2 : Nat) true none [], AV.sl (4 : Nat) true none []], AV.int Go.IntKind.i64 n7]) [])
                  (R (AV.tup [AV.agg [AV.sl (2 : Nat) b8 none xs9, AV.sl (2 : Nat) b10 none xs11, AV.sl (4 : Nat) false none (List.take (List.length xs6) (List.drop (0 : Nat) xs12))], AV.int Go.IntKind.i64 (0 : Int)]) []))) :
  Hold (runF PG ty nG G0 an_world_Do f_world_Do
  [AV.agg [AV.sl (2 : Nat) nlw0_0 none w0_0, AV.sl (2 : Nat) nlw0_1 none w0_1, AV.sl (4 : Nat) nlw0_2 none w0_2],
    AV.agg [AV.int Go.IntKind.i64 x1_0, AV.int Go.IntKind.i64 x1_1, AV.int Go.IntKind.i64 x1_2, AV.int Go.IntKind.i64 x1_3, AV.int Go.IntKind.i64 x1_4, AV.str x1_5]]
  [] R) := kshow h (by kernel_rfl)

theorem world_Run_run (nlw0_0 : Bool) (w0_0 : List (List AV)) (nlw0_1 : Bool) (w0_1 : List (List AV)) (nlw0_2 : Bool) (w0_2 : List (List AV)) (nll1 : Bool) (l1 : List (List AV)) (G0 : Nat → Option Go.Obj) (R : AV → List (Option Blk) → Prop) (h :
  ∃ n0,
  Good PG nG G0 f_world_Check [AV.agg [AV.sl (2 : Nat) nlw0_0 none w0_0, AV.sl (2 : Nat) nlw0_1 none w0_1, AV.sl (4 : Nat) nlw0_2 none w0_2]] [] (AV.int Go.IntKind.i64 n0) [] ∧
    ifK (n0 != (0 : Int)) (R (AV.tup [AV.agg [AV.sl (2 : Nat) true none [], AV.sl (2 : Nat) true none [], AV.sl (4 : Nat) true none []], AV.sl (1 : Nat) true none [], AV.int Go.IntKind.i64 n0]) [])
      (ifK (decide ((↑(List.length l1) : Int) > (80 : Int))) (R (AV.tup [AV.agg [AV.sl (2 : Nat) true none [], AV.sl (2 : Nat) true none [], AV.sl (4 : Nat) true none []], AV.sl (1 : Nat) true none [], AV.int Go.IntKind.i64 (2 : Int)]) [])
        (∃ b1 xs2 b3 xs4 b5 xs6,
          Good PG nG G0 f_world_Copy [AV.agg [AV.sl (2 : Nat) nlw0_0 none w0_0, AV.sl (2 : Nat) nlw0_1 none w0_1, AV.sl (4 : Nat) nlw0_2 none w0_2]] []
              (AV.agg [AV.sl (2 : Nat) b1 none xs2, AV.sl (2 : Nat) b3 none xs4, AV.sl (4 : Nat) b5 none xs6]) [] ∧
            Does PG nG G0 (fnOf PG f_world_Run) (0 : Nat) (lp PG f_world_Run (0 : Nat))
              (mkT (45 : Nat)
                [((2 : Nat), AV.ref (0 : Nat) (0 : Nat)), ((4 : Nat), AV.ref (1 : Nat) (0 : Nat)), ((8 : Nat), AV.sl (1 : Nat) true (some (2 : Nat)) []), ((25 : Nat), AV.sl (6 : Nat) nll1 none l1),
                  ((26 : Nat), AV.int Go.IntKind.i64 (↑(List.length l1) : Int)), ((27 : Nat), AV.int Go.IntKind.i64 (0 : Int))])
              [some (Blk.var [AV.sl (2 : Nat) b1 none xs2, AV.sl (2 : Nat) b3 none xs4, AV.sl (4 : Nat) b5 none xs6]), some (Blk.var [AV.sl (2 : Nat) true none [], AV.sl (2 : Nat) true none [], AV.sl (4 : Nat) true none []]),
                some (Blk.grow (1 : Nat) (0 : Nat))]
              R))) :
  Hold (runF PG ty nG G0 an_world_Run f_world_Run [AV.agg [AV.sl (2 : Nat) nlw0_0 none w0_0, AV.sl (2 : Nat) nlw0_1 none w0_1, AV.sl (4 : Nat) nlw0_2 none w0_2], AV.sl (6 : Nat) nll1 none l1] [] R) := kshow h (by kernel_rfl)

theorem world_Run_l0_run (G0 : Nat → Option Obj) (b7 : Bool) (xs8 : List (List AV)) (b9 : Bool) (xs10 : List (List AV)) (n11 : Int) (n12 : Int) (b13 : Bool) (xs14 : List (List AV)) (b15 : Bool) (xs16 : List (List AV)) (b17 : Bool) (xs18 : List (List AV)) (b19 : Bool) (xs20 : List (List AV)) (b21 : Bool) (xs22 : List (List AV)) (b23 : Bool) (xs24 : List (List AV)) (m25 : Nat) (R : AV → List (Option Blk) → Prop) (h :
  ifK (decide (n12 < n11))
  ((0 : Int) ≤ n12 ∧
    ∃ n26 n27 n28 n29 n30 s31,
      xs10[Int.toNat n12]? = some [AV.int Go.IntKind.i64 n26, AV.int Go.IntKind.i64 n27, AV.int Go.IntKind.i64 n28, AV.int Go.IntKind.i64 n29, AV.int Go.IntKind.i64 n30, AV.str s31] ∧
        ∃ b32 xs33 b34 xs35 b36 xs37,
          b36 = false ∧
            Good PG nG G0 f_world_Copy [AV.agg [AV.sl (2 : Nat) b13 none xs14, AV.sl (2 : Nat) b15 none xs16, AV.sl (4 : Nat) b17 none xs18]] []
                (AV.agg [AV.sl (2 : Nat) b32 none xs33, AV.sl (2 : Nat) b34 none xs35, AV.rsl (4 : Nat) (0 : Nat) (0 : Nat) (List.length xs37)]) [some (Blk.arr (4 : Nat) xs37)] ∧
              ∃ n38 b39 xs40 b41 xs42 xs43,
                Good PG nG G0 f_world_happen [AV.ref (0 : Nat) (0 : Nat), AV.agg [AV.int Go.IntKind.i64 n26, AV.int Go.IntKind.i64 n27, AV.int Go.IntKind.i64 n28, AV.int Go.IntKind.i64 n29, AV.int Go.IntKind.i64 n30, AV.str s31]]
                    [some (Blk.var [AV.sl (2 : Nat) b32 none xs33, AV.sl (2 : Nat) b34 none xs35, AV.rsl (4 : Nat) (1 : Nat) (0 : Nat) (List.length xs37)]), some (Blk.arr (4 : Nat) xs37)] (AV.int Go.IntKind.i64 n38)
                    [some (Blk.var [AV.sl (2 : Nat) b39 none xs40, AV.sl (2 : Nat) b41 none xs42, AV.rsl (4 : Nat) (1 : Nat) (0 : Nat) (List.length xs37)]), some (Blk.arr (4 : Nat) xs43)] ∧
                  ifK (n38 == (0 : Int))
                    ((List.length xs8 + List.length [[AV.int Go.IntKind.i64 n38]]) * (8 : Nat) ≤ (140737488355328 : Nat) ∧
                      List.length xs8 = m25 ∧
                        Does PG nG G0 (fnOf PG f_world_Run) (0 : Nat) (lp PG f_world_Run (0 : Nat))
                          (mkT (45 : Nat)
                            [((2 : Nat), AV.ref (0 : Nat) (0 : Nat)), ((4 : Nat), AV.ref (1 : Nat) (0 : Nat)),
                              ((8 : Nat), AV.sl (1 : Nat) (b7 && List.isEmpty [[AV.int Go.IntKind.i64 n38]]) (some (2 : Nat)) (xs8 ++ [[AV.int Go.IntKind.i64 n38]])), ((25 : Nat), AV.sl (6 : Nat) b9 none xs10),
                              ((26 : Nat), AV.int Go.IntKind.i64 n11), ((27 : Nat), AV.int Go.IntKind.i64 (Go.IntKind.wrap Go.IntKind.i64 (n12 + (1 : Int))))])
                          [some (Blk.var [AV.sl (2 : Nat) b39 none xs40, AV.sl (2 : Nat) b41 none xs42, AV.sl (4 : Nat) false none (List.take (List.length xs37) (List.drop (0 : Nat) xs43))]),
                            some (Blk.var [AV.sl (2 : Nat) b19 none xs20, AV.sl (2 : Nat) b21 none xs22, AV.sl (4 : Nat) b23 none xs24]), some (Blk.grow (1 : Nat) (m25 + List.length [[AV.int Go.IntKind.i64 n38]]))]
                          R)
                    ((List.length xs8 + List.length [[AV.int Go.IntKind.i64 n38]]) * (8 : Nat) ≤ (140737488355328 : Nat) ∧
                      List.length xs8 = m25 ∧
                        Does PG nG G0 (fnOf PG f_world_Run) (0 : Nat) (lp PG f_world_Run (0 : Nat))
                          (mkT (45 : Nat)
                            [((2 : Nat), AV.ref (0 : Nat) (0 : Nat)), ((4 : Nat), AV.ref (1 : Nat) (0 : Nat)),
                              ((8 : Nat), AV.sl (1 : Nat) (b7 && List.isEmpty [[AV.int Go.IntKind.i64 n38]]) (some (2 : Nat)) (xs8 ++ [[AV.int Go.IntKind.i64 n38]])), ((25 : Nat), AV.sl (6 : Nat) b9 none xs10),
                              ((26 : Nat), AV.int Go.IntKind.i64 n11), ((27 : Nat), AV.int Go.IntKind.i64 (Go.IntKind.wrap Go.IntKind.i64 (n12 + (1 : Int))))])
                          [some (Blk.var [AV.sl (2 : Nat) b13 none xs14, AV.sl (2 : Nat) b15 none xs16, AV.sl (4 : Nat) b17 none xs18]),
                            some (Blk.var [AV.sl (2 : Nat) b19 none xs20, AV.sl (2 : Nat) b21 none xs22, AV.sl (4 : Nat) b23 none xs24]), some (Blk.grow (1 : Nat) (m25 + List.length [[AV.int Go.IntKind.i64 n38]]))]
                          R))
  (R (AV.tup [AV.agg [AV.sl (2 : Nat) b13 none xs14, AV.sl (2 : Nat) b15 none xs16, AV.sl (4 : Nat) b17 none xs18], AV.sl (1 : Nat) b7 none xs8, AV.int Go.IntKind.i64 (0 : Int)]) [])) :
  Hold (runL PG ty nG G0 an_world_Run f_world_Run (0 : Nat) (0 : Nat)
  (mkT (45 : Nat)
    [((2 : Nat), AV.ref (0 : Nat) (0 : Nat)), ((4 : Nat), AV.ref (1 : Nat) (0 : Nat)), ((8 : Nat), AV.sl (1 : Nat) b7 (some (2 : Nat)) xs8), ((25 : Nat), AV.sl (6 : Nat) b9 none xs10), ((26 : Nat), AV.int Go.IntKind.i64 n11),
      ((27 : Nat), AV.int Go.IntKind.i64 n12)])
  [some (Blk.var [AV.sl (2 : Nat) b13 none xs14, AV.sl (2 : Nat) b15 none xs16, AV.sl (4 : Nat) b17 none xs18]), some (Blk.var [AV.sl (2 : Nat) b19 none xs20, AV.sl (2 : Nat) b21 none xs22, AV.sl (4 : Nat) b23 none xs24]),
    some (Blk.grow (1 : Nat) m25)]
  R) := kshow h (by kernel_rfl)

theorem world_Same_run (nla0_0 : Bool) (a0_0 : List (List AV)) (nla0_1 : Bool) (a0_1 : List (List AV)) (nla0_2 : Bool) (a0_2 : List (List AV)) (nlb1_0 : Bool) (b1_0 : List (List AV)) (nlb1_1 : Bool) (b1_1 : List (List AV)) (nlb1_2 : Bool) (b1_2 : List (List AV)) (G0 : Nat → Option Go.Obj) (R : AV → List (Option Blk) → Prop) (h :
  (0 : Int) ≤ (0 : Int) ∧
  (0 : Int) < (2 : Int) ∧
    (0 : Int) ≤ (0 : Int) ∧
      (0 : Int) < (2 : Int) ∧
        ∃ b0,
          Good PG nG G0 f_slices_Equal_Entry [AV.sl (2 : Nat) nla0_0 none a0_0, AV.sl (2 : Nat) nlb1_0 none b1_0] [] (AV.bool b0) [] ∧
            ifK b0
              ((0 : Int) ≤ (1 : Int) ∧
                (1 : Int) < (2 : Int) ∧
                  (0 : Int) ≤ (1 : Int) ∧
                    (1 : Int) < (2 : Int) ∧
                      ∃ b1,
                        Good PG nG G0 f_slices_Equal_Entry [AV.sl (2 : Nat) nla0_1 none a0_1, AV.sl (2 : Nat) nlb1_1 none b1_1] [] (AV.bool b1) [] ∧
                          ifK b1 (∃ b2, Good PG nG G0 f_slices_Equal_Client [AV.sl (4 : Nat) nla0_2 none a0_2, AV.sl (4 : Nat) nlb1_2 none b1_2] [] (AV.bool b2) [] ∧ R (AV.bool b2) []) (R (AV.bool false) []))
              (R (AV.bool false) [])) :
  Hold (runF PG ty nG G0 an_world_Same f_world_Same
  [AV.agg [AV.sl (2 : Nat) nla0_0 none a0_0, AV.sl (2 : Nat) nla0_1 none a0_1, AV.sl (4 : Nat) nla0_2 none a0_2], AV.agg [AV.sl (2 : Nat) nlb1_0 none b1_0, AV.sl (2 : Nat) nlb1_1 none b1_1, AV.sl (4 : Nat) nlb1_2 none b1_2]] [] R) := kshow h (by kernel_rfl)

theorem slices_Clone_Client_run (nls0 : Bool) (s0 : List (List AV)) (G0 : Nat → Option Go.Obj) (R : AV → List (Option Blk) → Prop) (h :
  ifK nls0 (R (AV.sl (4 : Nat) true (some (0 : Nat)) []) [some (Blk.grow (4 : Nat) (0 : Nat))])
  (((0 : Nat) + List.length s0) * (48 : Nat) ≤ (140737488355328 : Nat) ∧ (0 : Nat) = (0 : Nat) ∧ R (AV.sl (4 : Nat) (false && List.isEmpty s0) (some (0 : Nat)) ([] ++ s0)) [some (Blk.grow (4 : Nat) ((0 : Nat) + List.length s0))])) :
  Hold (runF PG ty nG G0 an_slices_Clone_Client f_slices_Clone_Client [AV.sl (4 : Nat) nls0 none s0] [] R) := kshow h (by kernel_rfl)

theorem slices_Equal_Client_run (nls10 : Bool) (s10 : List (List AV)) (nls21 : Bool) (s21 : List (List AV)) (G0 : Nat → Option Go.Obj) (R : AV → List (Option Blk) → Prop) (h :
  ifK ((↑(List.length s10) : Int) != (↑(List.length s21) : Int)) (R (AV.bool false) [])
  (Does PG nG G0 (fnOf PG f_slices_Equal_Client) (0 : Nat) (lp PG f_slices_Equal_Client (0 : Nat))
    (mkT (26 : Nat) [((0 : Nat), AV.sl (4 : Nat) nls10 none s10), ((1 : Nat), AV.sl (4 : Nat) nls21 none s21), ((12 : Nat), AV.int Go.IntKind.i64 (↑(List.length s10) : Int)), ((13 : Nat), AV.int Go.IntKind.i64 (0 : Int))]) [] R)) :
  Hold (runF PG ty nG G0 an_slices_Equal_Client f_slices_Equal_Client [AV.sl (4 : Nat) nls10 none s10, AV.sl (4 : Nat) nls21 none s21] [] R) := kshow h (by kernel_rfl)

theorem slices_Equal_Client_l0_run (G0 : Nat → Option Obj) (b0 : Bool) (xs1 : List (List AV)) (b2 : Bool) (xs3 : List (List AV)) (n4 : Int) (n5 : Int) (R : AV → List (Option Blk) → Prop) (h :
  ifK (decide (n5 < n4))
  ((0 : Int) ≤ n5 ∧
    ∃ n6 s7 s8 b9,
      xs1[Int.toNat n5]? = some [AV.int Go.IntKind.i64 n6, AV.str s7, AV.str s8, AV.bool b9] ∧
        (0 : Int) ≤ n5 ∧
          ∃ n10 s11 s12 b13,
            xs3[Int.toNat n5]? = some [AV.int Go.IntKind.i64 n10, AV.str s11, AV.str s12, AV.bool b13] ∧
              ifK (!eqAll [AV.int Go.IntKind.i64 n6, AV.str s7, AV.str s8, AV.bool b9] [AV.int Go.IntKind.i64 n10, AV.str s11, AV.str s12, AV.bool b13]) (R (AV.bool false) [])
                (Does PG nG G0 (fnOf PG f_slices_Equal_Client) (0 : Nat) (lp PG f_slices_Equal_Client (0 : Nat))
                  (mkT (26 : Nat)
                    [((0 : Nat), AV.sl (4 : Nat) b0 none xs1), ((1 : Nat), AV.sl (4 : Nat) b2 none xs3), ((12 : Nat), AV.int Go.IntKind.i64 n4), ((13 : Nat), AV.int Go.IntKind.i64 (Go.IntKind.wrap Go.IntKind.i64 (n5 + (1 : Int))))])
                  [] R))
  (R (AV.bool true) [])) :
  Hold (runL PG ty nG G0 an_slices_Equal_Client f_slices_Equal_Client (0 : Nat) (0 : Nat)
  (mkT (26 : Nat) [((0 : Nat), AV.sl (4 : Nat) b0 none xs1), ((1 : Nat), AV.sl (4 : Nat) b2 none xs3), ((12 : Nat), AV.int Go.IntKind.i64 n4), ((13 : Nat), AV.int Go.IntKind.i64 n5)]) [] R) := kshow h (by kernel_rfl)

end Go.Ab

namespace Go.Ab
open Go.Proofs Go.Gs
variable {G0 : Nat → Option Obj}

theorem growthR_len (b : Bk) (m : Int) : (growthR b m).length ≤ 25 := by
  rcases growthR_cases b m with h | ⟨h, _, _, _, h2⟩
  · rw [h]; simp
  · have hb := (checkB_ok h).1
    have := growOf_len _ (textsOf b) m.toNat true (Nat.le_refl _)
    rw [texts_len] at this
    rw [h2]; omega

theorem good_worldGrowth (hG : GlobOk G0) (b : Bk) (nl : Bool) (m : Int) : Good PG nG G0 f_world_growth [.agg [.sl 2 nl none (b.map E2)], .int .i64 m] [] (.sl 1 (growthR b m).isEmpty none ((growthR b m).map S1)) [] := by
  refine good_of_run prOk (by kernel_rfl) (world_growth_run nl _ m G0 _ ⟨_, _, _, good_showGrowth hG b nl m, ?_⟩)
  unfold growthR
  refine ifK_ne0 (fun h => ?_) fun h => ?_
  · rw [if_pos h]; exact ⟨rfl, rfl⟩
  · rw [if_neg (by simpa using h)]; exact ⟨rfl, rfl⟩

theorem badC_drop {l : List Cl} {i : Nat} (h : i < l.length) : badC (l.drop i) = if checkH l[i].1 ≠ 0 then checkH l[i].1 else badC (l.drop (i + 1)) := by
  rw [List.drop_eq_getElem_cons h]
  rfl

theorem good_worldCheck (w : Wd) : Good PG nG G0 f_world_Check [wV w] [] (.int .i64 (checkW w)) [] := by
  suffices main : ∀ R : AV → List (Option Blk) → Prop, R (.int .i64 (checkW w)) [] → Hold (runF PG ty nG G0 an_world_Check f_world_Check [wV w] [] R) from
    good_of_run prOk (by kernel_rfl) (main _ ⟨rfl, rfl⟩)
  intro R hR
  refine world_Check_run _ _ _ _ _ _ G0 R ?_
  unfold checkW at hR
  have e10 : ((1 : Int) == 0) = false := rfl
  -- the books
  refine does_of_run prOk (world_Check_l0_run G0 _ _ _ _ _ _ _ _ _ _ _ R ?_)
  rw [decide_eq_true (show (0 : Int) < 2 by decide), ifT]
  simp only [beq_self_eq_true, ifT]
  refine ⟨by decide, by decide, _, good_bookCheck w.b0 w.n0, ifK_ne0 (fun h => by rw [if_pos h] at hR; exact hR) fun h => ?_⟩
  rw [if_neg (by simpa using h)] at hR
  rw [wrap64 (show -9223372036854775808 ≤ (0 : Int) + 1 by decide) (by decide)]
  refine does_of_run prOk (world_Check_l0_run G0 _ _ _ _ _ _ _ _ _ _ _ R ?_)
  rw [decide_eq_true (show (0 : Int) + 1 < 2 by decide), ifT]
  simp only [Int.zero_add, e10, ifF]
  refine ⟨by decide, by decide, _, good_bookCheck w.b1 w.n1, ifK_ne0 (fun h => by rw [if_pos h] at hR; exact hR) fun h => ?_⟩
  rw [if_neg (by simpa using h)] at hR
  rw [wrap64 (show -9223372036854775808 ≤ (1 : Int) + 1 by decide) (by decide)]
  refine does_of_run prOk (world_Check_l0_run G0 _ _ _ _ _ _ _ _ _ _ _ R ?_)
  rw [decide_eq_false (show ¬ (1 : Int) + 1 < 2 by decide), ifF, List.length_map]
  rw [ifK_iff]
  refine ⟨fun h => ?_, fun h => ?_⟩
  · rw [if_pos (by simp at h; omega)] at hR; exact hR
  have h3 : w.c.length = 3 := by simp at h; omega
  rw [if_neg (by omega)] at hR
  -- the clients
  refine loop_down (D := fun i : Nat => badC (w.c.drop i) = badC w.c → Does PG nG G0 (fnOf PG f_world_Check) 0 (lp PG f_world_Check 1) (mkT 38 [(25, .sl 4 w.n2 none (w.c.map CX)), (26, .int .i64 w.c.length), (27, .int .i64 i)]) [] R) w.c.length (fun h1 => ?_) (fun i hi ih h1 => ?_) rfl
  · refine does_of_run prOk (world_Check_l1_run G0 _ _ _ _ R ?_)
    simp only [ifK_iff, decide_eq_true_eq, decide_eq_false_iff_not]
    refine ⟨fun h => by omega, fun _ => ?_⟩
    rw [← h1, List.drop_length] at hR
    exact hR
  · refine does_of_run prOk (world_Check_l1_run G0 _ _ _ _ R ?_)
    rw [decide_eq_true (show (i : Int) < w.c.length by omega), ifT, Int.toNat_natCast, wrapI (by omega) (by omega)]
    rw [badC_drop hi] at h1
    refine ⟨by omega, _, _, _, _, getX hi, _, good_noteCheck w.c[i].1, ifK_ne0 (fun h2 => ?_) fun h2 => ?_⟩
    · rw [if_pos h2] at h1; rw [← h1] at hR; exact hR
    · rw [if_neg (by simpa using h2)] at h1; exact ih h1

theorem good_EqualClient (a b : List Cl) (na nb : Bool) (hb : (a.length : Int) ≤ 9223372036854775806) : Good PG nG G0 f_slices_Equal_Client [.sl 4 na none (a.map CX), .sl 4 nb none (b.map CX)] [] (.bool (decide (a = b))) [] := by
  refine good_of_run prOk (by kernel_rfl) (slices_Equal_Client_run na _ nb _ G0 _ ?_)
  simp only [ifK_iff, bne_iff_ne, ne_eq, List.length_map, bne_eq_false_iff_eq]
  refine ⟨fun h => ⟨?_, trivial⟩, fun h => ?_⟩
  · have : a ≠ b := by rintro rfl; exact h rfl
    simp [this]
  · refine eq_gen (D := fun i : Nat => Does PG nG G0 (fnOf PG f_slices_Equal_Client) 0 (lp PG f_slices_Equal_Client 0) (mkT 26 [(0, .sl 4 na none (a.map CX)), (1, .sl 4 nb none (b.map CX)), (12, .int .i64 a.length), (13, .int .i64 i)]) [] fun r' H'' => r' = .bool (decide (a = b)) ∧ H'' = [])
      (Q := fun c => c = decide (a = b)) a b (by omega) (fun i hi h1 h2 => ?_) (fun h1 => ?_) rfl
    · refine does_of_run prOk (slices_Equal_Client_l0_run G0 na _ nb _ _ _ _ ?_)
      simp only [ifK_iff, decide_eq_true_eq, decide_eq_false_iff_not, Int.toNat_natCast]
      rw [wrapI (by omega) (by omega)]
      refine ⟨fun _ => ⟨by omega, _, _, _, _, getX hi, by omega, _, _, _, _, getX (by omega), fun h4 => ?_, fun h4 => ?_⟩, fun h => by omega⟩
      · rw [eqAll_cl] at h4
        exact ⟨by rw [← h1 (by simpa using h4)], trivial⟩
      · rw [eqAll_cl] at h4
        exact h2 (by simpa using h4)
    · refine does_of_run prOk (slices_Equal_Client_l0_run G0 na _ nb _ _ _ _ ?_)
      simp only [ifK_iff, decide_eq_true_eq, decide_eq_false_iff_not]
      exact ⟨fun h => by omega, fun _ => ⟨by rw [← h1], trivial⟩⟩

theorem plain_clients (l : List Cl) : plainXs (l.map CX) := by
  intro x hx y hy
  obtain ⟨s, _, rfl⟩ := List.mem_map.1 hx
  simp [CX] at hy
  rcases hy with rfl | rfl | rfl | rfl <;> rfl

theorem good_CloneClient_arr (l : List Cl) (hl : l.length * 48 ≤ 140737488355328) : Good PG nG G0 f_slices_Clone_Client [.sl 4 false none (l.map CX)] [] (.rsl 4 0 0 (l.map CX).length) [some (.arr 4 (l.map CX))] := by
  refine Good.thaw (plain_clients l) ?_
  refine good_of_run prOk (by kernel_rfl) (slices_Clone_Client_run false _ G0 _ ?_)
  simp only [ifK_iff, List.length_map, Nat.zero_add, List.nil_append, Bool.false_and]
  exact ⟨fun h => absurd h (by decide), fun _ => ⟨hl, trivial, by trivial, by trivial⟩⟩

theorem good_worldSame (w v : Wd) (h0 : w.b0.length ≤ 1000000000000000000) (h1 : w.b1.length ≤ 1000000000000000000) (h2 : w.c.length ≤ 1000000000000000000) : Good PG nG G0 f_world_Same [wV w, wV v] [] (.bool (sameW w v)) [] := by
  refine good_of_run prOk (by kernel_rfl) (world_Same_run _ _ _ _ _ _ _ _ _ _ _ _ G0 _ ⟨by decide, by decide, by decide, by decide, _, good_EqualEntry w.b0 v.b0 w.n0 v.n0 (by omega), ?_⟩)
  unfold sameW
  by_cases e0 : w.b0 = v.b0
  · rw [decide_eq_true e0, ifT]
    refine ⟨by decide, by decide, by decide, by decide, _, good_EqualEntry w.b1 v.b1 w.n1 v.n1 (by omega), ?_⟩
    by_cases e1 : w.b1 = v.b1
    · rw [decide_eq_true e1, ifT]
      refine ⟨_, good_EqualClient w.c v.c w.n2 v.n2 (by omega), ?_, rfl⟩
      simp [e0, e1]
    · rw [decide_eq_false e1, ifF]
      exact ⟨by simp [e1], rfl⟩
  · rw [decide_eq_false e0, ifF]
    exact ⟨by simp [e0], rfl⟩

/-- A right world that is laid as it should be. -/
structure WOk (w : Wd) : Prop where
  check : checkW w = 0
  n0 : w.n0 = true → w.b0 = []
  n1 : w.n1 = true → w.b1 = []
  n2 : w.n2 = false

theorem WOk.c3 {w : Wd} (h : WOk w) : w.c.length = 3 := (checkW_iff.1 h.check).2.2.1
theorem WOk.l0 {w : Wd} (h : WOk w) : w.b0.length ≤ 24 := (checkB_ok (checkW_iff.1 h.check).1).1
theorem WOk.l1 {w : Wd} (h : WOk w) : w.b1.length ≤ 24 := (checkB_ok (checkW_iff.1 h.check).2.1).1

theorem happen_c (w : Wd) (x : Hap) : (happenR w x).1.n2 = w.n2 ∧ (happenR w x).1.c.length = w.c.length := by
  unfold happenR
  split
  · exact ⟨rfl, rfl⟩
  · split
    · exact ⟨rfl, rfl⟩
    · split
      · split
        · unfold Wd.put; split <;> exact ⟨rfl, rfl⟩
        · exact ⟨rfl, rfl⟩
      · split
        · exact ⟨rfl, rfl⟩
        · split
          · unfold showsR
            split
            · exact ⟨rfl, rfl⟩
            · simp only
              split
              · exact ⟨rfl, rfl⟩
              · exact ⟨rfl, by simp [Wd.setC]⟩
          · split
            · unfold meetsR
              split
              · exact ⟨rfl, rfl⟩
              · exact ⟨rfl, by simp [foolW, Wd.setC]⟩
            · exact ⟨rfl, rfl⟩

theorem WOk.happen {w : Wd} (h : WOk w) (x : Hap) (e : (happenR w x).2 = 0) : WOk (happenR w x).1 := by
  have hc := happen_c w x
  obtain ⟨_, _, _, _, hcase⟩ := happen_cases h.check x e
  refine ⟨checkW_happen h.check x e, ?_, ?_, hc.1.trans h.n2⟩
  · rcases hcase with ⟨_, e1⟩ | ⟨_, e1⟩ | ⟨_, _, e1⟩ | ⟨_, e1⟩ | ⟨_, e1⟩
    · rw [e1]; unfold Wd.put; split
      · intro h2; cases h2
      · exact h.n0
    · rw [e1]; exact h.n0
    · rw [e1]; unfold showsR; simp only
      split
      · exact h.n0
      · split
        · exact h.n0
        · exact h.n0
    · rw [e1]; unfold meetsR; split
      · exact h.n0
      · exact h.n0
    · rw [e1]; exact h.n0
  · rcases hcase with ⟨_, e1⟩ | ⟨_, e1⟩ | ⟨_, _, e1⟩ | ⟨_, e1⟩ | ⟨_, e1⟩
    · rw [e1]; unfold Wd.put; split
      · exact h.n1
      · intro h2; cases h2
    · rw [e1]; exact h.n0
    · rw [e1]; unfold showsR; simp only
      split
      · exact h.n1
      · split
        · exact h.n1
        · exact h.n1
    · rw [e1]; unfold meetsR; split
      · exact h.n1
      · exact h.n1
    · rw [e1]; exact h.n1

theorem WOk.step {w : Wd} (h : WOk w) (x : Hap) : WOk (stepR w x) := by
  unfold stepR
  split
  · rename_i e; exact h.happen x e
  · exact h

theorem WOk.new : WOk newW := ⟨by decide +kernel, fun _ => rfl, fun _ => rfl, rfl⟩

theorem good_worldNew : Good PG nG G0 f_world_New [] [] (wV newW) [] :=
  good_of_run prOk (by kernel_rfl) (world_New_run G0 _ ⟨rfl, by decide, by decide, by decide, rfl, rfl⟩)

/-- A world in a place of one's own, its clients too. -/
abbrev wH (m : Nat) (w : Wd) : List (Option Blk) := [some (.var [.sl 2 w.n0 none (w.b0.map E2), .sl 2 w.n1 none (w.b1.map E2), .rsl 4 1 0 m]), some (.arr 4 (w.c.map CX))]

theorem good_worldCopy {w : Wd} (h : WOk w) : Good PG nG G0 f_world_Copy [wV w] [] (.agg [.sl 2 w.n0 none (w.b0.map E2), .sl 2 w.n1 none (w.b1.map E2), .rsl 4 0 0 (w.c.map CX).length]) [some (.arr 4 (w.c.map CX))] := by
  have l0 := h.l0
  have l1 := h.l1
  have c3 := h.c3
  refine good_of_run prOk (by kernel_rfl) (world_Copy_run _ _ _ _ _ _ G0 _ ⟨by decide, by decide, _, _, (good_CloneEntry w.b0 w.n0 h.n0 (by omega)).forget, by decide, by decide, _, _, (good_CloneEntry w.b1 w.n1 h.n1 (by omega)).forget, false, w.c.map CX, rfl, ?_⟩)
  rw [h.n2]
  exact ⟨good_CloneClient_arr w.c (by omega), rfl, rfl⟩

theorem good_worldCopy' {w : Wd} (h : WOk w) : Good PG nG G0 f_world_Copy [wV w] [] (wV w) [] := by
  have := (good_worldCopy (G0 := G0) h).out
  have e : outV (hpF [some (Blk.arr 4 (w.c.map CX))]) (pos []) (.agg [.sl 2 w.n0 none (w.b0.map E2), .sl 2 w.n1 none (w.b1.map E2), .rsl 4 0 0 (w.c.map CX).length]) = .agg [.sl 2 w.n0 none (w.b0.map E2), .sl 2 w.n1 none (w.b1.map E2), .sl 4 false none (((w.c.map CX).drop 0).take (w.c.map CX).length)] := rfl
  rw [e, List.drop_zero, List.take_of_length_le (Nat.le_refl _)] at this
  rw [wV, wL, h.n2] at *
  exact this

theorem ifK_ne70 {n k : Int} {A B : Prop} (h : n ≠ k → A) (h0 : n = k → B) : ifK (n != k) A B := by
  rw [ifK_iff]
  exact ⟨fun e => h (by simpa using e), fun e => h0 (by simpa using e)⟩

theorem good_shows (hG : GlobOk G0) {w : Wd} {who side : Int} (hwho : 0 ≤ who ∧ who < w.c.length) (hside : 0 ≤ side ∧ side ≤ 1) :
    Good PG nG G0 f_world_shows [.ref 0 0, .int .i64 who, .int .i64 side] (wH w.c.length w) (.int .i64 (showsR w who side).2) (wH w.c.length (showsR w who side).1) := by
  suffices main : ∀ R : AV → List (Option Blk) → Prop, R (.int .i64 (showsR w who side).2) (wH w.c.length (showsR w who side).1) → Hold (runF PG ty nG G0 an_world_shows f_world_shows [.ref 0 0, .int .i64 who, .int .i64 side] (wH w.c.length w) R) from
    good_of_run prOk (by kernel_rfl) (main _ ⟨rfl, rfl⟩)
  intro R hR
  refine world_shows_run _ _ _ _ _ _ who side G0 R ⟨hside.1, by omega, ?_⟩
  have hin : who.toNat < w.c.length := by omega
  have hgc : (w.c.map CX)[0 + who.toNat]? = some (CX (w.cl who)) := by rw [Nat.zero_add, getX hin, cl_get hin]
  have hgd : (w.c.map CX).getD (0 + who.toNat) [] = CX (w.cl who) := by rw [List.getD_eq_getElem?_getD, hgc]; rfl
  have hset : ∀ c : Cl, (w.c.map CX).set (0 + who.toNat) (setR (CX (w.cl who)) 0 [.int .i64 c.1.n, .str c.1.log, .str c.1.mp, .bool c.2]) = (w.setC who c).c.map CX := fun c => by
    rw [Nat.zero_add]
    unfold Wd.setC
    rw [List.map_set]
    rfl
  have hhd := good_Head (G0 := G0) hG (w.bk side) (w.nb side)
  have hgr := good_worldGrowth (G0 := G0) hG (w.bk side) (w.nb side) (w.cl who).1.n
  have hfo := good_Follow (G0 := G0) hG (w.cl who) (headOf (w.bk side)).1 (growthR (w.bk side) (w.cl who).1.n).isEmpty (growthR (w.bk side) (w.cl who).1.n) (by have := growthR_len (w.bk side) (w.cl who).1.n; omega)
  have e10 : ((1 : Int) == 0) = false := rfl
  have hm : who < ((w.c.map CX).length : Int) := by rw [List.length_map]; exact hwho.2
  unfold showsR at hR
  have hs : side = 0 ∨ side = 1 := by omega
  rcases hs with rfl | rfl
  all_goals
    simp only [beq_self_eq_true, e10, ifT, ifF]
    refine ⟨_, _, _, _, hhd, ifK_ne0 (fun h1 => ?_) fun h1 => ?_⟩
    · rw [if_pos h1] at hR; exact hR
    · rw [if_neg (by simpa using h1)] at hR
      simp only at hR
      refine ⟨hwho.1, hwho.2, _, _, _, _, ⟨_, hgc, rfl⟩, by decide, by decide, hwho.1, hwho.2, _, ⟨_, hgc, rfl⟩, _, _, hgr, _, _, _, _, _, hfo, ifK_ne0 (fun h2 => ifK_ne70 (fun h3 => ?_) fun h3 => ?_) fun h2 => ?_⟩
      · rw [if_pos ⟨h2, h3⟩] at hR; exact hR
      · rw [if_neg (fun e => e.2 h3)] at hR
        rw [hgd, hset]
        exact ⟨hwho.1, hwho.2, hR⟩
      · rw [if_neg (fun e => e.1 h2)] at hR
        rw [hgd, hset]
        exact ⟨hwho.1, hwho.2, hR⟩

theorem ifK_dec {p : Prop} [Decidable p] {A B : Prop} (h : p → A) (h0 : ¬ p → B) : ifK (decide p) A B := by
  rw [ifK_iff]
  exact ⟨fun e => h (by simpa using e), fun e => h0 (by simpa using e)⟩

theorem ifK_eq {n k : Int} {A B : Prop} (h : n = k → A) (h0 : n ≠ k → B) : ifK (n == k) A B := by
  rw [ifK_iff]
  exact ⟨fun e => h (by simpa using e), fun e => h0 (by simpa using e)⟩

theorem ifK_bool {b : Bool} {A B : Prop} (h : b = true → A) (h0 : b = false → B) : ifK b A B := ifK_iff.2 ⟨h, h0⟩

theorem good_meets (hG : GlobOk G0) {w : Wd} {a b : Int} (ha : 0 ≤ a ∧ a < w.c.length) (hb : 0 ≤ b ∧ b < w.c.length) (h : checkW w = 0) :
    Good PG nG G0 f_world_meets [.ref 0 0, .int .i64 a, .int .i64 b] (wH w.c.length w) (.int .i64 0) (wH w.c.length (meetsR w a b)) := by
  suffices main : ∀ R : AV → List (Option Blk) → Prop, R (.int .i64 0) (wH w.c.length (meetsR w a b)) → Hold (runF PG ty nG G0 an_world_meets f_world_meets [.ref 0 0, .int .i64 a, .int .i64 b] (wH w.c.length w) R) from
    good_of_run prOk (by kernel_rfl) (main _ ⟨rfl, rfl⟩)
  intro R hR
  have e10 : ((1 : Int) == 0) = false := rfl
  have hin : ∀ {k : Int}, 0 ≤ k ∧ k < w.c.length → k.toNat < w.c.length := fun {k} hk => by omega
  have hgc : ∀ {k : Int}, 0 ≤ k ∧ k < w.c.length → (w.c.map CX)[0 + k.toNat]? = some (CX (w.cl k)) := fun {k} hk => by rw [Nat.zero_add, getX (hin hk), cl_get (hin hk)]
  refine world_meets_run _ _ _ _ _ _ a b G0 R ⟨ha.1, ha.2, _, _, _, ⟨_, hgc ha, rfl⟩, hb.1, hb.2, _, _, _, ⟨_, hgc hb, rfl⟩, ?_⟩
  have hx := checkH_ok (checkW_cl h a)
  have hy := checkH_ok (checkW_cl h b)
  unfold meetsR oneB at hR
  have hmx : 0 ≤ maxI (w.cl a).1.n (w.cl b).1.n := by unfold maxI; split <;> omega
  -- one book
  have book : ∀ (bk : Bk) (nb : Bool) (A B : Prop), (meetsB (w.cl a).1 (w.cl b).1 bk = true → A) → (meetsB (w.cl a).1 (w.cl b).1 bk = false → B) →
      ifK (decide ((if (w.cl b).1.n > (w.cl a).1.n then (w.cl b).1.n else (w.cl a).1.n) > ((bk.map E2).length : Int))) B
        ((0 : Int) ≤ 0 ∧ ((0 : Int) ≤ if (w.cl b).1.n > (w.cl a).1.n then (w.cl b).1.n else (w.cl a).1.n) ∧ (if (w.cl b).1.n > (w.cl a).1.n then (w.cl b).1.n else (w.cl a).1.n) ≤ ((bk.map E2).length : Int) ∧
          ∃ b28 xs29, Good PG nG G0 f_world_growth [.agg [.sl 2 nb none (List.drop 0 (List.take (Int.toNat (if (w.cl b).1.n > (w.cl a).1.n then (w.cl b).1.n else (w.cl a).1.n)) (bk.map E2)))], .int .i64 (if (w.cl b).1.n < (w.cl a).1.n then (w.cl b).1.n else (w.cl a).1.n)] [] (.sl 1 b28 none xs29) [] ∧
            ∃ n30, Good PG nG G0 f_meet_Same [.agg [.int .i64 (w.cl a).1.n, .str (w.cl a).1.log, .str (w.cl a).1.mp], .agg [.int .i64 (w.cl b).1.n, .str (w.cl b).1.log, .str (w.cl b).1.mp], .sl 1 b28 none xs29] [] (.int .i64 n30) [] ∧ ifK (n30 == (0 : Int)) A B) := by
    intro bk nb A B hA hB
    have em : (if (w.cl b).1.n > (w.cl a).1.n then (w.cl b).1.n else (w.cl a).1.n) = maxI (w.cl a).1.n (w.cl b).1.n := rfl
    have en : (if (w.cl b).1.n < (w.cl a).1.n then (w.cl b).1.n else (w.cl a).1.n) = minI (w.cl a).1.n (w.cl b).1.n := rfl
    rw [em, en, take_E2]
    generalize hM : maxI (w.cl a).1.n (w.cl b).1.n = M at *
    unfold meetsB at hA hB
    rw [hM] at hA hB
    rw [List.length_map]
    refine ifK_dec (fun h1 => hB ?_) fun h1 => ⟨Int.le_refl _, hmx, by omega, _, _, good_worldGrowth hG (bk.take M.toNat) nb _, _, good_Same hG (w.cl a).1 (w.cl b).1 _ _ (by have := growthR_len (bk.take M.toNat) (minI (w.cl a).1.n (w.cl b).1.n); omega), ifK_eq (fun h2 => hA ?_) fun h2 => hB ?_⟩
    · rw [decide_eq_false (by omega), Bool.false_and]
    · rw [decide_eq_true (by omega), h2]; rfl
    · rw [decide_eq_true (by omega), beq_eq_false_iff_ne.2 h2]; rfl
  refine does_of_run prOk (world_meets_l0_run G0 _ _ _ _ _ _ _ _ _ _ _ _ _ _ _ _ _ _ _ _ R ?_)
  rw [decide_eq_true (show (0 : Int) < 2 by decide), ifT]
  simp only [beq_self_eq_true, ifT]
  rw [wrap64 (show -9223372036854775808 ≤ (0 : Int) + 1 by decide) (by decide)]
  refine ⟨by decide, by decide, book w.b0 w.n0 _ _ (fun h0 => ?_) fun h0 => ?_⟩
  · rw [h0] at hR; exact hR
  rw [h0, Bool.false_or] at hR
  refine does_of_run prOk (world_meets_l0_run G0 _ _ _ _ _ _ _ _ _ _ _ _ _ _ _ _ _ _ _ _ R ?_)
  rw [decide_eq_true (show (0 : Int) + 1 < 2 by decide), ifT]
  simp only [Int.zero_add, e10, ifF]
  rw [wrap64 (show -9223372036854775808 ≤ (1 : Int) + 1 by decide) (by decide)]
  refine ⟨by decide, by decide, book w.b1 w.n1 _ _ (fun h1 => ?_) fun h1 => ?_⟩
  · rw [h1] at hR; exact hR
  rw [h1, Bool.false_or] at hR
  refine does_of_run prOk (world_meets_l0_run G0 _ _ _ _ _ _ _ _ _ _ _ _ _ _ _ _ _ _ _ _ R ?_)
  rw [decide_eq_false (show ¬ (1 : Int) + 1 < 2 by decide), ifF]
  refine ⟨_, good_Same hG (w.cl a).1 (w.cl b).1 true [] (by decide), ifK_eq (fun h2 => ?_) fun h2 => ?_⟩
  · rw [if_pos (by rw [h2]; rfl)] at hR; exact hR
  · rw [if_neg (by simpa using h2)] at hR
    refine ⟨ha.1, ha.2, hb.1, hb.2, ?_⟩
    have hset : ∀ {v : Wd} {k : Int}, k.toNat < v.c.length → (v.c.map CX).set (0 + k.toNat) (setR ((v.c.map CX).getD (0 + k.toNat) []) 3 [.bool true]) = (v.setC k ((v.cl k).1, true)).c.map CX := fun {v k} hk => by
      have : (v.c.map CX).getD (0 + k.toNat) [] = CX (v.cl k) := by rw [List.getD_eq_getElem?_getD, Nat.zero_add, getX hk, cl_get hk]; rfl
      rw [this, Nat.zero_add]
      unfold Wd.setC
      rw [List.map_set]
      rfl
    rw [hset (hin ha), hset (v := w.setC a ((w.cl a).1, true)) (by simpa [Wd.setC] using hin hb)]
    exact hR

theorem good_happen (hG : GlobOk G0) {w : Wd} (h : WOk w) (x : Hap) :
    Good PG nG G0 f_world_happen [.ref 0 0, .agg [.int .i64 x.1, .int .i64 x.2.1, .int .i64 x.2.2.1, .int .i64 x.2.2.2.1, .int .i64 x.2.2.2.2.1, .str x.2.2.2.2.2]] (wH w.c.length w) (.int .i64 (happenR w x).2) (wH w.c.length (happenR w x).1) := by
  obtain ⟨xk, xs, xw, xo, e⟩ := x
  suffices main : ∀ R : AV → List (Option Blk) → Prop, R (.int .i64 (happenR w (xk, xs, xw, xo, e)).2) (wH w.c.length (happenR w (xk, xs, xw, xo, e)).1) → Hold (runF PG ty nG G0 an_world_happen f_world_happen [.ref 0 0, .agg [.int .i64 xk, .int .i64 xs, .int .i64 xw, .int .i64 xo, .int .i64 e.1, .str e.2]] (wH w.c.length w) R) from
    good_of_run prOk (by kernel_rfl) (main _ ⟨rfl, rfl⟩)
  intro R hR
  have e10 : ((1 : Int) == 0) = false := rfl
  unfold happenR at hR
  simp only at hR
  refine world_happen_run _ _ _ _ _ _ xk xs xw xo e.1 e.2 G0 R ?_
  refine ifK_dec (fun h1 => by rw [if_pos (.inl h1)] at hR; exact hR) fun h1 => ifK_dec (fun h2 => by rw [if_pos (.inr h2)] at hR; exact hR) fun h2 => ?_
  rw [if_neg (by omega)] at hR
  refine ifK_dec (fun h3 => by rw [if_pos (by omega)] at hR; exact hR) fun h3 => ifK_dec (fun h4 => by rw [if_pos (by omega)] at hR; exact hR) fun h4 => ifK_dec (fun h5 => by rw [if_pos (by omega)] at hR; exact hR) fun h5 =>
    ifK_dec (fun h6 => by rw [if_pos (by omega)] at hR; exact hR) fun h6 => ifK_dec (fun h7 => by rw [if_pos (by omega)] at hR; exact hR) fun h7 => ifK_dec (fun h8 => by rw [if_pos (by omega)] at hR; exact hR) fun h8 => ?_
  rw [if_neg (by omega)] at hR
  have hs : xs = 0 ∨ xs = 1 := by omega
  have l0 := h.l0
  have l1 := h.l1
  refine ifK_eq (fun hk => ?_) fun hk => ?_
  · rw [if_pos hk] at hR
    have gp := good_Put (G0 := G0) (w.bk xs) (w.nb xs) (by unfold Wd.bk Wd.nb; split; exact h.n0; exact h.n1) e
    rcases hs with rfl | rfl
    all_goals
      simp only [beq_self_eq_true, e10, ifT, ifF]
      refine ⟨by decide, by decide, _, _, _, gp, ifK_eq (fun h9 => ?_) fun h9 => ?_⟩
      · rw [if_pos h9] at hR
        rw [h9]
        refine ⟨by decide, by decide, ?_⟩
        exact hR
      · rw [if_neg h9] at hR; exact hR
  rw [if_neg hk] at hR
  refine ifK_eq (fun hk => ?_) fun hk => ?_
  · rw [if_pos hk] at hR
    exact ⟨by decide, by decide, _, _, (good_CloneEntry w.b0 w.n0 h.n0 (by omega)).forget, by decide, by decide, hR⟩
  rw [if_neg hk] at hR
  refine ifK_eq (fun hk => ?_) fun hk => ?_
  · rw [if_pos hk] at hR
    exact ⟨_, _, _, _, _, _, good_shows hG ⟨by omega, by omega⟩ ⟨by omega, by omega⟩, hR⟩
  rw [if_neg hk] at hR
  refine ifK_eq (fun hk => ?_) fun hk => ?_
  · rw [if_pos hk] at hR
    exact ⟨_, _, _, _, _, _, good_meets hG ⟨by omega, by omega⟩ ⟨by omega, by omega⟩ h.check, hR⟩
  rw [if_neg hk] at hR
  have hin : xw.toNat < w.c.length := by omega
  have hgc : (w.c.map CX)[0 + xw.toNat]? = some (CX (w.cl xw)) := by rw [Nat.zero_add, getX hin, cl_get hin]
  have gv := good_showValue (G0 := G0) hG (w.bk xs) (w.nb xs) e.1
  have gf := good_Finds (G0 := G0) hG (w.cl xw) e.1 (showV (w.bk xs) e.1).1.1 (showV (w.bk xs) e.1).1.2.1 (showV (w.bk xs) e.1).1.2.2.isEmpty (showV (w.bk xs) e.1).1.2.2
  unfold asksR at hR
  rcases hs with rfl | rfl
  all_goals
    simp only [beq_self_eq_true, e10, ifT, ifF]
    refine ⟨by decide, by decide, _, _, _, _, _, gv, ifK_ne0 (fun h9 => ?_) fun h9 => ?_⟩
    · rw [if_pos h9] at hR; exact hR
    · rw [if_neg (by simpa using h9)] at hR
      exact ⟨by omega, by omega, _, _, _, _, ⟨_, hgc, rfl⟩, _, gf, hR⟩

theorem good_Do (hG : GlobOk G0) {w : Wd} (hn : checkW w = 0 → WOk w) (x : Hap) :
    Good PG nG G0 f_world_Do [wV w, .agg [.int .i64 x.1, .int .i64 x.2.1, .int .i64 x.2.2.1, .int .i64 x.2.2.2.1, .int .i64 x.2.2.2.2.1, .str x.2.2.2.2.2]] [] (.tup [wV (doR w x).1, .int .i64 (doR w x).2]) [] := by
  suffices main : ∀ R : AV → List (Option Blk) → Prop, R (.tup [wV (doR w x).1, .int .i64 (doR w x).2]) [] → Hold (runF PG ty nG G0 an_world_Do f_world_Do [wV w, .agg [.int .i64 x.1, .int .i64 x.2.1, .int .i64 x.2.2.1, .int .i64 x.2.2.2.1, .int .i64 x.2.2.2.2.1, .str x.2.2.2.2.2]] [] R) from
    good_of_run prOk (by kernel_rfl) (main _ ⟨rfl, rfl⟩)
  intro R hR
  unfold doR at hR
  refine world_Do_run _ _ _ _ _ _ _ _ _ _ _ _ G0 R ⟨_, good_worldCheck w, ifK_ne0 (fun h => by rw [if_pos h] at hR; exact hR) fun h => ?_⟩
  rw [if_neg (by simpa using h)] at hR
  have hw := hn h
  have gh := good_happen (G0 := G0) hG hw x
  have hc := happen_c w x
  have hl : (w.c.map CX).length = w.c.length := List.length_map ..
  have gc := good_worldCopy (G0 := G0) hw
  rw [hl] at gc
  refine ⟨w.n0, w.b0.map E2, w.n1, w.b1.map E2, false, w.c.map CX, rfl, ?_⟩
  rw [hl]
  refine ⟨gc, _, _, _, _, _, _, gh, ifK_ne0 (fun h2 => by rw [if_pos h2] at hR; exact hR) fun h2 => ?_⟩
  rw [if_neg (by simpa using h2)] at hR
  rw [List.drop_zero, List.take_of_length_le (by rw [List.length_map, hc.2]; exact Nat.le_refl _)]
  rw [wV, wL, hc.1, hw.n2] at hR
  exact hR

/-- What a run says, in its place. -/
theorem good_worldRun (hG : GlobOk G0) {w : Wd} (hn : checkW w = 0 → WOk w) (l : List Hap) (nl : Bool) :
    Good PG nG G0 f_world_Run [wV w, .sl 6 nl none (l.map H6)] [] (.tup [wV (runR w l).1.1, .sl 1 (runR w l).1.2.isEmpty none ((runR w l).1.2.map I1), .int .i64 (runR w l).2]) [] := by
  suffices main : ∀ R : AV → List (Option Blk) → Prop, R (.tup [wV (runR w l).1.1, .sl 1 (runR w l).1.2.isEmpty none ((runR w l).1.2.map I1), .int .i64 (runR w l).2]) [] → Hold (runF PG ty nG G0 an_world_Run f_world_Run [wV w, .sl 6 nl none (l.map H6)] [] R) from
    good_of_run prOk (by kernel_rfl) (main _ ⟨rfl, rfl⟩)
  intro R hR
  unfold runR at hR
  refine world_Run_run _ _ _ _ _ _ nl _ G0 R ⟨_, good_worldCheck w, ifK_ne0 (fun h => by rw [if_pos h] at hR; exact hR) fun h => ?_⟩
  rw [if_neg (by simpa using h)] at hR
  have hl6 : (l.map H6).length = l.length := List.length_map ..
  refine ifK_dec (fun h80 => by rw [if_pos (by omega)] at hR; exact hR) fun h80 => ?_
  rw [hl6] at h80
  rw [if_neg (by omega)] at hR
  have hw := hn h
  refine ⟨_, _, _, _, _, _, good_worldCopy' hw, ?_⟩
  rw [List.length_map]
  simp only at hR
  have key : ∀ (m : Nat) (i : Nat) (v : Wd) (s : List Int), i + m = l.length → WOk v → v.n2 = false → runW v (l.drop i) = runW w l → s ++ saysW v (l.drop i) = saysW w l → s.length = i →
      Does PG nG G0 (fnOf PG f_world_Run) 0 (lp PG f_world_Run 0) (mkT 45 [(2, .ref 0 0), (4, .ref 1 0), (8, .sl 1 s.isEmpty (some 2) (s.map I1)), (25, .sl 6 nl none (l.map H6)), (26, .int .i64 l.length), (27, .int .i64 (i : Int))])
        [some (.var [.sl 2 v.n0 none (v.b0.map E2), .sl 2 v.n1 none (v.b1.map E2), .sl 4 v.n2 none (v.c.map CX)]), some (.var [.sl 2 true none [], .sl 2 true none [], .sl 4 true none []]), some (.grow 1 s.length)] R := by
    intro m
    induction m with
    | zero =>
      intro i v s hi hv hv2 h1 h2 hs
      refine does_of_run prOk (world_Run_l0_run G0 _ _ _ _ _ _ _ _ _ _ _ _ _ _ _ _ _ _ _ R ?_)
      rw [decide_eq_false (by omega), ifF]
      have hd : l.drop i = [] := List.drop_of_length_le (by omega)
      rw [hd] at h1 h2
      have h1 : v = runW w l := h1
      rw [saysW, List.append_nil] at h2
      rw [← h1, ← h2] at hR
      exact hR
    | succ m ih =>
      intro i v s hi hv hv2 h1 h2 hs
      have hil : i < l.length := by omega
      refine does_of_run prOk (world_Run_l0_run G0 _ _ _ _ _ _ _ _ _ _ _ _ _ _ _ _ _ _ _ R ?_)
      rw [decide_eq_true (show (i : Int) < l.length by omega), ifT, Int.toNat_natCast]
      refine ⟨by omega, _, _, _, _, _, _, getX hil, v.n0, v.b0.map E2, v.n1, v.b1.map E2, false, v.c.map CX, rfl, ?_⟩
      have gc := good_worldCopy (G0 := G0) hv
      rw [List.length_map] at gc
      rw [show (v.c.map CX).length = v.c.length from List.length_map ..]
      have gh := good_happen (G0 := G0) hG hv l[i]
      have hc := happen_c v l[i]
      rw [List.drop_eq_getElem_cons hil] at h1 h2
      have h1 : runW (stepR v l[i]) (l.drop (i + 1)) = runW w l := h1
      rw [saysW] at h2
      have hnx : IntKind.i64.wrap ((i : Int) + 1) = ((i + 1 : Nat) : Int) := by rw [wrapI (by omega) (by omega)]; rfl
      have em : s.map I1 ++ [[AV.int .i64 (happenR v l[i]).2]] = (s ++ [(happenR v l[i]).2]).map I1 := by rw [List.map_append]; rfl
      have nxt := ih (i + 1) (stepR v l[i]) (s ++ [(happenR v l[i]).2]) (by omega) (hv.step _) (hv.step _).n2 h1 (by rw [List.append_assoc]; exact h2) (by simp [hs])
      have ee : (s ++ [(happenR v l[i]).2]).isEmpty = false := by cases s <;> rfl
      have eb : (s.isEmpty && List.isEmpty [[AV.int .i64 (happenR v l[i]).2]]) = false := by cases s <;> rfl
      have el : (s ++ [(happenR v l[i]).2]).length = s.length + List.length [[AV.int .i64 (happenR v l[i]).2]] := by simp
      rw [ee, ← em, el] at nxt
      refine ⟨gc, _, _, _, _, _, _, gh, ifK_eq (fun h3 => ⟨?_, ?_, ?_⟩) fun h3 => ⟨?_, ?_, ?_⟩⟩
      · simp only [List.length_map, List.length_cons, List.length_nil]; omega
      · rw [List.length_map]
      · rw [eb, hnx]
        have est : stepR v l[i] = (happenR v l[i]).1 := by unfold stepR; rw [if_pos h3]
        rw [est, hc.1, hv2] at nxt
        rw [List.drop_zero, List.take_of_length_le (by rw [List.length_map, hc.2]; exact Nat.le_refl _)]
        exact nxt
      · simp only [List.length_map, List.length_cons, List.length_nil]; omega
      · rw [List.length_map]
      · rw [eb, hnx]
        have est : stepR v l[i] = v := by unfold stepR; rw [if_neg h3]
        rw [est] at nxt
        exact nxt
  exact key l.length 0 w [] (by omega) hw hw.n2 rfl rfl rfl
end Go.Ab

namespace Go.Ab
open Go.Proofs
set_option maxRecDepth 100000

def an_story_Of : FAnn := ⟨[], [], none, []⟩
def an_story_Split : FAnn := ⟨[], [(0, [1, 5], [])], none, []⟩
def an_greatsealref_CheckWorld : FAnn := ⟨[], [(0, [27, 28, 29], [])], none, []⟩
def an_greatsealref_SameWorld : FAnn := ⟨[], [], none, []⟩
def an_greatsealref_Fresh : FAnn := ⟨[], [], none, []⟩
def an_greatsealref_growth : FAnn := ⟨[], [], none, []⟩
def an_greatsealref_Happened_c1 : FAnn := ⟨[], [], none, []⟩
def an_slices_Equal_Errno : FAnn := ⟨[], [(0, [0, 1, 12, 13], [])], none, []⟩
def an_slices_Clone_Happening : FAnn := ⟨[], [], some [2], []⟩
def an_greatseallaw_lied : FAnn := ⟨[], [], none, []⟩
def an_greatseallaw_lied_c1 : FAnn := ⟨[], [], none, []⟩
def an_greatseallaw_lied_c2 : FAnn := ⟨[], [], none, []⟩
def an_greatseallaw_telling : FAnn := ⟨[], [], none, []⟩

theorem story_Of_run (nlw0_0 : Bool) (w0_0 : List (List AV)) (nlw0_1 : Bool) (w0_1 : List (List AV)) (nlw0_2 : Bool) (w0_2 : List (List AV)) (who1 : Int) (side2 : Int) (G0 : Nat → Option Go.Obj) (R : AV → List (Option Blk) → Prop) (h :
  ∃ n0,
  Good PG nG G0 f_world_Check [AV.agg [AV.sl (2 : Nat) nlw0_0 none w0_0, AV.sl (2 : Nat) nlw0_1 none w0_1, AV.sl (4 : Nat) nlw0_2 none w0_2]] [] (AV.int Go.IntKind.i64 n0) [] ∧
    ifK (n0 != (0 : Int)) (R (AV.tup [AV.bool false, AV.int Go.IntKind.i64 n0]) [])
      (ifK (decide (who1 < (0 : Int))) (R (AV.tup [AV.bool false, AV.int Go.IntKind.i64 (5 : Int)]) [])
        (ifK (decide (who1 ≥ (↑(List.length w0_2) : Int))) (R (AV.tup [AV.bool false, AV.int Go.IntKind.i64 (5 : Int)]) [])
          (ifK (decide (side2 < (0 : Int))) (R (AV.tup [AV.bool false, AV.int Go.IntKind.i64 (5 : Int)]) [])
            (ifK (decide (side2 > (1 : Int))) (R (AV.tup [AV.bool false, AV.int Go.IntKind.i64 (5 : Int)]) [])
              ((0 : Int) ≤ who1 ∧
                ∃ n1 s2 s3 b4,
                  w0_2[Int.toNat who1]? = some [AV.int Go.IntKind.i64 n1, AV.str s2, AV.str s3, AV.bool b4] ∧
                    ifK (eqAll [AV.int Go.IntKind.i64 n1, AV.str s2, AV.str s3] [AV.int Go.IntKind.i64 (0 : Int), AV.str [], AV.str []]) (R (AV.tup [AV.bool true, AV.int Go.IntKind.i64 (0 : Int)]) [])
                      ((0 : Int) ≤ side2 ∧
                        side2 < (2 : Int) ∧
                          ifK (side2 == (0 : Int))
                            (ifK (decide (n1 > (↑(List.length w0_0) : Int))) (R (AV.tup [AV.bool false, AV.int Go.IntKind.i64 (0 : Int)]) [])
                              ((0 : Int) ≤ side2 ∧
                                side2 < (2 : Int) ∧
                                  ifK (side2 == (0 : Int))
                                    ((0 : Int) ≤ (0 : Int) ∧
                                      (0 : Int) ≤ n1 ∧
                                        n1 ≤ (↑(List.length w0_0) : Int) ∧
                                          ∃ n5 s6 s7 n8,
                                            Good PG nG G0 f_book_Head [AV.agg [AV.sl (2 : Nat) nlw0_0 none (List.drop (0 : Nat) (List.take (Int.toNat n1) w0_0))]] []
                                                (AV.tup [AV.agg [AV.int Go.IntKind.i64 n5, AV.str s6, AV.str s7], AV.int Go.IntKind.i64 n8]) [] ∧
                                              ifK (n8 == (0 : Int)) (R (AV.tup [AV.bool (eqAll [AV.int Go.IntKind.i64 n5, AV.str s6, AV.str s7] [AV.int Go.IntKind.i64 n1, AV.str s2, AV.str s3]), AV.int Go.IntKind.i64 n8]) [])
                                                (R (AV.tup [AV.bool false, AV.int Go.IntKind.i64 n8]) []))
                                    ((0 : Int) ≤ (0 : Int) ∧
                                      (0 : Int) ≤ n1 ∧
                                        n1 ≤ (↑(List.length w0_1) : Int) ∧
                                          ∃ n9 s10 s11 n12,
                                            Good PG nG G0 f_book_Head [AV.agg [AV.sl (2 : Nat) nlw0_1 none (List.drop (0 : Nat) (List.take (Int.toNat n1) w0_1))]] []
                                                (AV.tup [AV.agg [AV.int Go.IntKind.i64 n9, AV.str s10, AV.str s11], AV.int Go.IntKind.i64 n12]) [] ∧
                                              ifK (n12 == (0 : Int)) (R (AV.tup [AV.bool (eqAll [AV.int Go.IntKind.i64 n9, AV.str s10, AV.str s11] [AV.int Go.IntKind.i64 n1, AV.str s2, AV.str s3]), AV.int Go.IntKind.i64 n12]) [])
                                                (R (AV.tup [AV.bool false, AV.int Go.IntKind.i64 n12]) []))))
                            (ifK (decide (n1 > (↑(List.length w0_1) : Int))) (R (AV.tup [AV.bool false, AV.int Go.IntKind.i64 (0 : Int)]) [])
                              ((0 : Int) ≤ side2 ∧
                                side2 < (2 : Int) ∧
                                  ifK (side2 == (0 : Int))
                                    ((0 : Int) ≤ (0 : Int) ∧
                                      (0 : Int) ≤ n1 ∧
                                        n1 ≤ (↑(List.length w0_0) : Int) ∧
                                          ∃ n13 s14 s15 n16,
                                            Good PG nG G0 f_book_Head [AV.agg [AV.sl (2 : Nat) nlw0_0 none (List.drop (0 : Nat) (List.take (Int.toNat n1) w0_0))]] []
                                                (AV.tup [AV.agg [AV.int Go.IntKind.i64 n13, AV.str s14, AV.str s15], AV.int Go.IntKind.i64 n16]) [] ∧
                                              ifK (n16 == (0 : Int)) (R (AV.tup [AV.bool (eqAll [AV.int Go.IntKind.i64 n13, AV.str s14, AV.str s15] [AV.int Go.IntKind.i64 n1, AV.str s2, AV.str s3]), AV.int Go.IntKind.i64 n16]) [])
                                                (R (AV.tup [AV.bool false, AV.int Go.IntKind.i64 n16]) []))
                                    ((0 : Int) ≤ (0 : Int) ∧
                                      (0 : Int) ≤ n1 ∧
                                        n1 ≤ (↑(List.length w0_1) : Int) ∧
                                          ∃ n17 s18 s19 n20,
                                            Good PG nG G0 f_book_Head [AV.agg [AV.sl (2 : Nat) nlw0_1 none (List.drop (0 : Nat) (List.take (Int.toNat n1) w0_1))]] []
                                                (AV.tup [AV.agg [AV.int Go.IntKind.i64 n17, AV.str s18, AV.str s19], AV.int Go.IntKind.i64 n20]) [] ∧
                                              ifK (n20 == (0 : Int)) (R (AV.tup [AV.bool (eqAll [AV.int Go.IntKind.i64 n17, AV.str s18, AV.str s19] [AV.int Go.IntKind.i64 n1, AV.str s2, AV.str s3]), AV.int Go.IntKind.i64 n20]) [])
                                                (R (AV.tup [AV.bool false, AV.int Go.IntKind.i64 n20]) []))))))))))) :
  Hold (runF PG ty nG G0 an_story_Of f_story_Of [AV.agg [AV.sl (2 : Nat) nlw0_0 none w0_0, AV.sl (2 : Nat) nlw0_1 none w0_1, AV.sl (4 : Nat) nlw0_2 none w0_2], AV.int Go.IntKind.i64 who1, AV.int Go.IntKind.i64 side2] [] R) := kshow h (by kernel_rfl)

theorem story_Split_run (nlw0_0 : Bool) (w0_0 : List (List AV)) (nlw0_1 : Bool) (w0_1 : List (List AV)) (nlw0_2 : Bool) (w0_2 : List (List AV)) (G0 : Nat → Option Go.Obj) (R : AV → List (Option Blk) → Prop) (h :
  ∃ n0,
  Good PG nG G0 f_world_Check [AV.agg [AV.sl (2 : Nat) nlw0_0 none w0_0, AV.sl (2 : Nat) nlw0_1 none w0_1, AV.sl (4 : Nat) nlw0_2 none w0_2]] [] (AV.int Go.IntKind.i64 n0) [] ∧
    ifK (n0 != (0 : Int)) (R (AV.tup [AV.int Go.IntKind.i64 (0 : Int), AV.int Go.IntKind.i64 n0]) [])
      (Does PG nG G0 (fnOf PG f_story_Split) (0 : Nat) (lp PG f_story_Split (0 : Nat)) (mkT (47 : Nat) [((1 : Nat), AV.ref (0 : Nat) (0 : Nat)), ((5 : Nat), AV.int Go.IntKind.i64 (0 : Int))])
        [some (Blk.var [AV.sl (2 : Nat) nlw0_0 none w0_0, AV.sl (2 : Nat) nlw0_1 none w0_1, AV.sl (4 : Nat) nlw0_2 none w0_2])] R)) :
  Hold (runF PG ty nG G0 an_story_Split f_story_Split [AV.agg [AV.sl (2 : Nat) nlw0_0 none w0_0, AV.sl (2 : Nat) nlw0_1 none w0_1, AV.sl (4 : Nat) nlw0_2 none w0_2]] [] R) := kshow h (by kernel_rfl)

theorem story_Split_l0_run (G0 : Nat → Option Obj) (n1 : Int) (b2 : Bool) (xs3 : List (List AV)) (b4 : Bool) (xs5 : List (List AV)) (b6 : Bool) (xs7 : List (List AV)) (R : AV → List (Option Blk) → Prop) (h :
  (0 : Int) ≤ (0 : Int) ∧
  (0 : Int) < (2 : Int) ∧
    ifK (decide (n1 < (↑(List.length xs3) : Int)))
      ((0 : Int) ≤ (1 : Int) ∧
        (1 : Int) < (2 : Int) ∧
          ifK (decide (n1 < (↑(List.length xs5) : Int)))
            ((0 : Int) ≤ (0 : Int) ∧
              (0 : Int) < (2 : Int) ∧
                (0 : Int) ≤ n1 ∧
                  ∃ n8 s9,
                    xs3[Int.toNat n1]? = some [AV.int Go.IntKind.i64 n8, AV.str s9] ∧
                      (0 : Int) ≤ (1 : Int) ∧
                        (1 : Int) < (2 : Int) ∧
                          (0 : Int) ≤ n1 ∧
                            ∃ n10 s11,
                              xs5[Int.toNat n1]? = some [AV.int Go.IntKind.i64 n10, AV.str s11] ∧
                                ifK (eqAll [AV.int Go.IntKind.i64 n8, AV.str s9] [AV.int Go.IntKind.i64 n10, AV.str s11])
                                  (Does PG nG G0 (fnOf PG f_story_Split) (0 : Nat) (lp PG f_story_Split (0 : Nat))
                                    (mkT (47 : Nat) [((1 : Nat), AV.ref (0 : Nat) (0 : Nat)), ((5 : Nat), AV.int Go.IntKind.i64 (Go.IntKind.wrap Go.IntKind.i64 (n1 + (1 : Int))))])
                                    [some (Blk.var [AV.sl (2 : Nat) b2 none xs3, AV.sl (2 : Nat) b4 none xs5, AV.sl (4 : Nat) b6 none xs7])] R)
                                  (R (AV.tup [AV.int Go.IntKind.i64 n1, AV.int Go.IntKind.i64 (0 : Int)]) []))
            (R (AV.tup [AV.int Go.IntKind.i64 n1, AV.int Go.IntKind.i64 (0 : Int)]) []))
      (R (AV.tup [AV.int Go.IntKind.i64 n1, AV.int Go.IntKind.i64 (0 : Int)]) [])) :
  Hold (runL PG ty nG G0 an_story_Split f_story_Split (0 : Nat) (0 : Nat) (mkT (47 : Nat) [((1 : Nat), AV.ref (0 : Nat) (0 : Nat)), ((5 : Nat), AV.int Go.IntKind.i64 n1)])
  [some (Blk.var [AV.sl (2 : Nat) b2 none xs3, AV.sl (2 : Nat) b4 none xs5, AV.sl (4 : Nat) b6 none xs7])] R) := kshow h (by kernel_rfl)

theorem greatsealref_CheckWorld_run (nlw0_0 : Bool) (w0_0 : List (List AV)) (nlw0_1 : Bool) (w0_1 : List (List AV)) (nlw0_2 : Bool) (w0_2 : List (List AV)) (G0 : Nat → Option Go.Obj) (R : AV → List (Option Blk) → Prop) (h :
  (0 : Int) ≤ (0 : Int) ∧
  (0 : Int) < (2 : Int) ∧
    ∃ n0,
      Good PG nG G0 f_greatsealref_CheckBook [AV.agg [AV.sl (2 : Nat) nlw0_0 none w0_0]] [] (AV.int Go.IntKind.i64 n0) [] ∧
        ifK (n0 != (0 : Int)) (R (AV.int Go.IntKind.i64 n0) [])
          ((0 : Int) ≤ (1 : Int) ∧
            (1 : Int) < (2 : Int) ∧
              ∃ n1,
                Good PG nG G0 f_greatsealref_CheckBook [AV.agg [AV.sl (2 : Nat) nlw0_1 none w0_1]] [] (AV.int Go.IntKind.i64 n1) [] ∧
                  ifK (n1 != (0 : Int)) (R (AV.int Go.IntKind.i64 n1) [])
                    (ifK ((↑(List.length w0_2) : Int) != (3 : Int)) (R (AV.int Go.IntKind.i64 (4 : Int)) [])
                      (Does PG nG G0 (fnOf PG f_greatsealref_CheckWorld) (0 : Nat) (lp PG f_greatsealref_CheckWorld (0 : Nat))
                        (mkT (40 : Nat) [((27 : Nat), AV.sl (4 : Nat) nlw0_2 none w0_2), ((28 : Nat), AV.int Go.IntKind.i64 (↑(List.length w0_2) : Int)), ((29 : Nat), AV.int Go.IntKind.i64 (0 : Int))]) [] R)))) :
  Hold (runF PG ty nG G0 an_greatsealref_CheckWorld f_greatsealref_CheckWorld [AV.agg [AV.sl (2 : Nat) nlw0_0 none w0_0, AV.sl (2 : Nat) nlw0_1 none w0_1, AV.sl (4 : Nat) nlw0_2 none w0_2]] [] R) := kshow h (by kernel_rfl)

theorem greatsealref_CheckWorld_l0_run (G0 : Nat → Option Obj) (b2 : Bool) (xs3 : List (List AV)) (n4 : Int) (n5 : Int) (R : AV → List (Option Blk) → Prop) (h :
  ifK (decide (n5 < n4))
  ((0 : Int) ≤ n5 ∧
    ∃ n6 s7 s8 b9,
      xs3[Int.toNat n5]? = some [AV.int Go.IntKind.i64 n6, AV.str s7, AV.str s8, AV.bool b9] ∧
        ∃ n10,
          Good PG nG G0 f_greatsealref_CheckHead [AV.agg [AV.int Go.IntKind.i64 n6, AV.str s7, AV.str s8]] [] (AV.int Go.IntKind.i64 n10) [] ∧
            ifK (n10 != (0 : Int)) (R (AV.int Go.IntKind.i64 n10) [])
              (Does PG nG G0 (fnOf PG f_greatsealref_CheckWorld) (0 : Nat) (lp PG f_greatsealref_CheckWorld (0 : Nat))
                (mkT (40 : Nat) [((27 : Nat), AV.sl (4 : Nat) b2 none xs3), ((28 : Nat), AV.int Go.IntKind.i64 n4), ((29 : Nat), AV.int Go.IntKind.i64 (Go.IntKind.wrap Go.IntKind.i64 (n5 + (1 : Int))))]) [] R))
  (R (AV.int Go.IntKind.i64 (0 : Int)) [])) :
  Hold (runL PG ty nG G0 an_greatsealref_CheckWorld f_greatsealref_CheckWorld (0 : Nat) (0 : Nat) (mkT (40 : Nat) [((27 : Nat), AV.sl (4 : Nat) b2 none xs3), ((28 : Nat), AV.int Go.IntKind.i64 n4), ((29 : Nat), AV.int Go.IntKind.i64 n5)]) [] R) := kshow h (by kernel_rfl)

theorem greatsealref_SameWorld_run (nla0_0 : Bool) (a0_0 : List (List AV)) (nla0_1 : Bool) (a0_1 : List (List AV)) (nla0_2 : Bool) (a0_2 : List (List AV)) (nlb1_0 : Bool) (b1_0 : List (List AV)) (nlb1_1 : Bool) (b1_1 : List (List AV)) (nlb1_2 : Bool) (b1_2 : List (List AV)) (G0 : Nat → Option Go.Obj) (R : AV → List (Option Blk) → Prop) (h :
  ∃ b0,
  Good PG nG G0 f_slices_Equal_Client [AV.sl (4 : Nat) nla0_2 none a0_2, AV.sl (4 : Nat) nlb1_2 none b1_2] [] (AV.bool b0) [] ∧
    ifK b0
      ((0 : Int) ≤ (0 : Int) ∧
        (0 : Int) < (2 : Int) ∧
          (0 : Int) ≤ (0 : Int) ∧
            (0 : Int) < (2 : Int) ∧
              ∃ b1,
                Good PG nG G0 f_slices_Equal_Entry [AV.sl (2 : Nat) nla0_0 none a0_0, AV.sl (2 : Nat) nlb1_0 none b1_0] [] (AV.bool b1) [] ∧
                  ifK b1
                    ((0 : Int) ≤ (1 : Int) ∧
                      (1 : Int) < (2 : Int) ∧ (0 : Int) ≤ (1 : Int) ∧ (1 : Int) < (2 : Int) ∧ ∃ b2, Good PG nG G0 f_slices_Equal_Entry [AV.sl (2 : Nat) nla0_1 none a0_1, AV.sl (2 : Nat) nlb1_1 none b1_1] [] (AV.bool b2) [] ∧ R (AV.bool b2) [])
                    (R (AV.bool false) []))
      (R (AV.bool false) [])) :
  Hold (runF PG ty nG G0 an_greatsealref_SameWorld f_greatsealref_SameWorld
  [AV.agg [AV.sl (2 : Nat) nla0_0 none a0_0, AV.sl (2 : Nat) nla0_1 none a0_1, AV.sl (4 : Nat) nla0_2 none a0_2], AV.agg [AV.sl (2 : Nat) nlb1_0 none b1_0, AV.sl (2 : Nat) nlb1_1 none b1_1, AV.sl (4 : Nat) nlb1_2 none b1_2]] [] R) := kshow h (by kernel_rfl)

theorem greatsealref_Fresh_run (G0 : Nat → Option Go.Obj) (R : AV → List (Option Blk) → Prop) (h :
  (3 : Int) = (3 : Int) ∧
  (0 : Int) ≤ (3 : Int) ∧
    (144 : Int) ≤ (281474976710656 : Int) ∧
      (3 : Int) ≤ (9223372036854775807 : Int) ∧
        R
          (AV.agg
            [AV.sl (2 : Nat) true none [], AV.sl (2 : Nat) true none [],
              AV.sl (4 : Nat) false none
                [[AV.int Go.IntKind.i64 (0 : Int), AV.str [], AV.str [], AV.bool false], [AV.int Go.IntKind.i64 (0 : Int), AV.str [], AV.str [], AV.bool false], [AV.int Go.IntKind.i64 (0 : Int), AV.str [], AV.str [], AV.bool false]]])
          []) :
  Hold (runF PG ty nG G0 an_greatsealref_Fresh f_greatsealref_Fresh [] [] R) := kshow h (by kernel_rfl)

theorem greatsealref_growth_run (nll0 : Bool) (l0 : List (List AV)) (m1 : Int) (G0 : Nat → Option Go.Obj) (R : AV → List (Option Blk) → Prop) (h :
  ∃ b0 xs1,
  Good PG nG G0 f_greatsealref_TextsOf [AV.agg [AV.sl (2 : Nat) nll0 none l0]] [] (AV.sl (1 : Nat) b0 none xs1) [] ∧
    ∃ b2 xs3 n4,
      Good PG nG G0 f_greatsealref_GrowthOf [AV.sl (1 : Nat) b0 none xs1, AV.int Go.IntKind.i64 m1] [] (AV.tup [AV.sl (1 : Nat) b2 none xs3, AV.int Go.IntKind.i64 n4]) [] ∧
        ifK (n4 != (0 : Int)) (R (AV.sl (1 : Nat) true none []) []) (R (AV.sl (1 : Nat) b2 none xs3) [])) :
  Hold (runF PG ty nG G0 an_greatsealref_growth f_greatsealref_growth [AV.sl (2 : Nat) nll0 none l0, AV.int Go.IntKind.i64 m1] [] R) := kshow h (by kernel_rfl)

theorem greatsealref_Happened_c1_run (e0 : Int) (G0 : Nat → Option Go.Obj) (R : AV → List (Option Blk) → Prop) (h :
  R (AV.tup [AV.agg [AV.sl (2 : Nat) true none [], AV.sl (2 : Nat) true none [], AV.sl (4 : Nat) true none []], AV.int Go.IntKind.i64 e0]) []) :
  Hold (runF PG ty nG G0 an_greatsealref_Happened_c1 f_greatsealref_Happened_c1 [AV.int Go.IntKind.i64 e0] [] R) := kshow h (by kernel_rfl)

theorem slices_Equal_Errno_run (nls10 : Bool) (s10 : List (List AV)) (nls21 : Bool) (s21 : List (List AV)) (G0 : Nat → Option Go.Obj) (R : AV → List (Option Blk) → Prop) (h :
  ifK ((↑(List.length s10) : Int) != (↑(List.length s21) : Int)) (R (AV.bool false) [])
  (Does PG nG G0 (fnOf PG f_slices_Equal_Errno) (0 : Nat) (lp PG f_slices_Equal_Errno (0 : Nat))
    (mkT (26 : Nat) [((0 : Nat), AV.sl (1 : Nat) nls10 none s10), ((1 : Nat), AV.sl (1 : Nat) nls21 none s21), ((12 : Nat), AV.int Go.IntKind.i64 (↑(List.length s10) : Int)), ((13 : Nat), AV.int Go.IntKind.i64 (0 : Int))]) [] R)) :
  Hold (runF PG ty nG G0 an_slices_Equal_Errno f_slices_Equal_Errno [AV.sl (1 : Nat) nls10 none s10, AV.sl (1 : Nat) nls21 none s21] [] R) := kshow h (by kernel_rfl)

theorem slices_Equal_Errno_l0_run (G0 : Nat → Option Obj) (b0 : Bool) (xs1 : List (List AV)) (b2 : Bool) (xs3 : List (List AV)) (n4 : Int) (n5 : Int) (R : AV → List (Option Blk) → Prop) (h :
  ifK (decide (n5 < n4))
  ((0 : Int) ≤ n5 ∧
    ∃ n6,
      xs1[Int.toNat n5]? = some [AV.int Go.IntKind.i64 n6] ∧
        (0 : Int) ≤ n5 ∧
          ∃ n7,
            xs3[Int.toNat n5]? = some [AV.int Go.IntKind.i64 n7] ∧
              ifK (n6 != n7) (R (AV.bool false) [])
                (Does PG nG G0 (fnOf PG f_slices_Equal_Errno) (0 : Nat) (lp PG f_slices_Equal_Errno (0 : Nat))
                  (mkT (26 : Nat)
                    [((0 : Nat), AV.sl (1 : Nat) b0 none xs1), ((1 : Nat), AV.sl (1 : Nat) b2 none xs3), ((12 : Nat), AV.int Go.IntKind.i64 n4), ((13 : Nat), AV.int Go.IntKind.i64 (Go.IntKind.wrap Go.IntKind.i64 (n5 + (1 : Int))))])
                  [] R))
  (R (AV.bool true) [])) :
  Hold (runL PG ty nG G0 an_slices_Equal_Errno f_slices_Equal_Errno (0 : Nat) (0 : Nat)
  (mkT (26 : Nat) [((0 : Nat), AV.sl (1 : Nat) b0 none xs1), ((1 : Nat), AV.sl (1 : Nat) b2 none xs3), ((12 : Nat), AV.int Go.IntKind.i64 n4), ((13 : Nat), AV.int Go.IntKind.i64 n5)]) [] R) := kshow h (by kernel_rfl)

theorem slices_Clone_Happening_run (nls0 : Bool) (s0 : List (List AV)) (G0 : Nat → Option Go.Obj) (R : AV → List (Option Blk) → Prop) (h :
  ifK nls0 (R (AV.sl (6 : Nat) true (some (0 : Nat)) []) [some (Blk.grow (6 : Nat) (0 : Nat))])
  (((0 : Nat) + List.length s0) * (56 : Nat) ≤ (140737488355328 : Nat) ∧ (0 : Nat) = (0 : Nat) ∧ R (AV.sl (6 : Nat) (false && List.isEmpty s0) (some (0 : Nat)) ([] ++ s0)) [some (Blk.grow (6 : Nat) ((0 : Nat) + List.length s0))])) :
  Hold (runF PG ty nG G0 an_slices_Clone_Happening f_slices_Clone_Happening [AV.sl (6 : Nat) nls0 none s0] [] R) := kshow h (by kernel_rfl)

theorem greatseallaw_lied_run (G0 : Nat → Option Go.Obj) (R : AV → List (Option Blk) → Prop) (h :
  ∃ b0 xs1 b2 xs3 b4 xs5,
  Good PG nG G0 f_world_New [] [] (AV.agg [AV.sl (2 : Nat) b0 none xs1, AV.sl (2 : Nat) b2 none xs3, AV.sl (4 : Nat) b4 none xs5]) [] ∧
    ∃ n6 n7 n8 n9 n10 s11,
      Good PG nG G0 f_greatseallaw_lied_c1 [AV.int Go.IntKind.i64 (0 : Int), AV.int Go.IntKind.i64 (5 : Int), AV.str [(120 : UInt8)]] []
          (AV.agg [AV.int Go.IntKind.i64 n6, AV.int Go.IntKind.i64 n7, AV.int Go.IntKind.i64 n8, AV.int Go.IntKind.i64 n9, AV.int Go.IntKind.i64 n10, AV.str s11]) [] ∧
        ∃ n12 n13 n14 n15 n16 s17,
          Good PG nG G0 f_greatseallaw_lied_c2 [AV.int Go.IntKind.i64 (0 : Int), AV.int Go.IntKind.i64 (0 : Int)] []
              (AV.agg [AV.int Go.IntKind.i64 n12, AV.int Go.IntKind.i64 n13, AV.int Go.IntKind.i64 n14, AV.int Go.IntKind.i64 n15, AV.int Go.IntKind.i64 n16, AV.str s17]) [] ∧
            ∃ n18 n19 n20 n21 n22 s23,
              Good PG nG G0 f_greatseallaw_lied_c2 [AV.int Go.IntKind.i64 (1 : Int), AV.int Go.IntKind.i64 (1 : Int)] []
                  (AV.agg [AV.int Go.IntKind.i64 n18, AV.int Go.IntKind.i64 n19, AV.int Go.IntKind.i64 n20, AV.int Go.IntKind.i64 n21, AV.int Go.IntKind.i64 n22, AV.str s23]) [] ∧
                ∃ n24 n25 n26 n27 n28 s29,
                  Good PG nG G0 f_greatseallaw_lied_c1 [AV.int Go.IntKind.i64 (0 : Int), AV.int Go.IntKind.i64 (5 : Int), AV.str [(121 : UInt8)]] []
                      (AV.agg [AV.int Go.IntKind.i64 n24, AV.int Go.IntKind.i64 n25, AV.int Go.IntKind.i64 n26, AV.int Go.IntKind.i64 n27, AV.int Go.IntKind.i64 n28, AV.str s29]) [] ∧
                    ∃ n30 n31 n32 n33 n34 s35,
                      Good PG nG G0 f_greatseallaw_lied_c1 [AV.int Go.IntKind.i64 (1 : Int), AV.int Go.IntKind.i64 (5 : Int), AV.str [(122 : UInt8)]] []
                          (AV.agg [AV.int Go.IntKind.i64 n30, AV.int Go.IntKind.i64 n31, AV.int Go.IntKind.i64 n32, AV.int Go.IntKind.i64 n33, AV.int Go.IntKind.i64 n34, AV.str s35]) [] ∧
                        ∃ n36 n37 n38 n39 n40 s41,
                          Good PG nG G0 f_greatseallaw_lied_c2 [AV.int Go.IntKind.i64 (0 : Int), AV.int Go.IntKind.i64 (0 : Int)] []
                              (AV.agg [AV.int Go.IntKind.i64 n36, AV.int Go.IntKind.i64 n37, AV.int Go.IntKind.i64 n38, AV.int Go.IntKind.i64 n39, AV.int Go.IntKind.i64 n40, AV.str s41]) [] ∧
                            ∃ n42 n43 n44 n45 n46 s47,
                              Good PG nG G0 f_greatseallaw_lied_c2 [AV.int Go.IntKind.i64 (1 : Int), AV.int Go.IntKind.i64 (1 : Int)] []
                                  (AV.agg [AV.int Go.IntKind.i64 n42, AV.int Go.IntKind.i64 n43, AV.int Go.IntKind.i64 n44, AV.int Go.IntKind.i64 n45, AV.int Go.IntKind.i64 n46, AV.str s47]) [] ∧
                                ∃ b48 xs49 b50 xs51 b52 xs53 b54 xs55 n56,
                                  Good PG nG G0 f_world_Run
                                      [AV.agg [AV.sl (2 : Nat) b0 none xs1, AV.sl (2 : Nat) b2 none xs3, AV.sl (4 : Nat) b4 none xs5],
                                        AV.sl (6 : Nat) false none
                                          [[AV.int Go.IntKind.i64 n6, AV.int Go.IntKind.i64 n7, AV.int Go.IntKind.i64 n8, AV.int Go.IntKind.i64 n9, AV.int Go.IntKind.i64 n10, AV.str s11],
                                            [AV.int Go.IntKind.i64 (2 : Int), AV.int Go.IntKind.i64 (0 : Int), AV.int Go.IntKind.i64 (0 : Int), AV.int Go.IntKind.i64 (0 : Int), AV.int Go.IntKind.i64 (0 : Int), AV.str []],
                                            [AV.int Go.IntKind.i64 n12, AV.int Go.IntKind.i64 n13, AV.int Go.IntKind.i64 n14, AV.int Go.IntKind.i64 n15, AV.int Go.IntKind.i64 n16, AV.str s17],
                                            [AV.int Go.IntKind.i64 n18, AV.int Go.IntKind.i64 n19, AV.int Go.IntKind.i64 n20, AV.int Go.IntKind.i64 n21, AV.int Go.IntKind.i64 n22, AV.str s23],
                                            [AV.int Go.IntKind.i64 (4 : Int), AV.int Go.IntKind.i64 (0 : Int), AV.int Go.IntKind.i64 (0 : Int), AV.int Go.IntKind.i64 (1 : Int), AV.int Go.IntKind.i64 (0 : Int), AV.str []],
                                            [AV.int Go.IntKind.i64 n24, AV.int Go.IntKind.i64 n25, AV.int Go.IntKind.i64 n26, AV.int Go.IntKind.i64 n27, AV.int Go.IntKind.i64 n28, AV.str s29],
                                            [AV.int Go.IntKind.i64 n30, AV.int Go.IntKind.i64 n31, AV.int Go.IntKind.i64 n32, AV.int Go.IntKind.i64 n33, AV.int Go.IntKind.i64 n34, AV.str s35],
                                            [AV.int Go.IntKind.i64 n36, AV.int Go.IntKind.i64 n37, AV.int Go.IntKind.i64 n38, AV.int Go.IntKind.i64 n39, AV.int Go.IntKind.i64 n40, AV.str s41],
                                            [AV.int Go.IntKind.i64 n42, AV.int Go.IntKind.i64 n43, AV.int Go.IntKind.i64 n44, AV.int Go.IntKind.i64 n45, AV.int Go.IntKind.i64 n46, AV.str s47],
                                            [AV.int Go.IntKind.i64 (5 : Int), AV.int Go.IntKind.i64 (0 : Int), AV.int Go.IntKind.i64 (0 : Int), AV.int Go.IntKind.i64 (0 : Int), AV.int Go.IntKind.i64 (5 : Int), AV.str []],
                                            [AV.int Go.IntKind.i64 (5 : Int), AV.int Go.IntKind.i64 (1 : Int), AV.int Go.IntKind.i64 (0 : Int), AV.int Go.IntKind.i64 (0 : Int), AV.int Go.IntKind.i64 (5 : Int), AV.str []]]]
                                      [] (AV.tup [AV.agg [AV.sl (2 : Nat) b48 none xs49, AV.sl (2 : Nat) b50 none xs51, AV.sl (4 : Nat) b52 none xs53], AV.sl (1 : Nat) b54 none xs55, AV.int Go.IntKind.i64 n56]) [] ∧
                                    ifK ((↑(List.length xs53) : Int) == (3 : Int))
                                      ((0 : Int) ≤ (0 : Int) ∧
                                        ∃ n57 s58 s59 b60,
                                          xs53[(0 : Nat)]? = some [AV.int Go.IntKind.i64 n57, AV.str s58, AV.str s59, AV.bool b60] ∧
                                            ifK (!b60)
                                              ((0 : Int) ≤ (1 : Int) ∧
                                                ∃ n61 s62 s63 b64,
                                                  xs53[(1 : Nat)]? = some [AV.int Go.IntKind.i64 n61, AV.str s62, AV.str s63, AV.bool b64] ∧
                                                    ∃ b65 xs66 b67 xs68 b69 xs70 b71 xs72 n73,
                                                      Good PG nG G0 f_world_Run
                                                          [AV.agg [AV.sl (2 : Nat) b48 none xs49, AV.sl (2 : Nat) b50 none xs51, AV.sl (4 : Nat) b52 none xs53],
                                                            AV.sl (6 : Nat) false none
                                                              [[AV.int Go.IntKind.i64 (4 : Int), AV.int Go.IntKind.i64 (0 : Int), AV.int Go.IntKind.i64 (0 : Int), AV.int Go.IntKind.i64 (1 : Int), AV.int Go.IntKind.i64 (0 : Int),
                                                                  AV.str []]]]
                                                          [] (AV.tup [AV.agg [AV.sl (2 : Nat) b65 none xs66, AV.sl (2 : Nat) b67 none xs68, AV.sl (4 : Nat) b69 none xs70], AV.sl (1 : Nat) b71 none xs72, AV.int Go.IntKind.i64 n73]) [] ∧
                                                        ifK (n56 == (0 : Int))
                                                          (ifK (n73 == (0 : Int))
                                                            (ifK (!b64)
                                                              (∃ b74,
                                                                Good PG nG G0 f_slices_Equal_Errno
                                                                    [AV.sl (1 : Nat) b54 none xs55,
                                                                      AV.sl (1 : Nat) false none
                                                                        [[AV.int Go.IntKind.i64 (0 : Int)], [AV.int Go.IntKind.i64 (0 : Int)], [AV.int Go.IntKind.i64 (0 : Int)], [AV.int Go.IntKind.i64 (0 : Int)],
                                                                          [AV.int Go.IntKind.i64 (0 : Int)], [AV.int Go.IntKind.i64 (0 : Int)], [AV.int Go.IntKind.i64 (0 : Int)], [AV.int Go.IntKind.i64 (0 : Int)],
                                                                          [AV.int Go.IntKind.i64 (0 : Int)], [AV.int Go.IntKind.i64 (0 : Int)], [AV.int Go.IntKind.i64 (7 : Int)]]]
                                                                    [] (AV.bool b74) [] ∧
                                                                  ifK b74
                                                                    (ifK ((↑(List.length xs72) : Int) == (1 : Int))
                                                                      ((0 : Int) ≤ (0 : Int) ∧
                                                                        ∃ n75 s76 s77 b78,
                                                                          xs70[(0 : Nat)]? = some [AV.int Go.IntKind.i64 n75, AV.str s76, AV.str s77, AV.bool b78] ∧
                                                                            ifK b78
                                                                              ((0 : Int) ≤ (1 : Int) ∧
                                                                                ∃ n79 s80 s81 b82,
                                                                                  xs70[(1 : Nat)]? = some [AV.int Go.IntKind.i64 n79, AV.str s80, AV.str s81, AV.bool b82] ∧
                                                                                    ifK b82
                                                                                      ((0 : Int) ≤ (2 : Int) ∧
                                                                                        ∃ n83 s84 s85 b86, xs70[(2 : Nat)]? = some [AV.int Go.IntKind.i64 n83, AV.str s84, AV.str s85, AV.bool b86] ∧ R (AV.bool !b86) [])
                                                                                      (R (AV.bool false) []))
                                                                              (R (AV.bool false) []))
                                                                      (R (AV.bool false) []))
                                                                    (R (AV.bool false) []))
                                                              (R (AV.bool false) []))
                                                            (R (AV.bool false) []))
                                                          (R (AV.bool false) []))
                                              (∃ b87 xs88 b89 xs90 b91 xs92 b93 xs94 n95,
                                                Good PG nG G0 f_world_Run
                                                    [AV.agg [AV.sl (2 : Nat) b48 none xs49, AV.sl (2 : Nat) b50 none xs51, AV.sl (4 : Nat) b52 none xs53],
                                                      AV.sl (6 : Nat) false none
                                                        [[AV.int Go.IntKind.i64 (4 : Int), AV.int Go.IntKind.i64 (0 : Int), AV.int Go.IntKind.i64 (0 : Int), AV.int Go.IntKind.i64 (1 : Int), AV.int Go.IntKind.i64 (0 : Int), AV.str []]]]
                                                    [] (AV.tup [AV.agg [AV.sl (2 : Nat) b87 none xs88, AV.sl (2 : Nat) b89 none xs90, AV.sl (4 : Nat) b91 none xs92], AV.sl (1 : Nat) b93 none xs94, AV.int Go.IntKind.i64 n95]) [] ∧
                                                  ifK (n56 == (0 : Int)) (ifK (n95 == (0 : Int)) (R (AV.bool false) []) (R (AV.bool false) [])) (R (AV.bool false) [])))
                                      (∃ b96 xs97 b98 xs99 b100 xs101 b102 xs103 n104,
                                        Good PG nG G0 f_world_Run
                                            [AV.agg [AV.sl (2 : Nat) b48 none xs49, AV.sl (2 : Nat) b50 none xs51, AV.sl (4 : Nat) b52 none xs53],
                                              AV.sl (6 : Nat) false none
                                                [[AV.int Go.IntKind.i64 (4 : Int), AV.int Go.IntKind.i64 (0 : Int), AV.int Go.IntKind.i64 (0 : Int), AV.int Go.IntKind.i64 (1 : Int), AV.int Go.IntKind.i64 (0 : Int), AV.str []]]]
                                            [] (AV.tup [AV.agg [AV.sl (2 : Nat) b96 none xs97, AV.sl (2 : Nat) b98 none xs99, AV.sl (4 : Nat) b100 none xs101], AV.sl (1 : Nat) b102 none xs103, AV.int Go.IntKind.i64 n104]) [] ∧
                                          ifK (n56 == (0 : Int)) (ifK (n104 == (0 : Int)) (R (AV.bool false) []) (R (AV.bool false) [])) (R (AV.bool false) []))) :
  Hold (runF PG ty nG G0 an_greatseallaw_lied f_greatseallaw_lied [] [] R) := kshow h (by kernel_rfl)

theorem greatseallaw_lied_c1_run (side0 : Int) (key1 : Int) (value2 : List UInt8) (G0 : Nat → Option Go.Obj) (R : AV → List (Option Blk) → Prop) (h :
  R (AV.agg [AV.int Go.IntKind.i64 (1 : Int), AV.int Go.IntKind.i64 side0, AV.int Go.IntKind.i64 (0 : Int), AV.int Go.IntKind.i64 (0 : Int), AV.int Go.IntKind.i64 key1, AV.str value2]) []) :
  Hold (runF PG ty nG G0 an_greatseallaw_lied_c1 f_greatseallaw_lied_c1 [AV.int Go.IntKind.i64 side0, AV.int Go.IntKind.i64 key1, AV.str value2] [] R) := kshow h (by kernel_rfl)

theorem greatseallaw_lied_c2_run (who0 : Int) (side1 : Int) (G0 : Nat → Option Go.Obj) (R : AV → List (Option Blk) → Prop) (h :
  R (AV.agg [AV.int Go.IntKind.i64 (3 : Int), AV.int Go.IntKind.i64 side1, AV.int Go.IntKind.i64 who0, AV.int Go.IntKind.i64 (0 : Int), AV.int Go.IntKind.i64 (0 : Int), AV.str []]) []) :
  Hold (runF PG ty nG G0 an_greatseallaw_lied_c2 f_greatseallaw_lied_c2 [AV.int Go.IntKind.i64 who0, AV.int Go.IntKind.i64 side1] [] R) := kshow h (by kernel_rfl)

theorem greatseallaw_telling_run (G0 : Nat → Option Go.Obj) (R : AV → List (Option Blk) → Prop) (h :
  ∃ b0 xs1 b2 xs3 b4 xs5,
  Good PG nG G0 f_world_New [] [] (AV.agg [AV.sl (2 : Nat) b0 none xs1, AV.sl (2 : Nat) b2 none xs3, AV.sl (4 : Nat) b4 none xs5]) [] ∧
    ∃ b6 xs7 b8 xs9 b10 xs11 b12 xs13 n14,
      Good PG nG G0 f_world_Run
          [AV.agg [AV.sl (2 : Nat) b0 none xs1, AV.sl (2 : Nat) b2 none xs3, AV.sl (4 : Nat) b4 none xs5],
            AV.sl (6 : Nat) false none
              [[AV.int Go.IntKind.i64 (1 : Int), AV.int Go.IntKind.i64 (0 : Int), AV.int Go.IntKind.i64 (0 : Int), AV.int Go.IntKind.i64 (0 : Int), AV.int Go.IntKind.i64 (5 : Int), AV.str [(120 : UInt8)]],
                [AV.int Go.IntKind.i64 (2 : Int), AV.int Go.IntKind.i64 (0 : Int), AV.int Go.IntKind.i64 (0 : Int), AV.int Go.IntKind.i64 (0 : Int), AV.int Go.IntKind.i64 (0 : Int), AV.str []],
                [AV.int Go.IntKind.i64 (1 : Int), AV.int Go.IntKind.i64 (1 : Int), AV.int Go.IntKind.i64 (0 : Int), AV.int Go.IntKind.i64 (0 : Int), AV.int Go.IntKind.i64 (6 : Int), AV.str []],
                [AV.int Go.IntKind.i64 (1 : Int), AV.int Go.IntKind.i64 (0 : Int), AV.int Go.IntKind.i64 (0 : Int), AV.int Go.IntKind.i64 (0 : Int), AV.int Go.IntKind.i64 (5 : Int), AV.str [(120 : UInt8)]],
                [AV.int Go.IntKind.i64 (3 : Int), AV.int Go.IntKind.i64 (1 : Int), AV.int Go.IntKind.i64 (0 : Int), AV.int Go.IntKind.i64 (0 : Int), AV.int Go.IntKind.i64 (0 : Int), AV.str []]]]
          [] (AV.tup [AV.agg [AV.sl (2 : Nat) b6 none xs7, AV.sl (2 : Nat) b8 none xs9, AV.sl (4 : Nat) b10 none xs11], AV.sl (1 : Nat) b12 none xs13, AV.int Go.IntKind.i64 n14]) [] ∧
        ∃ b15 n16,
          Good PG nG G0 f_story_Of [AV.agg [AV.sl (2 : Nat) b6 none xs7, AV.sl (2 : Nat) b8 none xs9, AV.sl (4 : Nat) b10 none xs11], AV.int Go.IntKind.i64 (0 : Int), AV.int Go.IntKind.i64 (1 : Int)] []
              (AV.tup [AV.bool b15, AV.int Go.IntKind.i64 n16]) [] ∧
            ∃ b17 n18,
              Good PG nG G0 f_story_Of [AV.agg [AV.sl (2 : Nat) b6 none xs7, AV.sl (2 : Nat) b8 none xs9, AV.sl (4 : Nat) b10 none xs11], AV.int Go.IntKind.i64 (0 : Int), AV.int Go.IntKind.i64 (0 : Int)] []
                  (AV.tup [AV.bool b17, AV.int Go.IntKind.i64 n18]) [] ∧
                ∃ n19 n20,
                  Good PG nG G0 f_story_Split [AV.agg [AV.sl (2 : Nat) b6 none xs7, AV.sl (2 : Nat) b8 none xs9, AV.sl (4 : Nat) b10 none xs11]] [] (AV.tup [AV.int Go.IntKind.i64 n19, AV.int Go.IntKind.i64 n20]) [] ∧
                    ∃ b21 n22,
                      Good PG nG G0 f_story_Of [AV.agg [AV.sl (2 : Nat) b6 none xs7, AV.sl (2 : Nat) b8 none xs9, AV.sl (4 : Nat) b10 none xs11], AV.int Go.IntKind.i64 (3 : Int), AV.int Go.IntKind.i64 (0 : Int)] []
                          (AV.tup [AV.bool b21, AV.int Go.IntKind.i64 n22]) [] ∧
                        ifK (n14 == (0 : Int))
                          (ifK (n16 == (0 : Int))
                            (ifK (n18 == (0 : Int))
                              (ifK (n20 == (0 : Int)) (ifK (n22 == (5 : Int)) (ifK b15 (ifK (!b17) (R (AV.bool (n19 == (1 : Int))) []) (R (AV.bool false) [])) (R (AV.bool false) [])) (R (AV.bool false) [])) (R (AV.bool false) []))
                              (R (AV.bool false) []))
                            (R (AV.bool false) []))
                          (R (AV.bool false) [])) :
  Hold (runF PG ty nG G0 an_greatseallaw_telling f_greatseallaw_telling [] [] R) := kshow h (by kernel_rfl)

end Go.Ab

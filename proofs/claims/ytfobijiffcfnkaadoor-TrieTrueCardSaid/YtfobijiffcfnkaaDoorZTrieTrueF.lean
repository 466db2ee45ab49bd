/- What a proof of TrieTrue leans on (6): Contracts: seals of keys, row by row; maps held together; the closed fact; Books and their heads, in plain words; Contracts: the laws of what keys come to; What the runs come to; Contracts: more laws of what keys come to; no condition. -/
import Derived.Test.YtfobijiffcfnkaaDoorZTrieTrueE
namespace Go.Ab
open Go.Proofs Go.Gs
variable {G0 : Nat → Option Obj}

/-- The first seals of 2^d keys each. -/
def rowP (f : Nat → Option By) (d k : Nat) : List By := (List.range k).map fun j => (tTrie f d (j * 2 ^ d)).1

theorem rowP_succ (f : Nat → Option By) (d k : Nat) : rowP f d (k + 1) = rowP f d k ++ [(tTrie f d (k * 2 ^ d)).1] := by simp [rowP, List.range_succ]
theorem rowP_len (f : Nat → Option By) (d k : Nat) : (rowP f d k).length = k := by simp [rowP]
theorem rowP_get {f : Nat → Option By} {d k j : Nat} (h : j < k) : ((rowP f d k).map S1)[j]? = some [.str (tTrie f d (j * 2 ^ d)).1] := by
  rw [List.getElem?_map, rowP, List.getElem?_map, List.getElem?_range h]; rfl

/-- A row, as a value; the rows. -/
def rowA (f : Nat → Option By) (d : Nat) : List AV := [.sl 1 false none ((rowP f d (2 ^ (4 - d))).map S1)]
def rowsA (f : Nat → Option By) (d : Nat) : List (List AV) := (List.range d).map (rowA f)

theorem rowsA_succ (f : Nat → Option By) (d : Nat) : rowsA f (d + 1) = rowsA f d ++ [rowA f d] := by simp [rowsA, List.range_succ]
theorem rowsA_len (f : Nat → Option By) (d : Nat) : (rowsA f d).length = d := by simp [rowsA]

/-- Every row, from one on. -/
theorem roots_loop (hG : GlobOk G0) (f : Nat → Option By) (hf : GoodV f) {R : AV → List (Option Blk) → Prop} (hR : R (.sl 1 false none (rowsA f 5)) []) :
    ∀ (n d : Nat), 4 - d ≤ n → d ≤ 4 → Does PG nG G0 (fnOf PG f_greatsealref_MapRoots) 0 (lp PG f_greatsealref_MapRoots 1)
      (mkT 67 [(3, .sl 1 false (some 0) ((rowP f d (2 ^ (4 - d))).map S1)), (8, .sl 1 false (some 1) (rowsA f (d + 1)))]) [some (.grow 1 (2 ^ (4 - d))), some (.grow 1 (d + 1))] R := by
  intro n
  induction n with
  | zero =>
    intro d h1 h2
    obtain rfl : d = 4 := by omega
    refine does_of_run prOk (greatsealref_MapRoots_l1_run G0 _ _ _ _ _ _ R ?_)
    simp only [ifK_iff, decide_eq_true_eq, decide_eq_false_iff_not, List.length_map, rowP_len]
    exact ⟨fun h => absurd h (by decide), fun _ => hR⟩
  | succ n ih =>
    intro d h1 h2
    by_cases h4 : d = 4
    · exact ih d (by omega) h2
    · have hp2 : (2 : Nat) ^ (4 - d) = 2 ^ (4 - (d + 1)) + 2 ^ (4 - (d + 1)) := by
        have : 4 - d = 4 - (d + 1) + 1 := by omega
        rw [this, Nat.pow_succ]; omega
      have hp1 := pow_small (d := 4 - (d + 1)) (by omega)
      generalize hH : (2 : Nat) ^ (4 - (d + 1)) = H at hp2 hp1
      refine does_of_run prOk (greatsealref_MapRoots_l1_run G0 _ _ _ _ _ _ R ?_)
      simp only [ifK_iff, decide_eq_true_eq, decide_eq_false_iff_not, List.length_map, rowP_len]
      refine ⟨fun _ => ?_, fun h => absurd (show ((2 ^ (4 - d) : Nat) : Int) > 1 by rw [hp2]; omega) h⟩
      -- the next row
      have inner : ∀ (m k : Nat), H - k ≤ m → k ≤ H → Does PG nG G0 (fnOf PG f_greatsealref_MapRoots) 0 (lp PG f_greatsealref_MapRoots 2)
          (mkT 67 [(3, .sl 1 false (some 0) ((rowP f d (2 ^ (4 - d))).map S1)), (8, .sl 1 false (some 1) (rowsA f (d + 1))), (9, .sl 1 (k == 0) (some 2) ((rowP f (d + 1) k).map S1)), (10, .int .i64 ((2 * k : Nat) : Int))])
          [some (.grow 1 (2 ^ (4 - d))), some (.grow 1 (d + 1)), some (.grow 1 k)] R := by
        have fin : ∀ k : Nat, k = H → Does PG nG G0 (fnOf PG f_greatsealref_MapRoots) 0 (lp PG f_greatsealref_MapRoots 2)
            (mkT 67 [(3, .sl 1 false (some 0) ((rowP f d (2 ^ (4 - d))).map S1)), (8, .sl 1 false (some 1) (rowsA f (d + 1))), (9, .sl 1 (k == 0) (some 2) ((rowP f (d + 1) k).map S1)), (10, .int .i64 ((2 * k : Nat) : Int))])
            [some (.grow 1 (2 ^ (4 - d))), some (.grow 1 (d + 1)), some (.grow 1 k)] R := by
          intro k hk
          subst hk
          refine does_of_run prOk (greatsealref_MapRoots_l2_run G0 _ _ _ _ _ _ _ _ _ _ R ?_)
          simp only [ifK_iff, decide_eq_true_eq, decide_eq_false_iff_not, List.length_map, rowP_len, rowsA_len]
          refine ⟨fun h => absurd h (by rw [hp2]; omega), fun _ => ⟨by simp; omega, trivial, ?_⟩⟩
          have := ih (d + 1) (by omega) (by omega)
          rw [hH, rowsA_succ, rowA, hH] at this
          have e0 : (k == 0) = false := by simp; omega
          rw [e0]
          exact this
        intro m
        induction m with
        | zero => intro k g1 g2; exact fin k (by omega)
        | succ m ihm =>
          intro k g1 g2
          by_cases hk : k = H
          · exact fin k hk
          · have hget1 : ((rowP f d (2 ^ (4 - d))).map S1)[2 * k]? = some [.str (tTrie f d (2 * k * 2 ^ d)).1] := rowP_get (by omega)
            have hget2 : ((rowP f d (2 ^ (4 - d))).map S1)[2 * k + 1]? = some [.str (tTrie f d ((2 * k + 1) * 2 ^ d)).1] := rowP_get (by omega)
            have hn := tTrie_node hf (d := d) (i := 2 * k * 2 ^ d) (by omega)
            have e1 : (2 * k + 1) * 2 ^ d = 2 * k * 2 ^ d + 2 ^ d := by rw [Nat.add_mul, Nat.one_mul]
            have e2 : 2 * k * 2 ^ d = k * 2 ^ (d + 1) := by rw [Nat.pow_succ, Nat.mul_comm 2 k, Nat.mul_assoc, Nat.mul_comm 2]
            have b1 := (tTrie_good hf d (2 * k * 2 ^ d) (by omega)).2
            have b2 := (tTrie_good hf d (2 * k * 2 ^ d + 2 ^ d) (by omega)).2
            have hb : bnd d ≤ 1173 := by
              have : d = 0 ∨ d = 1 ∨ d = 2 ∨ d = 3 := by omega
              rcases this with rfl | rfl | rfl | rfl <;> decide
            rw [e1] at hget2
            have hg := good_NodeOf hG (tTrie f d (2 * k * 2 ^ d)).1 (tTrie f d (2 * k * 2 ^ d + 2 ^ d)).1 (by omega) (by omega)
            rw [hn] at hg
            refine does_of_run prOk (greatsealref_MapRoots_l2_run G0 _ _ _ _ _ _ _ _ _ _ R ?_)
            simp only [ifK_iff, decide_eq_true_eq, decide_eq_false_iff_not, List.length_map, rowP_len]
            have w1 : IntKind.i64.wrap (((2 * k : Nat) : Int) + 1) = ((2 * k + 1 : Nat) : Int) := by rw [wrapN (by omega) (by omega)]; omega
            have w2 : IntKind.i64.wrap (((2 * k : Nat) : Int) + 2) = ((2 * (k + 1) : Nat) : Int) := by rw [wrapN (by omega) (by omega)]; omega
            rw [w1, w2, Int.toNat_natCast, Int.toNat_natCast]
            refine ⟨fun _ => ⟨by omega, _, hget1, by omega, _, hget2, _, _, hg, by simp; omega, trivial, ?_⟩, fun h => absurd (show ((2 * k : Nat) : Int) < ((2 ^ (4 - d) : Nat) : Int) by rw [hp2]; omega) h⟩
            have := ihm (k + 1) (by omega) (by omega)
            rw [rowP_succ, List.map_append, ← e2] at this
            simp only [List.isEmpty_cons, Bool.and_false]
            exact this
      exact inner H 0 (by omega) (by omega)

theorem good_MapRoots (hG : GlobOk G0) (m : Mp) (nl : Bool) (hc : checkM m = 0) : Good PG nG G0 f_greatsealref_MapRoots [.mp nl (m.map KV)] [] (.sl 1 false none (rowsA (fM m) 5)) [] := by
  have hf := fM_good hc
  refine good_of_run prOk (by kernel_rfl) (greatsealref_MapRoots_run nl _ G0 _ ?_)
  suffices main : ∀ R : AV → List (Option Blk) → Prop, R (.sl 1 false none (rowsA (fM m) 5)) [] → ∀ (d k : Nat), 16 - k ≤ d → k ≤ 16 →
      Does PG nG G0 (fnOf PG f_greatsealref_MapRoots) 0 (lp PG f_greatsealref_MapRoots 0) (mkT 67 [(0, .mp nl (m.map KV)), (3, .sl 1 (k == 0) (some 0) ((rowP (fM m) 0 k).map S1)), (13, .int .i64 k)]) [some (.grow 1 k)] R from
    main _ ⟨rfl, rfl⟩ 16 0 (by omega) (by omega)
  intro R hR d
  have last : ∀ k : Nat, k = 16 → Does PG nG G0 (fnOf PG f_greatsealref_MapRoots) 0 (lp PG f_greatsealref_MapRoots 0) (mkT 67 [(0, .mp nl (m.map KV)), (3, .sl 1 (k == 0) (some 0) ((rowP (fM m) 0 k).map S1)), (13, .int .i64 k)]) [some (.grow 1 k)] R := by
    intro k hk
    subst hk
    refine does_of_run prOk (greatsealref_MapRoots_l0_run G0 _ _ _ _ _ _ R ?_)
    simp only [ifK_iff, decide_eq_true_eq, decide_eq_false_iff_not]
    exact ⟨fun h => absurd h (by decide), fun _ => roots_loop hG (fM m) hf hR 4 0 (by omega) (by omega)⟩
  induction d with
  | zero => intro k h1 h2; exact last k (by omega)
  | succ d ih =>
    intro k h1 h2
    by_cases h16 : k = 16
    · exact last k h16
    · refine does_of_run prOk (greatsealref_MapRoots_l0_run G0 _ _ _ _ _ _ R ?_)
      simp only [ifK_iff, decide_eq_true_eq, decide_eq_false_iff_not, List.length_map, rowP_len]
      rw [wrapN (by omega) (by omega)]
      have ih' := ih (k + 1) (by omega) (by omega)
      rw [rowP_succ, List.map_append] at ih'
      have e0 : k * 2 ^ 0 = k := by simp
      rw [e0] at ih'
      refine ⟨fun _ => ⟨_, _, mlookD_KV m k, fun hs => ⟨_, _, good_LeafOf _, by simp; omega, trivial, ?_⟩, fun hs => ⟨by omega, trivial, ?_⟩⟩, fun h => absurd (show (k : Int) < 16 by omega) h⟩
      · obtain ⟨v, hv⟩ := Option.isSome_iff_exists.1 hs
        have ht : (tTrie (fM m) 0 k).1 = (tLeaf ((mGet m k).getD [])).1 := by rw [tTrie, fM, hv]; rfl
        rw [ht] at ih'
        simp only [List.isEmpty_cons, Bool.and_false]
        exact ih'
      · have hv : mGet m k = none := by simpa using hs
        have ht : (tTrie (fM m) 0 k).1 = [69] := by rw [tTrie, fM, hv]; rfl
        rw [ht] at ih'
        simp only [Bool.and_false]
        exact ih'

theorem xor_one : ∀ (key : Fin 16) (k : Fin 4), IntKind.i64.wrap (((BitVec.ofInt 64 (Int.fdiv ((key.val : Nat) : Int) ((2 : Int) ^ min k.val 64)) ^^^ BitVec.ofInt 64 1).toNat : Nat) : Int) = ((sib k.val key.val / 2 ^ k.val : Nat) : Int) ∧
    sib k.val key.val / 2 ^ k.val * 2 ^ k.val = sib k.val key.val ∧ sib k.val key.val / 2 ^ k.val < 2 ^ (4 - k.val) := by decide +kernel

theorem good_MapPath (hG : GlobOk G0) (m : Mp) (nl : Bool) (hc : checkM m = 0) (key : Nat) (hk : key < 16) :
    Good PG nG G0 f_greatsealref_MapPath [.mp nl (m.map KV), .int .i64 key] [] (.sl 1 false none ((triePath (fM m) key 4).map S1)) [] := by
  refine good_of_run prOk (by kernel_rfl) (greatsealref_MapPath_run nl _ _ G0 _ ⟨_, _, good_MapRoots hG m nl hc, ?_⟩)
  suffices main : ∀ R : AV → List (Option Blk) → Prop, R (.sl 1 false none ((triePath (fM m) key 4).map S1)) [] → ∀ (d k : Nat), 4 - k ≤ d → k ≤ 4 →
      Does PG nG G0 (fnOf PG f_greatsealref_MapPath) 0 (lp PG f_greatsealref_MapPath 0) (mkT 28 [(1, .int .i64 key), (5, .sl 1 false none (rowsA (fM m) 5)), (6, .sl 1 (k == 0) (some 0) ((triePath (fM m) key k).map S1)), (10, .int .i64 k)]) [some (.grow 1 k)] R from
    main _ ⟨rfl, rfl⟩ 4 0 (by omega) (by omega)
  intro R hR d
  have last : ∀ k : Nat, k = 4 → Does PG nG G0 (fnOf PG f_greatsealref_MapPath) 0 (lp PG f_greatsealref_MapPath 0) (mkT 28 [(1, .int .i64 key), (5, .sl 1 false none (rowsA (fM m) 5)), (6, .sl 1 (k == 0) (some 0) ((triePath (fM m) key k).map S1)), (10, .int .i64 k)]) [some (.grow 1 k)] R := by
    intro k h4
    subst h4
    refine does_of_run prOk (greatsealref_MapPath_l0_run G0 _ _ _ _ _ _ _ R ?_)
    simp only [ifK_iff, decide_eq_true_eq, decide_eq_false_iff_not]
    exact ⟨fun h => absurd h (by decide), fun _ => hR⟩
  induction d with
  | zero => intro k h1 h2; exact last k (by omega)
  | succ d ih =>
    intro k h1 h2
    by_cases h4 : k = 4
    · exact last k h4
    · refine does_of_run prOk (greatsealref_MapPath_l0_run G0 _ _ _ _ _ _ _ R ?_)
      obtain ⟨x1, x2, x3⟩ := xor_one ⟨key, hk⟩ ⟨k, by omega⟩
      simp only at x1 x2 x3
      rw [Int.toNat_natCast, x1, Int.toNat_natCast]
      simp only [ifK_iff, decide_eq_true_eq, decide_eq_false_iff_not, List.length_map, triePath_len]
      rw [wrapN (by omega) (by omega)]
      have hrow : (rowsA (fM m) 5)[k]? = some [.sl 1 false none ((rowP (fM m) k (2 ^ (4 - k))).map S1)] := by
        rw [rowsA, List.getElem?_map, List.getElem?_range (by omega)]; rfl
      have hget := rowP_get (f := fM m) (d := k) x3
      rw [x2] at hget
      refine ⟨fun _ => ⟨by omega, _, _, hrow, by omega, Int.natCast_nonneg _, _, hget, by simp; omega, trivial, ?_⟩, fun h => absurd (show (k : Int) < 4 by omega) h⟩
      have := ih (k + 1) (by omega) (by omega)
      rw [triePath_succ, List.map_append] at this
      simp only [List.isEmpty_cons, Bool.and_false]
      exact this

theorem all_erase {m : Mp} {f : Int × By → Bool} {i : Nat} {p : Int × By} (h : m[i]? = some p) (hf : f p = true) : (m.eraseIdx i).all f = m.all f := by
  induction m generalizing i with
  | nil => simp at h
  | cons q r ih =>
    cases i with
    | zero =>
      simp at h
      subst h
      simp [hf]
    | succ i =>
      simp only [List.eraseIdx_cons_succ, List.all_cons]
      rw [ih (by simpa using h)]

theorem good_mapsEqual (m o : Mp) (nm no : Bool) : Good PG nG G0 f_maps_Equal_string [.mp nm (m.map KV), .mp no (o.map KV)] [] (.bool (mEq m o)) [] := by
  refine good_of_run prOk (by kernel_rfl) (maps_Equal_string_run nm _ no _ G0 _ ?_)
  simp only [ifK_iff, bne_iff_ne, ne_eq, bne_eq_false_iff_eq, List.length_map]
  refine ⟨fun h => ⟨?_, trivial⟩, fun h => ?_⟩
  · have : mEq m o = false := by unfold mEq; simp; omega
    rw [this]
  · have hm : mEq m o = m.all fun p => mGet o p.1 == some p.2 := by
      unfold mEq
      have : (m.length == o.length) = true := by simp; omega
      rw [this, Bool.true_and]
    rw [hm]
    suffices main : ∀ R : AV → List (Option Blk) → Prop, ∀ (n : Nat) (q : Mp), q.length ≤ n → R (.bool (q.all fun p => mGet o p.1 == some p.2)) [] →
        Does PG nG G0 (fnOf PG f_maps_Equal_string) 0 (lp PG f_maps_Equal_string 0) (mkT 34 [(1, .mp no (o.map KV)), (15, .iter 0)]) [some (.iter (q.map KV) none)] R from main _ _ m (Nat.le_refl _) ⟨rfl, rfl⟩
    intro R n
    induction n with
    | zero =>
      intro q hn hR
      obtain rfl : q = [] := List.eq_nil_of_length_eq_zero (by omega)
      exact does_of_run prOk (maps_Equal_string_l0_run G0 _ _ _ R ⟨fun i p h => by simp at h, fun _ => by simpa using hR, fun i n s h => by simp at h⟩)
    | succ n ih =>
      intro q hn hR
      refine does_of_run prOk (maps_Equal_string_l0_run G0 _ _ _ R ⟨KV_is q, fun h => ?_, fun i k s h => ⟨_, _, mlookD_KV o k, ?_⟩⟩)
      · have : q = [] := by simpa using h
        subst this
        simpa using hR
      · have h := KV_get h
        have hq := List.mem_of_getElem? h
        simp only [ifK_iff, Bool.not_eq_true', Bool.not_eq_false']
        have bad : (mGet o k == some s) = false → R (.bool false) [] := fun hb => by
          have : (q.all fun p => mGet o p.1 == some p.2) = false := by
            rw [List.all_eq_false]; exact ⟨_, hq, by simpa using hb⟩
          rw [this] at hR; exact hR
        refine ⟨fun h1 => bad ?_, fun h1 => ⟨fun h2 => bad ?_, fun h2 => ?_⟩⟩
        · cases hg : mGet o k with
          | none => rfl
          | some v => rw [hg] at h1; cases h1
        · obtain ⟨v, hv⟩ := Option.isSome_iff_exists.1 h1
          rw [hv] at h2 ⊢
          simp only [Option.getD_some] at h2
          have : s ≠ v := by simpa using h2
          simp; exact fun e => this e.symm
        · obtain ⟨v, hv⟩ := Option.isSome_iff_exists.1 h1
          rw [hv] at h2
          simp only [Option.getD_some] at h2
          have : s = v := by simpa using h2
          subst this
          rw [KV_erase]
          refine ih _ (by have := len_erase h; omega) ?_
          rw [all_erase h (by simp [hv])]
          exact hR
end Go.Ab

namespace Go.Gs

abbrev En := Int × By
abbrev Bk := List En

/-- The text of an entry. -/
def textE (e : En) : By := Lib.itoa e.1 ++ 32 :: e.2

def badE (e : En) : Int := if e.1 < 0 ∨ 16 ≤ e.1 then 5 else if 12 < e.2.length then 2 else 0

def firstBad : Bk → Int
  | [] => 0
  | e :: r => if badE e ≠ 0 then badE e else firstBad r

def checkB (b : Bk) : Int := if 24 < b.length then 2 else firstBad b

theorem firstBad_ok {b : Bk} (h : firstBad b = 0) : ∀ e ∈ b, 0 ≤ e.1 ∧ e.1 < 16 ∧ e.2.length ≤ 12 := by
  induction b with
  | nil => intro e he; cases he
  | cons x r ih =>
    unfold firstBad at h
    split at h
    · rename_i hb; exact absurd h hb
    · rename_i hb
      intro e he
      rcases List.mem_cons.1 he with rfl | he
      · unfold badE at hb
        split at hb
        · simp at hb
        · split at hb
          · simp at hb
          · omega
      · exact ih h e he

theorem firstBad_mk {b : Bk} (h : ∀ e ∈ b, 0 ≤ e.1 ∧ e.1 < 16 ∧ e.2.length ≤ 12) : firstBad b = 0 := by
  induction b with
  | nil => rfl
  | cons x r ih =>
    have hx := h x (by simp)
    have : badE x = 0 := by unfold badE; rw [if_neg (by omega), if_neg (by omega)]
    unfold firstBad
    rw [if_neg (by rw [this]; simp)]
    exact ih fun e he => h e (by simp [he])

theorem checkB_ok {b : Bk} (h : checkB b = 0) : b.length ≤ 24 ∧ ∀ e ∈ b, 0 ≤ e.1 ∧ e.1 < 16 ∧ e.2.length ≤ 12 := by
  unfold checkB at h
  split at h
  · cases h
  · exact ⟨by omega, firstBad_ok h⟩

theorem checkB_mk {b : Bk} (h0 : b.length ≤ 24) (h : ∀ e ∈ b, 0 ≤ e.1 ∧ e.1 < 16 ∧ e.2.length ≤ 12) : checkB b = 0 := by
  unfold checkB
  rw [if_neg (by omega)]
  exact firstBad_mk h

theorem checkB_take {b : Bk} (h : checkB b = 0) (n : Nat) : checkB (b.take n) = 0 := by
  obtain ⟨h1, h2⟩ := checkB_ok h
  exact checkB_mk (by simp only [List.length_take]; omega) fun e he => h2 e (List.mem_of_mem_take he)

/-- Texts of all entries. -/
def textsOf (b : Bk) : List By := b.map textE

/-- Values behind all entries. -/
def valsOf (b : Bk) : Mp := b.foldl (fun m e => mPut m e.1 e.2) []

theorem valsOf_snoc (b : Bk) (e : En) : valsOf (b ++ [e]) = mPut (valsOf b) e.1 e.2 := by simp [valsOf]

theorem valsOf_nodup (b : Bk) : ((valsOf b).map (·.1)).Nodup := by
  have key : ∀ (b : Bk) (m : Mp), (m.map (·.1)).Nodup → ((b.foldl (fun m e => mPut m e.1 e.2) m).map (·.1)).Nodup := by
    intro b
    induction b with
    | nil => intro m h; exact h
    | cons e r ih => intro m h; exact ih _ (mPut_nodup h _ _)
  exact key b [] (by simp)

theorem mPut_mem {m : Mp} {k : Int} {v : By} {p : Int × By} (h : p ∈ mPut m k v) : p = (k, v) ∨ p ∈ m := by
  induction m with
  | nil => simp [mPut] at h; exact .inl h
  | cons q r ih =>
    unfold mPut at h
    split at h
    · rcases List.mem_cons.1 h with h | h
      · exact .inl h
      · exact .inr (by simp [h])
    · rcases List.mem_cons.1 h with h | h
      · exact .inr (by simp [h])
      · rcases ih h with h | h
        · exact .inl h
        · exact .inr (by simp [h])

theorem valsOf_mem {b : Bk} {p : Int × By} (h : p ∈ valsOf b) : p ∈ b := by
  have key : ∀ (b : Bk) (m : Mp), p ∈ b.foldl (fun m e => mPut m e.1 e.2) m → p ∈ b ∨ p ∈ m := by
    intro b
    induction b with
    | nil => intro m h; exact .inr h
    | cons e r ih =>
      intro m h
      rcases ih _ h with h | h
      · exact .inl (by simp [h])
      · rcases mPut_mem h with h | h
        · exact .inl (by simp [h])
        · exact .inr h
  rcases key b [] h with h | h
  · exact h
  · cases h

theorem valsOf_check {b : Bk} (h : checkB b = 0) : checkM (valsOf b) = 0 := checkM_mk fun p hp => (checkB_ok h).2 p (valsOf_mem hp)

theorem valsOf_len (b : Bk) : (valsOf b).length ≤ b.length := by
  have key : ∀ (b : Bk) (m : Mp), (b.foldl (fun m e => mPut m e.1 e.2) m).length ≤ m.length + b.length := by
    intro b
    induction b with
    | nil => intro m; exact Nat.le_refl _
    | cons e r ih =>
      intro m
      have := ih (mPut m e.1 e.2)
      rw [mPut_len] at this
      simp only [List.foldl_cons, List.length_cons]
      split at this <;> omega
  have := key b []
  simpa [valsOf] using this

/-- Texts of a book's entries are short, so that its seal is good. -/
theorem decDigits_small {u : Nat} (h : u < 100) : (Lib.decDigits u).length ≤ 2 := by
  rw [Lib.decDigits]
  split
  · simp
  · rw [Lib.decDigits, dif_pos (by omega)]; simp

theorem decDigits_len4 {u : Nat} (h : u < 100000) : (Lib.decDigits u).length ≤ 5 := by
  have step : ∀ (u k : Nat), (Lib.decDigits (u / 10)).length ≤ k → (Lib.decDigits u).length ≤ k + 1 := by
    intro u k h
    rw [Lib.decDigits]
    split
    · simp
    · simp only [List.length_append, List.length_cons, List.length_nil]; omega
  exact step u 4 (step _ 3 (step _ 2 (decDigits_small (by omega))))

theorem textE_len {e : En} (h : 0 ≤ e.1 ∧ e.1 < 16 ∧ e.2.length ≤ 12) : (textE e).length ≤ 15 := by
  unfold textE
  have he : e.1 = ((e.1.toNat : Nat) : Int) := by omega
  rw [he, itoa_nat]
  have := decDigits_small (u := e.1.toNat) (by omega)
  simp only [List.length_append, List.length_cons]; omega

theorem tRoot_short : ∀ (n : Nat) (l : List By), l.length ≤ n → n ≤ 24 → (∀ s ∈ l, s.length ≤ 15) → (tRoot l).2 = 0 ∧ (tRoot l).1.length + 7 ≤ 23 * (max 1 l.length) := by
  intro n
  induction n with
  | zero =>
    intro l h _ _
    have : l = [] := List.eq_nil_of_length_eq_zero (by omega)
    subst this
    rw [tRoot_zero rfl]; exact ⟨rfl, by simp⟩
  | succ n ih =>
    intro l hn hb hs
    rcases Nat.lt_or_ge l.length 2 with h2 | h2
    · rcases Nat.lt_or_ge l.length 1 with h1 | h1
      · have : l = [] := List.eq_nil_of_length_eq_zero (by omega)
        subst this
        rw [tRoot_zero rfl]; exact ⟨rfl, by simp⟩
      · obtain ⟨s, rfl⟩ := List.length_eq_one_iff.1 (show l.length = 1 by omega)
        have := hs s (by simp)
        have hlf : tLeaf s = (76 :: s, 0) := by unfold tLeaf; rw [if_neg (by omega)]
        rw [tRoot_one rfl, List.headD_cons, hlf]
        refine ⟨rfl, ?_⟩
        simp only [List.length_cons, List.length_nil]; omega
    · have hk1 := halfN_pos l.length
      have hk2 := halfN_lt h2
      obtain ⟨a1, a2⟩ := ih (l.take (halfN l.length)) (by simp only [List.length_take]; omega) (by omega) fun s h => hs s (List.mem_of_mem_take h)
      obtain ⟨b1, b2⟩ := ih (l.drop (halfN l.length)) (by simp only [List.length_drop]; omega) (by omega) fun s h => hs s (List.mem_of_mem_drop h)
      simp only [List.length_take, List.length_drop] at a2 b2
      have c := decDigits_len4 (u := (tRoot (l.take (halfN l.length))).1.length) (by omega)
      rw [tRoot_two h2, if_neg (by simpa using a1), if_neg (by simpa using b1)]
      unfold tNode
      rw [if_neg (by omega), itoa_nat]
      refine ⟨rfl, ?_⟩
      simp only [List.length_cons, List.length_append]
      omega

theorem texts_good {b : Bk} (h : checkB b = 0) : (tRoot (textsOf b)).2 = 0 ∧ (tRoot (textsOf b)).1.length ≤ 545 := by
  obtain ⟨h1, h2⟩ := checkB_ok h
  have hl : (textsOf b).length = b.length := by simp [textsOf]
  have := tRoot_short _ (textsOf b) (Nat.le_refl _) (by omega) fun s hs => by
    obtain ⟨e, he, rfl⟩ := List.mem_map.1 hs
    exact textE_len (h2 e he)
  exact ⟨this.1, by omega⟩

theorem textE_inj {e f : En} (he : 0 ≤ e.1) (hf : 0 ≤ f.1) (h : textE e = textE f) : e = f := by
  unfold textE at h
  have e1 : e.1 = ((e.1.toNat : Nat) : Int) := by omega
  have f1 : f.1 = ((f.1.toNat : Nat) : Int) := by omega
  rw [e1, f1, itoa_nat, itoa_nat] at h
  have no : ∀ n : Nat, (32 : UInt8) ∉ Lib.decDigits n := fun n hc => by
    have := dec_digit n _ hc
    simp at this
  obtain ⟨h1, h2⟩ := split_first (no _) (no _) h
  have := dec_inj h1
  exact Prod.ext (by omega) h2

theorem textsOf_inj : ∀ {b c : Bk}, (∀ e ∈ b, 0 ≤ e.1) → (∀ e ∈ c, 0 ≤ e.1) → textsOf b = textsOf c → b = c
  | [], [], _, _, _ => rfl
  | [], _ :: _, _, _, h => by simp [textsOf] at h
  | _ :: _, [], _, _, h => by simp [textsOf] at h
  | e :: b, f :: c, hb, hc, h => by
    simp only [textsOf, List.map_cons, List.cons.injEq] at h
    rw [textE_inj (hb e (by simp)) (hc f (by simp)) h.1, textsOf_inj (fun e he => hb e (by simp [he])) (fun e he => hc e (by simp [he])) h.2]

/-- A head. -/
structure Hd where
  n : Int
  log : By
  mp : By
  deriving DecidableEq, Inhabited

def hd0 : Hd := ⟨0, [], []⟩

/-- The head of a book. -/
def headOf (b : Bk) : Hd × Int := if checkB b ≠ 0 then (hd0, checkB b) else (⟨b.length, (tRoot (textsOf b)).1, (mapRoot (valsOf b)).1⟩, 0)

theorem headOf_ok {b : Bk} (h : checkB b = 0) : headOf b = (⟨b.length, (tRoot (textsOf b)).1, (mapRoot (valsOf b)).1⟩, 0) := by rw [headOf, if_neg (by simpa using h)]
theorem headOf_code (b : Bk) : (headOf b).2 = checkB b := by
  unfold headOf
  split
  · rfl
  · rename_i h; simpa using (show ¬ checkB b ≠ 0 from h) |> fun h => (Decidable.not_not.1 h).symm

theorem mapRoot_len {m : Mp} (h : checkM m = 0) : (mapRoot m).1.length ≤ 1173 := by
  rw [mapRoot_ok h]
  have := (tTrie_good (fM_good h) 4 0 (Nat.le_refl _)).2
  have hb : bnd 4 = 1173 := by decide
  rw [hb] at this
  exact this

/-- NO TWO BOOKS HAVE ONE HEAD. -/
theorem headOf_inj {b c : Bk} (hb : checkB b = 0) (hc : checkB c = 0) : headOf b = headOf c ↔ b = c := by
  constructor
  · intro h
    rw [headOf_ok hb, headOf_ok hc] at h
    have h2 : (tRoot (textsOf b)).1 = (tRoot (textsOf c)).1 := by injection h with h _; injection h
    have := tRoot_inj _ _ _ (Nat.le_refl _) (texts_good hb).1 (texts_good hc).1 h2
    exact textsOf_inj (fun e he => ((checkB_ok hb).2 e he).1) (fun e he => ((checkB_ok hc).2 e he).1) this
  · rintro rfl; rfl

/-- A head may be one. -/
def checkH (h : Hd) : Int := if h.n < 0 ∨ 24 < h.n then 3 else if 20000 < h.log.length ∨ 20000 < h.mp.length then 2 else 0

theorem headOf_check {b : Bk} (h : checkB b = 0) : checkH (headOf b).1 = 0 := by
  rw [headOf_ok h]
  have h1 := (checkB_ok h).1
  have h2 := (texts_good h).2
  have h3 := mapRoot_len (valsOf_check h)
  unfold checkH
  simp only
  rw [if_neg (by omega), if_neg (by omega)]

/-- Put an entry behind all. -/
def putB (b : Bk) (e : En) : Bk × Int := if checkB b ≠ 0 then ([], checkB b) else if checkB (b ++ [e]) ≠ 0 then ([], checkB (b ++ [e])) else (b ++ [e], 0)
end Go.Gs

namespace Go.Ab
open Go.Proofs Go.Gs
variable {G0 : Nat → Option Obj}

theorem good_rooted (hG : GlobOk G0) : Good PG nG G0 f_greatseallaw_rooted [] [] (.bool true) [] := by
  refine good_of_run prOk (by kernel_rfl) (greatseallaw_rooted_run G0 _ ?_)
  have g1 := good_trieRoot hG [(5, [120])] false (by simp)
  have g2 := good_triePath hG [(5, [120])] false (by simp) 4
  have g3 := fun b => good_trieShows hG (mapRoot [(5, [120])]).1 4 [] false b (pathM [(5, [120])] 4).1
  have g4 := fun b => good_trieShows hG (mapRoot [(5, [120])]).1 4 [121] true b (pathM [(5, [120])] 4).1
  have g5 := good_trieCheck (G0 := G0) [(16, [])] false (by simp)
  have e1 : (mapRoot [(5, [120])]).2 = 0 := by decide +kernel
  have e2 : (pathM [(5, [120])] 4).2 = 0 := by decide +kernel
  have e3 : trieShows (mapRoot [(5, [120])]).1 4 [] false (pathM [(5, [120])] 4).1 = 0 := by decide +kernel
  have e4 : trieShows (mapRoot [(5, [120])]).1 4 [121] true (pathM [(5, [120])] 4).1 = 7 := by decide +kernel
  have e5 : checkM [(16, [])] = 5 := by decide +kernel
  have e6 : (pathM [(5, [120])] 4).1[0]? = some [76, 120] := by decide +kernel
  have e7 : (pathM [(5, [120])] 4).1.length = 4 := by decide +kernel
  rw [e1] at g1
  rw [e2] at g2
  rw [e3] at g3
  rw [e4] at g4
  rw [e5] at g5
  refine ⟨_, rfl, _, _, g1, _, _, _, g2, ?_⟩
  have c1 : ((((pathM [(5, [120])] 4).1.map S1).length : Nat) : Int) = 4 := by rw [List.length_map, e7]; rfl
  rw [c1]
  refine ⟨Int.le_refl _, [76, 120], ?_, _, g3 _, _, g4 _, _, rfl, _, g5, rfl, rfl⟩
  rw [List.getElem?_map, e6]; rfl

theorem good_at' (k : Int) (n : Nat) (hn : 0 < n) (h1 : (n : Int) ≤ 1000000000) (h2 : -9223372036854775808 ≤ k ∧ k ≤ 9223372036854775807) : Good PG nG G0 f_greatseallaw_at [.int .i64 k, .int .i64 n] [] (.int .i64 (atN k n)) [] := by
  have := good_at (G0 := G0) k n hn h1 h2
  rwa [← atN_cast k hn] at this

theorem isome_eq {o : Option By} {there : Bool} {value : By} {l p : List By} (h : ¬ (there = false ∧ value ≠ [])) : (there = o.isSome ∧ value = o.getD [] ∧ l = p) ↔ ((if there then some value else none) = o ∧ l = p) := by
  cases there with
  | true => cases o <;> simp
  | false =>
    have : value = [] := by simpa using h
    subst this
    cases o <;> simp

end Go.Ab

namespace Go.Ab
open Go.Proofs
set_option maxRecDepth 100000

def an_greatseallaw_TrieTrue : FAnn := ⟨[], [], none, []⟩
def an_greatseallaw_TrieSays : FAnn := ⟨[], [], none, []⟩
def an_greatseallaw_TrieEach : FAnn := ⟨[], [], none, []⟩
def an_greatseallaw_TrieOne : FAnn := ⟨[], [(0, [0, 2, 3, 9, 13, 54], [])], none, [(14, [0, 1])]⟩

theorem greatseallaw_TrieTrue_run (nlm0 : Bool) (m0 : List (AV × AV)) (key1 : Int) (value2 : List UInt8) (there3 : Bool) (nll4 : Bool) (l4 : List (List AV)) (G0 : Nat → Option Go.Obj) (R : AV → List (Option Blk) → Prop) (h :
  ∃ s0 n1,
  Good PG nG G0 f_trie_Root [AV.mp nlm0 m0] [] (AV.tup [AV.str s0, AV.int Go.IntKind.i64 n1]) [] ∧
    ∃ b2,
      Good PG nG G0 f_greatseallaw_rooted [] [] (AV.bool b2) [] ∧
        ifK (!b2) (∃ b3, Good PG nG G0 f_greatseallaw_rooted [] [] (AV.bool b3) [] ∧ R (AV.bool b3) [])
          (ifK (n1 != (0 : Int)) (∃ b4, Good PG nG G0 f_greatseallaw_rooted [] [] (AV.bool b4) [] ∧ R (AV.bool b4) [])
            (∃ n5,
              Good PG nG G0 f_greatseallaw_at [AV.int Go.IntKind.i64 key1, AV.int Go.IntKind.i64 (16 : Int)] [] (AV.int Go.IntKind.i64 n5) [] ∧
                ∃ s6 b7,
                  mlookD Go.IntKind.i64 n5 (AV.str []) m0 = some (AV.str s6, b7) ∧
                    ∃ n8,
                      Good PG nG G0 f_trie_Shows [AV.str s0, AV.int Go.IntKind.i64 n5, AV.str value2, AV.bool there3, AV.sl (1 : Nat) nll4 none l4] [] (AV.int Go.IntKind.i64 n8) [] ∧
                        ifK (n8 == (0 : Int))
                          (ifK (!there3 == b7) (R (AV.bool false) [])
                            (ifK (!value2 == s6) (R (AV.bool false) [])
                              (∃ b9 xs10 n11,
                                Good PG nG G0 f_trie_Path [AV.mp nlm0 m0, AV.int Go.IntKind.i64 n5] [] (AV.tup [AV.sl (1 : Nat) b9 none xs10, AV.int Go.IntKind.i64 n11]) [] ∧
                                  ifK (n11 != (0 : Int)) (R (AV.bool false) [])
                                    (∃ n12,
                                      Good PG nG G0 f_trie_Shows [AV.str s0, AV.int Go.IntKind.i64 n5, AV.str s6, AV.bool b7, AV.sl (1 : Nat) b9 none xs10] [] (AV.int Go.IntKind.i64 n12) [] ∧
                                        ifK (n12 != (0 : Int)) (R (AV.bool false) [])
                                          (ifK (!there3)
                                            (ifK (!value2 == []) (R (AV.bool true) [])
                                              (∃ n13,
                                                Good PG nG G0 f_trie_Shows [AV.str s0, AV.int Go.IntKind.i64 n5, AV.str value2, AV.bool there3, AV.sl (1 : Nat) b9 none xs10] [] (AV.int Go.IntKind.i64 n13) [] ∧
                                                  ifK (there3 == b7) (R (AV.bool ((n13 == (0 : Int)) == (value2 == s6))) []) (R (AV.bool ((n13 == (0 : Int)) == false)) [])))
                                            (∃ n14,
                                              Good PG nG G0 f_trie_Shows [AV.str s0, AV.int Go.IntKind.i64 n5, AV.str value2, AV.bool there3, AV.sl (1 : Nat) b9 none xs10] [] (AV.int Go.IntKind.i64 n14) [] ∧
                                                ifK (there3 == b7) (R (AV.bool ((n14 == (0 : Int)) == (value2 == s6))) []) (R (AV.bool ((n14 == (0 : Int)) == false)) [])))))))
                          (∃ b15 xs16 n17,
                            Good PG nG G0 f_trie_Path [AV.mp nlm0 m0, AV.int Go.IntKind.i64 n5] [] (AV.tup [AV.sl (1 : Nat) b15 none xs16, AV.int Go.IntKind.i64 n17]) [] ∧
                              ifK (n17 != (0 : Int)) (R (AV.bool false) [])
                                (∃ n18,
                                  Good PG nG G0 f_trie_Shows [AV.str s0, AV.int Go.IntKind.i64 n5, AV.str s6, AV.bool b7, AV.sl (1 : Nat) b15 none xs16] [] (AV.int Go.IntKind.i64 n18) [] ∧
                                    ifK (n18 != (0 : Int)) (R (AV.bool false) [])
                                      (ifK (!there3)
                                        (ifK (!value2 == []) (R (AV.bool true) [])
                                          (∃ n19,
                                            Good PG nG G0 f_trie_Shows [AV.str s0, AV.int Go.IntKind.i64 n5, AV.str value2, AV.bool there3, AV.sl (1 : Nat) b15 none xs16] [] (AV.int Go.IntKind.i64 n19) [] ∧
                                              ifK (there3 == b7) (R (AV.bool ((n19 == (0 : Int)) == (value2 == s6))) []) (R (AV.bool ((n19 == (0 : Int)) == false)) [])))
                                        (∃ n20,
                                          Good PG nG G0 f_trie_Shows [AV.str s0, AV.int Go.IntKind.i64 n5, AV.str value2, AV.bool there3, AV.sl (1 : Nat) b15 none xs16] [] (AV.int Go.IntKind.i64 n20) [] ∧
                                            ifK (there3 == b7) (R (AV.bool ((n20 == (0 : Int)) == (value2 == s6))) []) (R (AV.bool ((n20 == (0 : Int)) == false)) [])))))))) :
  Hold (runF PG ty nG G0 an_greatseallaw_TrieTrue f_greatseallaw_TrieTrue [AV.mp nlm0 m0, AV.int Go.IntKind.i64 key1, AV.str value2, AV.bool there3, AV.sl (1 : Nat) nll4 none l4] [] R) := kshow h (by kernel_rfl)

theorem greatseallaw_TrieSays_run (nlm0 : Bool) (m0 : List (AV × AV)) (key1 : Int) (all2 : List UInt8) (value3 : List UInt8) (there4 : Bool) (nll5 : Bool) (l5 : List (List AV)) (G0 : Nat → Option Go.Obj) (R : AV → List (Option Blk) → Prop) (h :
  ∃ s0 n1,
  Good PG nG G0 f_trie_Root [AV.mp nlm0 m0] [] (AV.tup [AV.str s0, AV.int Go.IntKind.i64 n1]) [] ∧
    ∃ b2 xs3 n4,
      Good PG nG G0 f_trie_Path [AV.mp nlm0 m0, AV.int Go.IntKind.i64 key1] [] (AV.tup [AV.sl (1 : Nat) b2 none xs3, AV.int Go.IntKind.i64 n4]) [] ∧
        ∃ n5,
          Good PG nG G0 f_greatsealref_CheckMap [AV.mp nlm0 m0] [] (AV.int Go.IntKind.i64 n5) [] ∧
            ∃ b6,
              Good PG nG G0 f_greatseallaw_rooted [] [] (AV.bool b6) [] ∧
                ifK (!b6) (R (AV.bool false) [])
                  (∃ n7,
                    Good PG nG G0 f_trie_Check [AV.mp nlm0 m0] [] (AV.int Go.IntKind.i64 n7) [] ∧
                      ifK (n7 != n5) (R (AV.bool false) [])
                        (∃ n8,
                          Good PG nG G0 f_trie_Shows [AV.str all2, AV.int Go.IntKind.i64 key1, AV.str value3, AV.bool there4, AV.sl (1 : Nat) nll5 none l5] [] (AV.int Go.IntKind.i64 n8) [] ∧
                            ∃ n9,
                              Good PG nG G0 f_greatsealref_MapShows [AV.str all2, AV.int Go.IntKind.i64 key1, AV.str value3, AV.bool there4, AV.sl (1 : Nat) nll5 none l5] [] (AV.int Go.IntKind.i64 n9) [] ∧
                                ifK (n8 != n9) (R (AV.bool false) [])
                                  (ifK (n5 != (0 : Int)) (ifK (n1 == n5) (ifK (n4 == n5) (ifK (s0 == []) (R (AV.bool ((↑(List.length xs3) : Int) == (0 : Int))) []) (R (AV.bool false) [])) (R (AV.bool false) [])) (R (AV.bool false) []))
                                    (ifK (n1 != (0 : Int)) (R (AV.bool false) [])
                                      (∃ b10 xs11,
                                        Good PG nG G0 f_greatsealref_MapRoots [AV.mp nlm0 m0] [] (AV.sl (1 : Nat) b10 none xs11) [] ∧
                                          (0 : Int) ≤ (4 : Int) ∧
                                            ∃ b12 xs13,
                                              xs11[(4 : Nat)]? = some [AV.sl (1 : Nat) b12 none xs13] ∧
                                                (0 : Int) ≤ (0 : Int) ∧
                                                  ∃ s14,
                                                    xs13[(0 : Nat)]? = some [AV.str s14] ∧
                                                      ifK (!s0 == s14) (R (AV.bool false) [])
                                                        (ifK (decide (key1 < (0 : Int))) (ifK (n4 == (5 : Int)) (R (AV.bool ((↑(List.length xs3) : Int) == (0 : Int))) []) (R (AV.bool false) []))
                                                          (ifK (decide (key1 > (15 : Int))) (ifK (n4 == (5 : Int)) (R (AV.bool ((↑(List.length xs3) : Int) == (0 : Int))) []) (R (AV.bool false) []))
                                                            (ifK (n4 == (0 : Int))
                                                              (∃ b15 xs16,
                                                                Good PG nG G0 f_greatsealref_MapPath [AV.mp nlm0 m0, AV.int Go.IntKind.i64 key1] [] (AV.sl (1 : Nat) b15 none xs16) [] ∧
                                                                  ∃ b17, Good PG nG G0 f_slices_Equal_string [AV.sl (1 : Nat) b2 none xs3, AV.sl (1 : Nat) b15 none xs16] [] (AV.bool b17) [] ∧ R (AV.bool b17) [])
                                                              (R (AV.bool false) [])))))))))) :
  Hold (runF PG ty nG G0 an_greatseallaw_TrieSays f_greatseallaw_TrieSays [AV.mp nlm0 m0, AV.int Go.IntKind.i64 key1, AV.str all2, AV.str value3, AV.bool there4, AV.sl (1 : Nat) nll5 none l5] [] R) := kshow h (by kernel_rfl)

theorem greatseallaw_TrieEach_run (nlm0 : Bool) (m0 : List (AV × AV)) (i1 : Int) (j2 : Int) (G0 : Nat → Option Go.Obj) (R : AV → List (Option Blk) → Prop) (h :
  ∃ s0 n1,
  Good PG nG G0 f_trie_Root [AV.mp nlm0 m0] [] (AV.tup [AV.str s0, AV.int Go.IntKind.i64 n1]) [] ∧
    ∃ b2,
      Good PG nG G0 f_greatseallaw_rooted [] [] (AV.bool b2) [] ∧
        ifK (!b2) (∃ b3, Good PG nG G0 f_greatseallaw_rooted [] [] (AV.bool b3) [] ∧ R (AV.bool b3) [])
          (ifK (n1 != (0 : Int)) (∃ b4, Good PG nG G0 f_greatseallaw_rooted [] [] (AV.bool b4) [] ∧ R (AV.bool b4) [])
            (∃ n5,
              Good PG nG G0 f_greatseallaw_at [AV.int Go.IntKind.i64 i1, AV.int Go.IntKind.i64 (16 : Int)] [] (AV.int Go.IntKind.i64 n5) [] ∧
                ∃ n6,
                  Good PG nG G0 f_greatseallaw_at [AV.int Go.IntKind.i64 j2, AV.int Go.IntKind.i64 (16 : Int)] [] (AV.int Go.IntKind.i64 n6) [] ∧
                    ∃ b7 xs8 n9,
                      Good PG nG G0 f_trie_Path [AV.mp nlm0 m0, AV.int Go.IntKind.i64 n5] [] (AV.tup [AV.sl (1 : Nat) b7 none xs8, AV.int Go.IntKind.i64 n9]) [] ∧
                        ∃ b10 xs11 n12,
                          Good PG nG G0 f_trie_Path [AV.mp nlm0 m0, AV.int Go.IntKind.i64 n6] [] (AV.tup [AV.sl (1 : Nat) b10 none xs11, AV.int Go.IntKind.i64 n12]) [] ∧
                            ∃ s13 b14,
                              mlookD Go.IntKind.i64 n6 (AV.str []) m0 = some (AV.str s13, b14) ∧
                                ifK (n9 == (0 : Int))
                                  (ifK (n12 == (0 : Int))
                                    (∃ n15,
                                      Good PG nG G0 f_trie_Shows [AV.str s0, AV.int Go.IntKind.i64 n6, AV.str s13, AV.bool b14, AV.sl (1 : Nat) b7 none xs8] [] (AV.int Go.IntKind.i64 n15) [] ∧
                                        ∃ b16, Good PG nG G0 f_slices_Equal_string [AV.sl (1 : Nat) b7 none xs8, AV.sl (1 : Nat) b10 none xs11] [] (AV.bool b16) [] ∧ R (AV.bool ((n15 == (0 : Int)) == b16)) [])
                                    (R (AV.bool false) []))
                                  (R (AV.bool false) [])))) :
  Hold (runF PG ty nG G0 an_greatseallaw_TrieEach f_greatseallaw_TrieEach [AV.mp nlm0 m0, AV.int Go.IntKind.i64 i1, AV.int Go.IntKind.i64 j2] [] R) := kshow h (by kernel_rfl)

theorem greatseallaw_TrieOne_run (nlm0 : Bool) (m0 : List (AV × AV)) (nlo1 : Bool) (o1 : List (AV × AV)) (key2 : Int) (value3 : List UInt8) (G0 : Nat → Option Go.Obj) (R : AV → List (Option Blk) → Prop) (h :
  ∃ s0 n1,
  Good PG nG G0 f_trie_Root [AV.mp nlm0 m0] [] (AV.tup [AV.str s0, AV.int Go.IntKind.i64 n1]) [] ∧
    ∃ s2 n3,
      Good PG nG G0 f_trie_Root [AV.mp nlo1 o1] [] (AV.tup [AV.str s2, AV.int Go.IntKind.i64 n3]) [] ∧
        ∃ b4,
          Good PG nG G0 f_greatseallaw_rooted [] [] (AV.bool b4) [] ∧
            ifK (!b4) (∃ b5, Good PG nG G0 f_greatseallaw_rooted [] [] (AV.bool b5) [] ∧ R (AV.bool b5) [])
              (ifK (n1 != (0 : Int)) (∃ b6, Good PG nG G0 f_greatseallaw_rooted [] [] (AV.bool b6) [] ∧ R (AV.bool b6) [])
                (ifK (n3 == (0 : Int))
                  (∃ b7,
                    Good PG nG G0 f_maps_Equal_string [AV.mp nlm0 m0, AV.mp nlo1 o1] [] (AV.bool b7) [] ∧
                      ifK (!(s0 == s2) == b7) (R (AV.bool false) [])
                        (∃ n8,
                          Good PG nG G0 f_greatseallaw_at [AV.int Go.IntKind.i64 key2, AV.int Go.IntKind.i64 (16 : Int)] [] (AV.int Go.IntKind.i64 n8) [] ∧
                            Does PG nG G0 (fnOf PG f_greatseallaw_TrieOne) (0 : Nat) (lp PG f_greatseallaw_TrieOne (0 : Nat))
                              (mkT (122 : Nat) [((0 : Nat), AV.mp nlm0 m0), ((2 : Nat), AV.int Go.IntKind.i64 n8), ((3 : Nat), AV.str value3), ((9 : Nat), AV.str s0), ((13 : Nat), AV.rmp (0 : Nat)), ((54 : Nat), AV.iter (1 : Nat))])
                              [some (Blk.mp []), some (Blk.iter m0 none)] R))
                  (∃ n9,
                    Good PG nG G0 f_greatseallaw_at [AV.int Go.IntKind.i64 key2, AV.int Go.IntKind.i64 (16 : Int)] [] (AV.int Go.IntKind.i64 n9) [] ∧
                      Does PG nG G0 (fnOf PG f_greatseallaw_TrieOne) (0 : Nat) (lp PG f_greatseallaw_TrieOne (0 : Nat))
                        (mkT (122 : Nat) [((0 : Nat), AV.mp nlm0 m0), ((2 : Nat), AV.int Go.IntKind.i64 n9), ((3 : Nat), AV.str value3), ((9 : Nat), AV.str s0), ((13 : Nat), AV.rmp (0 : Nat)), ((54 : Nat), AV.iter (1 : Nat))])
                        [some (Blk.mp []), some (Blk.iter m0 none)] R)))) :
  Hold (runF PG ty nG G0 an_greatseallaw_TrieOne f_greatseallaw_TrieOne [AV.mp nlm0 m0, AV.mp nlo1 o1, AV.int Go.IntKind.i64 key2, AV.str value3] [] R) := kshow h (by kernel_rfl)

theorem greatseallaw_TrieOne_l0_run (G0 : Nat → Option Obj) (b10 : Bool) (es11 : List (AV × AV)) (n12 : Int) (s13 : List UInt8) (s14 : List UInt8) (es15 : List (AV × AV)) (es16 : List (AV × AV)) (R : AV → List (Option Blk) → Prop) (h :
  (∀ (i : Nat) (p : AV × AV), es16[i]? = some p → ∃ n17 s18, p = (AV.int Go.IntKind.i64 n17, AV.str s18)) ∧
  (es16 = [] →
      (0 : Int) ≤ (0 : Int) ∧
        ((0 : Int) ≤ if (12 : Int) < (↑(List.length s13) : Int) then (12 : Int) else (↑(List.length s13) : Int)) ∧
          (if (12 : Int) < (↑(List.length s13) : Int) then (12 : Int) else (↑(List.length s13) : Int)) ≤ (↑(List.length s13) : Int) ∧
            ∃ xs19,
              mupd Go.IntKind.i64 n12 (AV.str (List.drop (0 : Nat) (List.take (Int.toNat (if (12 : Int) < (↑(List.length s13) : Int) then (12 : Int) else (↑(List.length s13) : Int))) s13))) es15 = some xs19 ∧
                ∃ s20 n21,
                  Good PG nG G0 f_trie_Root [AV.mp false xs19] [] (AV.tup [AV.str s20, AV.int Go.IntKind.i64 n21]) [] ∧
                    ∃ b22 xs23 n24,
                      Good PG nG G0 f_trie_Path [AV.mp b10 es11, AV.int Go.IntKind.i64 n12] [] (AV.tup [AV.sl (1 : Nat) b22 none xs23, AV.int Go.IntKind.i64 n24]) [] ∧
                        ∃ b25 xs26 n27,
                          Good PG nG G0 f_trie_Path [AV.mp false xs19, AV.int Go.IntKind.i64 n12] [] (AV.tup [AV.sl (1 : Nat) b25 none xs26, AV.int Go.IntKind.i64 n27]) [] ∧
                            ∃ s28 b29,
                              mlookD Go.IntKind.i64 n12 (AV.str []) es11 = some (AV.str s28, b29) ∧
                                ifK (n21 == (0 : Int))
                                  (ifK (n24 == (0 : Int))
                                    (ifK (n27 == (0 : Int))
                                      (∃ b30,
                                        Good PG nG G0 f_slices_Equal_string [AV.sl (1 : Nat) b22 none xs23, AV.sl (1 : Nat) b25 none xs26] [] (AV.bool b30) [] ∧
                                          ifK b30 (ifK b29 (∃ s31 b32, mlookD Go.IntKind.i64 n12 (AV.str []) xs19 = some (AV.str s31, b32) ∧ R (AV.bool ((s14 == s20) == (s28 == s31))) []) (R (AV.bool ((s14 == s20) == false)) []))
                                            (R (AV.bool false) []))
                                      (R (AV.bool false) []))
                                    (R (AV.bool false) []))
                                  (R (AV.bool false) [])) ∧
    ∀ (i : Nat) (n : Int) (s : List UInt8),
      es16[i]? = some (AV.int Go.IntKind.i64 n, AV.str s) →
        ∃ xs33,
          mupd Go.IntKind.i64 n (AV.str s) es15 = some xs33 ∧
            Does PG nG G0 (fnOf PG f_greatseallaw_TrieOne) (0 : Nat) (lp PG f_greatseallaw_TrieOne (0 : Nat))
              (mkT (122 : Nat) [((0 : Nat), AV.mp b10 es11), ((2 : Nat), AV.int Go.IntKind.i64 n12), ((3 : Nat), AV.str s13), ((9 : Nat), AV.str s14), ((13 : Nat), AV.rmp (0 : Nat)), ((54 : Nat), AV.iter (1 : Nat))])
              [some (Blk.mp xs33), some (Blk.iter (List.eraseIdx es16 i) none)] R) :
  Hold (runL PG ty nG G0 an_greatseallaw_TrieOne f_greatseallaw_TrieOne (0 : Nat) (0 : Nat)
  (mkT (122 : Nat) [((0 : Nat), AV.mp b10 es11), ((2 : Nat), AV.int Go.IntKind.i64 n12), ((3 : Nat), AV.str s13), ((9 : Nat), AV.str s14), ((13 : Nat), AV.rmp (0 : Nat)), ((54 : Nat), AV.iter (1 : Nat))])
  [some (Blk.mp es15), some (Blk.iter es16 none)] R) := kshow h (by kernel_rfl)

end Go.Ab

namespace Go.Ab
open Go.Proofs Go.Gs
variable {G0 : Nat → Option Obj}

theorem good_TrieTrue (hG : GlobOk G0) (m : Mp) (nm : Bool) (hn : (m.map (·.1)).Nodup) (key : Int) (hk : -9223372036854775808 ≤ key ∧ key ≤ 9223372036854775807) (value : By) (there : Bool) (nl : Bool) (l : List By) :
    Good PG nG G0 f_greatseallaw_TrieTrue [.mp nm (m.map KV), .int .i64 key, .str value, .bool there, .sl 1 nl none (l.map S1)] [] (.bool true) [] := by
  suffices main : ∀ R : AV → List (Option Blk) → Prop, R (.bool true) [] → Hold (runF PG ty nG G0 an_greatseallaw_TrieTrue f_greatseallaw_TrieTrue [.mp nm (m.map KV), .int .i64 key, .str value, .bool there, .sl 1 nl none (l.map S1)] [] R) from
    good_of_run prOk (by kernel_rfl) (main _ ⟨rfl, rfl⟩)
  intro R hR
  refine greatseallaw_TrieTrue_run nm _ key value there nl _ G0 R ⟨_, _, good_trieRoot hG m nm hn, _, good_rooted hG, ?_⟩
  simp only [Bool.not_true, ifF, mapRoot_code]
  rw [ifK_iff]
  refine ⟨fun _ => ⟨_, good_rooted hG, hR⟩, fun h0 => ?_⟩
  have h0 : checkM m = 0 := by simpa using h0
  have hat := atN_lt key (n := 16) (by omega)
  refine ⟨_, good_at' key 16 (by omega) (by omega) hk, _, _, mlookD_KV m _, _, good_trieShows hG _ _ value there nl l, ?_⟩
  generalize hkk : atN key 16 = k at hat
  have hpm : pathM m k = (triePath (fM m) k 4, 0) := by rw [pathM, if_neg (by simpa using h0), if_neg (by omega), Int.toNat_natCast]
  have gp := good_triePath (G0 := G0) hG m nm hn k
  rw [hpm] at gp
  rw [mapRoot_ok h0]
  have iff1 := trieShows_iff (fM_good h0) hat value there l
  have iff2 := trieShows_iff (fM_good h0) hat ((mGet m k).getD []) (mGet m k).isSome (triePath (fM m) k 4)
  have iff3 := trieShows_iff (fM_good h0) hat value there (triePath (fM m) k 4)
  have z2 := iff2.2 ⟨rfl, rfl, rfl⟩
  have gs2 := good_trieShows (G0 := G0) hG (tTrie (fM m) 4 0).1 k ((mGet m k).getD []) (mGet m k).isSome (triePath (fM m) k 4).isEmpty (triePath (fM m) k 4)
  have gs3 := good_trieShows (G0 := G0) hG (tTrie (fM m) 4 0).1 k value there (triePath (fM m) k 4).isEmpty (triePath (fM m) k 4)
  rw [z2] at gs2
  have fin : ∃ n12, Good PG nG G0 f_trie_Shows [.str (tTrie (fM m) 4 0).1, .int .i64 k, .str ((mGet m k).getD []), .bool (mGet m k).isSome, .sl 1 (triePath (fM m) k 4).isEmpty none ((triePath (fM m) k 4).map S1)] [] (.int .i64 n12) [] ∧
      ifK (n12 != (0 : Int)) (R (.bool false) [])
        (ifK (!there)
          (ifK (!value == []) (R (.bool true) [])
            (∃ n13, Good PG nG G0 f_trie_Shows [.str (tTrie (fM m) 4 0).1, .int .i64 k, .str value, .bool there, .sl 1 (triePath (fM m) k 4).isEmpty none ((triePath (fM m) k 4).map S1)] [] (.int .i64 n13) [] ∧
              ifK (there == (mGet m k).isSome) (R (.bool ((n13 == (0 : Int)) == (value == (mGet m k).getD []))) []) (R (.bool ((n13 == (0 : Int)) == false)) [])))
          (∃ n14, Good PG nG G0 f_trie_Shows [.str (tTrie (fM m) 4 0).1, .int .i64 k, .str value, .bool there, .sl 1 (triePath (fM m) k 4).isEmpty none ((triePath (fM m) k 4).map S1)] [] (.int .i64 n14) [] ∧
              ifK (there == (mGet m k).isSome) (R (.bool ((n14 == (0 : Int)) == (value == (mGet m k).getD []))) []) (R (.bool ((n14 == (0 : Int)) == false)) []))) := by
    refine ⟨_, gs2, ?_⟩
    have e : ((0 : Int) != 0) = false := rfl
    rw [e, ifF]
    have fin2 : ∀ z : Int, z = trieShows (tTrie (fM m) 4 0).1 k value there (triePath (fM m) k 4) → ifK (there == (mGet m k).isSome) (R (.bool ((z == (0 : Int)) == (value == (mGet m k).getD []))) []) (R (.bool ((z == (0 : Int)) == false)) []) := by
      intro z hz
      rw [ifK_iff]
      refine ⟨fun h1 => ?_, fun h1 => ?_⟩
      · have h1 : there = (mGet m k).isSome := by simpa using h1
        have : (z == 0) = (value == (mGet m k).getD []) := by
          by_cases hv : value = (mGet m k).getD []
          · have : z = 0 := by rw [hz]; exact iff3.2 ⟨h1, hv, rfl⟩
            simp [this, hv]
          · have : z ≠ 0 := by rw [hz]; exact fun e => hv (iff3.1 e).2.1
            have a : (z == 0) = false := by simpa using this
            have b : (value == (mGet m k).getD []) = false := by simpa using hv
            rw [a, b]
        rw [this, beq_self_eq_true]; exact hR
      · have h1 : there ≠ (mGet m k).isSome := by simpa using h1
        have : z ≠ 0 := by rw [hz]; exact fun e => h1 (iff3.1 e).1
        have a : (z == 0) = false := by simpa using this
        rw [a]; exact hR
    rw [ifK_iff]
    refine ⟨fun _ => ?_, fun _ => ⟨_, gs3, fin2 _ rfl⟩⟩
    rw [ifK_iff]
    exact ⟨fun _ => hR, fun _ => ⟨_, gs3, fin2 _ rfl⟩⟩
  rw [ifK_iff]
  refine ⟨fun h1 => ?_, fun h1 => ⟨_, _, _, gp, fin⟩⟩
  have h1 : trieShows (tTrie (fM m) 4 0).1 k value there l = 0 := by simpa using h1
  obtain ⟨g1, g2, g3⟩ := iff1.1 h1
  have g1 : there = (mGet m k).isSome := g1
  have g2 : value = (mGet m k).getD [] := g2
  have e1 : (!there == (mGet m k).isSome) = false := by rw [g1]; simp
  have e2 : (!value == (mGet m k).getD []) = false := by rw [g2]; simp
  rw [e1, ifF, e2, ifF]
  exact ⟨_, _, _, gp, fin⟩
theorem pathM_ok {m : Mp} {k : Nat} (h : checkM m = 0) (hk : k < 16) : pathM m k = (triePath (fM m) k 4, 0) := by rw [pathM, if_neg (by simpa using h), if_neg (by omega), Int.toNat_natCast]

theorem good_TrieEach (hG : GlobOk G0) (m : Mp) (nm : Bool) (hn : (m.map (·.1)).Nodup) (i j : Int) (hi : -9223372036854775808 ≤ i ∧ i ≤ 9223372036854775807) (hj : -9223372036854775808 ≤ j ∧ j ≤ 9223372036854775807) :
    Good PG nG G0 f_greatseallaw_TrieEach [.mp nm (m.map KV), .int .i64 i, .int .i64 j] [] (.bool true) [] := by
  suffices main : ∀ R : AV → List (Option Blk) → Prop, R (.bool true) [] → Hold (runF PG ty nG G0 an_greatseallaw_TrieEach f_greatseallaw_TrieEach [.mp nm (m.map KV), .int .i64 i, .int .i64 j] [] R) from
    good_of_run prOk (by kernel_rfl) (main _ ⟨rfl, rfl⟩)
  intro R hR
  refine greatseallaw_TrieEach_run nm _ i j G0 R ⟨_, _, good_trieRoot hG m nm hn, _, good_rooted hG, ?_⟩
  simp only [Bool.not_true, ifF, mapRoot_code]
  rw [ifK_iff]
  refine ⟨fun _ => ⟨_, good_rooted hG, hR⟩, fun h0 => ?_⟩
  have h0 : checkM m = 0 := by simpa using h0
  have ha := atN_lt i (n := 16) (by omega)
  have hb := atN_lt j (n := 16) (by omega)
  refine ⟨_, good_at' i 16 (by omega) (by omega) hi, _, good_at' j 16 (by omega) (by omega) hj, ?_⟩
  generalize atN i 16 = a at ha
  generalize atN j 16 = b at hb
  have g1 := good_triePath (G0 := G0) hG m nm hn a
  have g2 := good_triePath (G0 := G0) hG m nm hn b
  rw [pathM_ok h0 ha] at g1
  rw [pathM_ok h0 hb] at g2
  rw [mapRoot_ok h0]
  refine ⟨_, _, _, g1, _, _, _, g2, _, _, mlookD_KV m _, ?_⟩
  have e : ((0 : Int) == 0) = true := rfl
  simp only [e, ifT]
  refine ⟨_, good_trieShows hG _ _ _ _ _ _, _, good_Equal _ _ _ _ (by rw [triePath_len]; decide), ?_⟩
  have iff2 := trieShows_iff (fM_good h0) hb ((mGet m b).getD []) (mGet m b).isSome (triePath (fM m) a 4)
  have : (trieShows (tTrie (fM m) 4 0).1 b ((mGet m b).getD []) (mGet m b).isSome (triePath (fM m) a 4) == 0) = (triePath (fM m) a 4 == triePath (fM m) b 4) := by
    by_cases hp : triePath (fM m) a 4 = triePath (fM m) b 4
    · have := iff2.2 ⟨rfl, rfl, hp⟩
      rw [this, hp]; simp
    · have : trieShows (tTrie (fM m) 4 0).1 b ((mGet m b).getD []) (mGet m b).isSome (triePath (fM m) a 4) ≠ 0 := fun e => hp (iff2.1 e).2.2
      have x : (triePath (fM m) a 4 == triePath (fM m) b 4) = false := by simpa using hp
      have y : (trieShows (tTrie (fM m) 4 0).1 b ((mGet m b).getD []) (mGet m b).isSome (triePath (fM m) a 4) == 0) = false := by simpa using this
      rw [x, y]
  rw [this, beq_self_eq_true]
  exact hR

theorem mem_erase {m : Mp} {i : Nat} {p q : Int × By} (h : m[i]? = some p) : q ∈ m ↔ q ∈ m.eraseIdx i ∨ q = p := by
  induction m generalizing i with
  | nil => simp at h
  | cons x r ih =>
    cases i with
    | zero =>
      simp at h
      subst h
      simp [or_comm]
    | succ i =>
      simp only [List.eraseIdx_cons_succ, List.mem_cons]
      rw [ih (by simpa using h), or_assoc]

/-- A map, one value of which is changed. -/
theorem checkM_put {m : Mp} (h : checkM m = 0) {k : Int} {v : By} (hk : 0 ≤ k ∧ k < 16) (hv : v.length ≤ 12) : checkM (mPut m k v) = 0 :=
  checkM_mk fun p hp => by
    rcases mPut_mem hp with rfl | hp
    · exact ⟨hk.1, hk.2, hv⟩
    · exact checkM_ok h p hp

theorem good_TrieOne (hG : GlobOk G0) (m o : Mp) (nm no : Bool) (hn : (m.map (·.1)).Nodup) (ho : (o.map (·.1)).Nodup) (key : Int) (hk : -9223372036854775808 ≤ key ∧ key ≤ 9223372036854775807) (value : By) :
    Good PG nG G0 f_greatseallaw_TrieOne [.mp nm (m.map KV), .mp no (o.map KV), .int .i64 key, .str value] [] (.bool true) [] := by
  suffices main : ∀ R : AV → List (Option Blk) → Prop, R (.bool true) [] → Hold (runF PG ty nG G0 an_greatseallaw_TrieOne f_greatseallaw_TrieOne [.mp nm (m.map KV), .mp no (o.map KV), .int .i64 key, .str value] [] R) from
    good_of_run prOk (by kernel_rfl) (main _ ⟨rfl, rfl⟩)
  intro R hR
  refine greatseallaw_TrieOne_run nm _ no _ key value G0 R ⟨_, _, good_trieRoot hG m nm hn, _, _, good_trieRoot hG o no ho, _, good_rooted hG, ?_⟩
  simp only [Bool.not_true, ifF, mapRoot_code]
  rw [ifK_iff]
  refine ⟨fun _ => ⟨_, good_rooted hG, hR⟩, fun h0 => ?_⟩
  have h0 : checkM m = 0 := by simpa using h0
  have hat := atN_lt key (n := 16) (by omega)
  -- the loop
  have loop : ∀ (k : Nat), k < 16 → ∀ (n : Nat) (r q : Mp), r.length ≤ n → (q.map (·.1)).Nodup → (∀ k v, (k, v) ∈ m ↔ (k, v) ∈ r ∨ mGet q k = some v) →
      Does PG nG G0 (fnOf PG f_greatseallaw_TrieOne) 0 (lp PG f_greatseallaw_TrieOne 0)
        (mkT 122 [(0, .mp nm (m.map KV)), (2, .int .i64 k), (3, .str value), (9, .str (mapRoot m).1), (13, .rmp 0), (54, .iter 1)]) [some (.mp (q.map KV)), some (.iter (r.map KV) none)] R := by
    intro k hk16 n
    have last : ∀ (q : Mp), (q.map (·.1)).Nodup → (∀ k v, (k, v) ∈ m ↔ (k, v) ∈ ([] : Mp) ∨ mGet q k = some v) →
      Does PG nG G0 (fnOf PG f_greatseallaw_TrieOne) 0 (lp PG f_greatseallaw_TrieOne 0)
        (mkT 122 [(0, .mp nm (m.map KV)), (2, .int .i64 k), (3, .str value), (9, .str (mapRoot m).1), (13, .rmp 0), (54, .iter 1)]) [some (.mp (q.map KV)), some (.iter (([] : Mp).map KV) none)] R := by
      intro q hq hmq
      refine does_of_run prOk (greatseallaw_TrieOne_l0_run G0 _ _ _ _ _ _ _ R ⟨fun i p h => by simp at h, fun _ => ?_, fun i n s h => by simp at h⟩)
      have hget : ∀ k, mGet q k = mGet m k := by
        intro k
        cases h : mGet m k with
        | some v => exact ((hmq k v).1 (mGet_mem h)).resolve_left (by simp)
        | none =>
          cases h2 : mGet q k with
          | none => rfl
          | some v =>
            have := mGet_of_mem hn ((hmq k v).2 (.inr h2))
            rw [h] at this; cases this
      have hv : List.drop 0 (List.take (Int.toNat (if (12 : Int) < (value.length : Int) then (12 : Int) else (value.length : Int))) value) = value.take 12 := by
        rw [List.drop_zero]
        split
        · rfl
        · rename_i h
          rw [Int.toNat_natCast, List.take_of_length_le (Nat.le_refl _), List.take_of_length_le (by omega)]
      have hcq : checkM q = 0 := checkM_mk fun p hp => checkM_ok h0 p ((hmq p.1 p.2).2 (.inr (mGet_of_mem hq hp)))
      have hcx := checkM_put hcq (k := (k : Int)) (v := value.take 12) ⟨by omega, by omega⟩ (by simp only [List.length_take]; omega)
      have hqx := mPut_nodup hq (k : Int) (value.take 12)
      have hfx : ∀ j, j ≠ k → fM m j = fM (mPut q k (value.take 12)) j := by
        intro j hj
        unfold fM
        rw [mGet_put, if_neg (by omega), hget]
      have hpath := triePath_same (f := fM m) (g := fM (mPut q k (value.take 12))) (key := k) hfx 4
      have g1 := good_triePath (G0 := G0) hG m nm hn k
      have g2 := good_triePath (G0 := G0) hG (mPut q k (value.take 12)) false hqx k
      rw [pathM_ok h0 hk16] at g1
      rw [pathM_ok hcx hk16, ← hpath] at g2
      have gr := good_trieRoot (G0 := G0) hG (mPut q k (value.take 12)) false hqx
      have hrc := mapRoot_code (mPut q k (value.take 12))
      rw [hcx] at hrc
      rw [hrc] at gr
      have hl : (value.length : Int) ≤ value.length := Int.le_refl _
      refine ⟨Int.le_refl _, by split <;> omega, by split <;> omega, _, by rw [hv]; exact mupd_KV q k (value.take 12), _, _, gr, _, _, _, g1, _, _, _, g2, _, _, mlookD_KV m k, ?_⟩
      have e : ((0 : Int) == 0) = true := rfl
      simp only [e, ifT]
      refine ⟨_, good_Equal _ _ _ _ (by rw [triePath_len]; decide), ?_⟩
      rw [beq_self_eq_true, ifT]
      have hinj := mapRoot_inj hn hqx h0 hcx
      rw [mEq_iff hn hqx] at hinj
      have hxk : mGet (mPut q k (value.take 12)) k = some (value.take 12) := by rw [mGet_put, if_pos rfl]
      rw [ifK_iff]
      refine ⟨fun hs => ⟨_, _, mlookD_KV (mPut q k (value.take 12)) k, ?_⟩, fun hs => ?_⟩
      · obtain ⟨v, hv⟩ := Option.isSome_iff_exists.1 hs
        rw [hxk, hv]
        simp only [Option.getD_some]
        have : ((mapRoot m).1 == (mapRoot (mPut q k (value.take 12))).1) = (v == value.take 12) := by
          by_cases hvv : v = value.take 12
          · have : (mapRoot m).1 = (mapRoot (mPut q k (value.take 12))).1 := hinj.2 fun j => by
              rw [mGet_put]
              split
              · rename_i h; rw [h, hv, hvv]
              · exact (hget j).symm
            rw [this, hvv]; simp
          · have : (mapRoot m).1 ≠ (mapRoot (mPut q k (value.take 12))).1 := fun e => hvv (by
              have := hinj.1 e k
              rw [hxk, hv] at this
              exact Option.some.inj this)
            have x : (v == value.take 12) = false := by simpa using hvv
            have y : ((mapRoot m).1 == (mapRoot (mPut q k (value.take 12))).1) = false := by simpa using this
            rw [x, y]
        rw [this, beq_self_eq_true]; exact hR
      · have hv : mGet m k = none := by simpa using hs
        have : (mapRoot m).1 ≠ (mapRoot (mPut q k (value.take 12))).1 := fun e => by
          have := hinj.1 e k
          rw [hxk, hv] at this
          cases this
        have y : ((mapRoot m).1 == (mapRoot (mPut q k (value.take 12))).1) = false := by simpa using this
        rw [y]; exact hR
    induction n with
    | zero =>
      intro r q hr hq hmq
      obtain rfl : r = [] := List.eq_nil_of_length_eq_zero (by omega)
      exact last q hq hmq
    | succ n ih =>
      intro r q hr hq hmq
      by_cases hr0 : r = []
      · subst hr0; exact last q hq hmq
      · refine does_of_run prOk (greatseallaw_TrieOne_l0_run G0 _ _ _ _ _ _ _ R ⟨KV_is r, fun h => absurd (by simpa using h) hr0, fun i a s h => ⟨_, mupd_KV q a s, ?_⟩⟩)
        have h := KV_get h
        rw [KV_erase]
        refine ih _ _ (by have := len_erase h; omega) (mPut_nodup hq a s) fun k v => ?_
        rw [hmq k v, mem_erase h, mGet_put]
        have hin : (a, s) ∈ m := (hmq a s).2 (.inl (List.mem_of_getElem? h))
        by_cases hka : k = a
        · subst hka
          rw [if_pos rfl]
          have uniq : ∀ w, (k, w) ∈ m → w = s := fun w hw => by
            have h1 := mGet_of_mem hn hw
            have h2 := mGet_of_mem hn hin
            rw [h1] at h2; exact Option.some.inj h2
          constructor
          · intro hh
            have : (k, v) ∈ m := (hmq k v).2 (by rcases hh with (hh | hh) | hh; exact .inl ((mem_erase h).2 (.inl hh)); exact .inl ((mem_erase h).2 (.inr hh)); exact .inr hh)
            exact .inr (by rw [uniq v this])
          · rintro (hh | hh)
            · exact .inl (.inl hh)
            · exact .inl (.inr (by rw [Option.some.inj hh]))
        · rw [if_neg hka]
          constructor
          · rintro ((hh | hh) | hh)
            · exact .inl hh
            · exact absurd (congrArg Prod.fst hh) hka
            · exact .inr hh
          · rintro (hh | hh)
            · exact .inl (.inl hh)
            · exact .inr hh
  have start : ∃ n8, Good PG nG G0 f_greatseallaw_at [.int .i64 key, .int .i64 16] [] (.int .i64 n8) [] ∧
      Does PG nG G0 (fnOf PG f_greatseallaw_TrieOne) 0 (lp PG f_greatseallaw_TrieOne 0)
        (mkT 122 [(0, .mp nm (m.map KV)), (2, .int .i64 n8), (3, .str value), (9, .str (mapRoot m).1), (13, .rmp 0), (54, .iter 1)]) [some (.mp []), some (.iter (m.map KV) none)] R :=
    ⟨_, good_at' key 16 (by omega) (by omega) hk, loop _ hat m.length m [] (Nat.le_refl _) (by simp) fun k v => by simp [mGet]⟩
  rw [ifK_iff]
  refine ⟨fun h1 => ⟨_, good_mapsEqual m o nm no, ?_⟩, fun _ => start⟩
  have h1 : checkM o = 0 := by simpa using h1
  have hinj := mapRoot_inj hn ho h0 h1
  have : ((mapRoot m).1 == (mapRoot o).1) = mEq m o := by
    cases hmo : mEq m o with
    | true => simpa using hinj.2 hmo
    | false =>
      have : (mapRoot m).1 ≠ (mapRoot o).1 := fun e => by rw [hinj.1 e] at hmo; cases hmo
      simpa using this
  rw [this, beq_self_eq_true]
  exact start
end Go.Ab

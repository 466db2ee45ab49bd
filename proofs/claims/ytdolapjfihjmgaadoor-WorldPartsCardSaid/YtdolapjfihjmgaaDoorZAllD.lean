/- What the proofs of these laws lean on (4): What an argument reads as, as a value of the abstract side; A law's contract out of the contract here: whatever comes in, true; what came in reads as it did; A slice that has just been made may come to be an array of one's own; a growing one may be forgotten; What comes in, by its type; Arguments read as plain values: worlds, happenings; no condition. -/
import Derived.Test.YtdolapjfihjmgaaDoorZAllC
import Derived.ProofKit
import Derived.Deep.Strs
import Derived.Carry
import Derived.OpenShut
import Derived.WideKeyElems2
import Derived.Maps.RangeWalk
namespace Go.Ab
open Go.WideShapes

/-- The whole memory is as it is. -/
def allS (w : World) : Stb := fun b _ => b < w.heap.size

/-- Fields that lie one behind the other, from 'o' on, up to 'n'. -/
def tileB (P : Program) : Nat → List (Nat × TypeId) → Nat → Bool
  | o, [], n => o == n
  | o, f :: r, n => f.1 == o && tileB P (o + P.cellsOf f.2) r n

/-- The types whose data are taken over. -/
def supB (P : Program) : Nat → TypeId → Bool
  | 0, _ => false
  | n + 1, t =>
    match P.underlying t with
    | some .bool => true
    | some (.int _) => true
    | some .string => true
    | some (.slice e) => Nat.blt 0 (P.cellsOf e) && supB P n e
    | some (.struct fs) => tileB P 0 (fs.toList.map fun f => (f.offset, f.type)) (P.cellsOf t) && fs.toList.all fun f => supB P n f.type
    | some (.array m e) => (m * P.cellsOf e == P.cellsOf t) && supB P n e
    | some (.map k e) => (match P.underlying k with | some (.int _) => true | _ => false) && (match P.underlying e with | some .string => true | _ => false)
    | _ => false

/-- Parts, one behind the other. -/
def ShpL (S : TypeId → List AV → Prop) : List TypeId → List AV → Prop
  | [], ys => ys = []
  | t :: r, ys => ∃ a b, ys = a ++ b ∧ S t a ∧ ShpL S r b

/-- What the cells of a value of a type look like. -/
def Shp (P : Program) : Nat → TypeId → List AV → Prop
  | 0, _, _ => False
  | n + 1, t, ys =>
    match P.underlying t with
    | some .bool => ∃ b, ys = [.bool b]
    | some (.int k) => ∃ i, ys = [.int k i] ∧ (Lit.int k i).wf = true
    | some .string => ∃ s, ys = [.str s] ∧ s.length ≤ reachBytes
    | some (.slice e) => ∃ nil xs, ys = [.sl (P.cellsOf e) nil none xs] ∧ (nil = true → xs = []) ∧ xs.length * P.bytesOf e ≤ reachBytes ∧ ∀ x ∈ xs, Shp P n e x
    | some (.struct fs) => ShpL (Shp P n) (fs.toList.map (·.type)) ys
    | some (.array m e) => ShpL (Shp P n) (List.replicate m e) ys
    | some (.map k _) => ∃ nil es, ys = [.mp nil es] ∧ (nil = true → es = []) ∧ es.length ≤ maxLen ∧ (es.map (·.1)).Nodup ∧
        ∀ p ∈ es, ∃ kd i s, P.underlying k = some (.int kd) ∧ p = (.int kd i, .str s) ∧ (Lit.int kd i).wf = true ∧ s.length ≤ maxLen
    | _ => False

section
variable {H : Type} {enc : TypeId × Value → H} {P : Program} {w : World} {base : Nat} {spare : Nat → Bool} {held : Bool}

/-- Cell for cell. -/
def PRs (w : World) (ys : List AV) (cs : List Value) : Prop := ys.length = cs.length ∧ ∀ (j : Nat) (y : AV) (c : Value), ys[j]? = some y → cs[j]? = some c → PR (allS w) w y c

theorem PRs.one {y : AV} {c : Value} (h : PR (allS w) w y c) : PRs w [y] [c] := ⟨rfl, fun j y' c' hy hc => by
  cases j with
  | zero => simp at hy hc; subst hy; subst hc; exact h
  | succ j => simp at hy⟩

theorem cell_lt {a : Addr} {v : Value} (h : w.cell? a = some v) : a.block < w.heap.size ∧ a.spot = none := by
  unfold World.cell? at h
  split at h
  · rename_i c e fr hh
    refine ⟨(Array.getElem?_eq_some_iff.1 hh).1, ?_⟩
    split at h
    · cases h
    · rename_i hs; simpa using hs
  · cases h

theorem add_ad (b off n : Nat) : (ad b off).add n = ad b (off + n) := by
  unfold Addr.add ad
  split
  · simp_all
  · rfl

theorem PRs.append {a b : List AV} {c d : List Value} (h : PRs w a c) (k : PRs w b d) : PRs w (a ++ b) (c ++ d) := by
  refine ⟨by rw [List.length_append, List.length_append, h.1, k.1], fun j y v hy hv => ?_⟩
  rw [List.getElem?_append] at hy hv
  rw [h.1] at hy
  split at hy
  · rename_i hlt
    rw [if_pos hlt] at hv
    exact h.2 j y v hy hv
  · rename_i hlt
    rw [if_neg hlt] at hv
    exact k.2 _ y v hy hv

theorem tile_pr {S : TypeId → List AV → Prop} {cs : List Value} : ∀ (fs : List (Nat × TypeId)) (o : Nat), tileB P o fs cs.length = true →
    (∀ f ∈ fs, ((cs.drop f.1).take (P.cellsOf f.2)).length = P.cellsOf f.2 → ∃ ys, PRs w ys ((cs.drop f.1).take (P.cellsOf f.2)) ∧ S f.2 ys) → ∃ ys, PRs w ys (cs.drop o) ∧ ShpL S (fs.map (·.2)) ys
  | [], o, ht, _ => by
    have : o = cs.length := by simpa [tileB] using ht
    subst this
    exact ⟨[], ⟨by simp, fun j y c hy => by simp at hy⟩, rfl⟩
  | f :: r, o, ht, h => by
    simp only [tileB, Bool.and_eq_true, beq_iff_eq] at ht
    obtain ⟨h1, h2⟩ := ht
    subst h1
    have hle : f.1 + P.cellsOf f.2 ≤ cs.length := by
      have : ∀ (r : List (Nat × TypeId)) (o : Nat), tileB P o r cs.length = true → o ≤ cs.length := by
        intro r
        induction r with
        | nil => intro o h; have : o = cs.length := by simpa [tileB] using h
                 omega
        | cons g r ih => intro o h; simp only [tileB, Bool.and_eq_true, beq_iff_eq] at h; have := ih _ h.2; omega
      exact this r _ h2
    obtain ⟨ys, g1, g2⟩ := h f (by simp) (by rw [List.length_take, List.length_drop]; omega)
    obtain ⟨zs, g3, g4⟩ := tile_pr r _ h2 fun f' hf' => h f' (by simp [hf'])
    refine ⟨ys ++ zs, ?_, ys, zs, rfl, g2, g4⟩
    have := g1.append g3
    rwa [← List.drop_drop, List.take_append_drop] at this

theorem weightsAll_mem {P : Program} {e : TypeId} : ∀ {l : List (DataW H)} {d : DataW H}, d ∈ l → ∀ x ∈ d.weights P e, x ∈ DataW.weightsAll P e l
  | a :: r, d, hd, x, hx => by
    simp only [DataW.weightsAll, List.mem_append]
    rcases List.mem_cons.1 hd with rfl | hd
    · exact .inl hx
    · exact .inr (weightsAll_mem hd x hx)
  | [], _, hd, _, _ => by cases hd

theorem weightsEach_mem {P : Program} : ∀ {ts : List TypeId} {l : List (DataW H)} {i : Nat} {t : TypeId} {d : DataW H}, ts[i]? = some t → l[i]? = some d → ∀ x ∈ d.weights P t, x ∈ DataW.weightsEach P ts l
  | [], _, i, t, d, ht, _, _, _ => by simp at ht
  | _ :: _, [], i, t, d, _, hd, _, _ => by simp at hd
  | t0 :: ts, d0 :: l, i, t, d, ht, hd, x, hx => by
    simp only [DataW.weightsEach, List.mem_append]
    cases i with
    | zero =>
      simp at ht hd
      subst ht; subst hd
      exact .inl hx
    | succ i => exact .inr (weightsEach_mem (by simpa using ht) (by simpa using hd) x hx)

theorem trod_pr : ∀ (n : Nat) (t : TypeId) (cs : List Value) (x : DataW H × List MemPlace), DataW.trod enc P w base spare held n t cs = some x → (∀ k ∈ x.1.weights P t, k ≤ reachBytes) → (m : Nat) → supB P m t = true → cs.length = P.cellsOf t →
    ∃ ys, PRs w ys cs ∧ Shp P m t ys := by
  intro n
  induction n with
  | zero => intro t cs x h; simp [DataW.trod] at h
  | succ n ih =>
    intro t cs x h hwt m hm hlen
    cases m with
    | zero => simp [supB] at hm
    | succ m =>
    simp only [supB] at hm
    cases hu : P.underlying t with
    | none => rw [hu] at hm; simp at hm
    | some d =>
    rw [hu] at hm
    cases d <;> simp at hm
    case bool =>
      obtain ⟨b, rfl, rfl⟩ := DataW.trod_bool hu h
      exact ⟨[.bool b], .one (.bool b), by simp only [Shp, hu]; exact ⟨b, rfl⟩⟩
    case int k =>
      obtain ⟨i, rfl, rfl, hw⟩ := DataW.trod_int hu h
      exact ⟨[.int k i], .one (.int k i), by simp only [Shp, hu]; exact ⟨i, rfl, hw⟩⟩
    case string =>
      obtain ⟨s, rfl, rfl, _⟩ := DataW.trod_string hu h
      refine ⟨[.str s.data.toList], .one ?_, by simp only [Shp, hu]; exact ⟨_, rfl, hwt _ (by simp [DataW.weights])⟩⟩
      have := PR.str (S := allS w) (w := w) s.data.toList
      simpa using this
    case slice e =>
      rcases DataW.trod_slice hu h with ⟨rfl, rfl⟩ | ⟨a, len, cap, elems, rest, n', hn, rfl, rfl, hb, hl, hc, hel, hx, _, _⟩
      · exact ⟨[.sl (P.cellsOf e) true none []], .one (.slNil _), by simp only [Shp, hu]; exact ⟨true, [], rfl, fun _ => rfl, by simp, fun x hx => by cases hx⟩⟩
      · cases hn
        simp only [DataW.weights, hu, List.mem_cons, List.mem_append, forall_eq_or_imp] at hwt
        have each : ∀ i, i < len → ∃ p : List AV × List Value, w.cells? base (a.add (i * P.cellsOf e)) (P.cellsOf e) = some p.2 ∧ PRs w p.1 p.2 ∧ Shp P m e p.1 := by
          intro i hi
          have h1 := hx i hi
          rw [List.getElem?_eq_getElem (by omega), Option.bind_eq_some_iff] at h1
          obtain ⟨cs, h2, h3⟩ := h1
          obtain ⟨ys, h4, h5⟩ := ih e cs _ h3 (fun k hk => hwt.2 k (.inl (weightsAll_mem (List.mem_map.2 ⟨_, List.getElem_mem (by omega), rfl⟩) k hk))) m hm.2 (World.cells?_some h2).2.1
          exact ⟨(ys, cs), h2, h4, h5⟩
        let F : Nat → List AV × List Value := fun i => if h : i < len then Classical.choose (each i h) else ([], [])
        have hF : ∀ i, i < len → w.cells? base (a.add (i * P.cellsOf e)) (P.cellsOf e) = some (F i).2 ∧ PRs w (F i).1 (F i).2 ∧ Shp P m e (F i).1 := by
          intro i hi
          have : F i = Classical.choose (each i hi) := dif_pos hi
          rw [this]
          exact Classical.choose_spec (each i hi)
        have hxs : ∀ (i : Nat) (x : List AV), ((List.range len).map fun i => (F i).1)[i]? = some x → i < len ∧ x = (F i).1 := by
          intro i x hix
          rw [List.getElem?_map, Option.map_eq_some_iff] at hix
          obtain ⟨i', h1, rfl⟩ := hix
          have := List.getElem?_eq_some_iff.1 h1
          obtain ⟨h2, h3⟩ := this
          simp at h2 h3
          subst h3
          exact ⟨h2, rfl⟩
        refine ⟨[.sl (P.cellsOf e) false none ((List.range len).map fun i => (F i).1)], .one ?_, ?_⟩
        · rcases Nat.eq_zero_or_pos len with h0 | h0
          · subst h0
            exact .slEmpty _ a cap
          · have hc0 := (World.cells?_some (hF 0 h0).1).2.2 0 hm.1
            have hl0 := (World.cells?_some (hF 0 h0).1).2.1
            rw [Nat.zero_mul] at hc0
            rw [List.getElem?_eq_getElem (by omega)] at hc0
            have ha0 : (a.add 0).add 0 = a := by simp [Addr.add]
            rw [ha0] at hc0
            obtain ⟨hblk, hspot⟩ := cell_lt hc0
            obtain ⟨b, off, sp⟩ := a
            simp only at hspot hblk
            subst hspot
            have := PR.sl (S := allS w) (w := w) (P.cellsOf e) b off cap ((List.range len).map fun i => (F i).1) (fun i j => ((F i).2)[j]?.getD undef) (by simpa using hl) (fun i x hix => ?_) (fun i x j y hix hy => ?_) (fun i x j y hix hy => ?_)
            · have e1 : ((List.range len).map fun i => (F i).1).length = len := by simp
              rw [e1] at this; exact this
            · obtain ⟨h1, rfl⟩ := hxs i x hix
              rw [(hF i h1).2.1.1]; exact (World.cells?_some (hF i h1).1).2.1
            · obtain ⟨h1, rfl⟩ := hxs i x hix
              obtain ⟨_, g1, g2⟩ := World.cells?_some (hF i h1).1
              have hj : j < (F i).2.length := by rw [← (hF i h1).2.1.1]; exact (List.getElem?_eq_some_iff.1 hy).1
              refine ⟨hblk, ?_⟩
              have g3 := g2 j (by omega)
              rw [show (⟨b, off, none⟩ : Addr) = ad b off from rfl, add_ad, add_ad, Nat.add_assoc] at g3
              rw [g3, List.getElem?_eq_getElem hj]; rfl
            · obtain ⟨h1, rfl⟩ := hxs i x hix
              have hj : j < (F i).2.length := by rw [← (hF i h1).2.1.1]; exact (List.getElem?_eq_some_iff.1 hy).1
              refine (hF i h1).2.1.2 j y _ hy ?_
              rw [List.getElem?_eq_getElem hj]; rfl
        · simp only [Shp, hu]
          refine ⟨false, _, rfl, (fun hh => by cases hh), ?_, fun x hx' => ?_⟩
          · have h1 := hwt.1
            rw [List.length_map, List.length_map, hel] at h1
            rw [List.length_map, List.length_range]
            exact Nat.le_trans (Nat.mul_le_mul_right _ (Nat.le_add_right _ _)) h1
          obtain ⟨i, hi⟩ := List.mem_iff_getElem?.1 hx'
          obtain ⟨h1, rfl⟩ := hxs i x hi
          exact (hF i h1).2.2
    case struct fs =>
      obtain ⟨xs, n', hn, rfl, hl, hlen, hf⟩ := DataW.trod_struct hu h
      cases hn
      obtain ⟨ys, h1, h2⟩ := tile_pr (P := P) (w := w) (S := Shp P m) (cs := cs) (fs.toList.map fun f => (f.offset, f.type)) 0 (by rw [hl]; exact hm.1) (fun f hfm hlen2 => by
        obtain ⟨f', hf', rfl⟩ := List.mem_map.1 hfm
        obtain ⟨i, hi⟩ := List.mem_iff_getElem?.1 hf'
        rw [Array.getElem?_toList] at hi
        have h3 := hf i f' hi
        have hlt : i < xs.length := by rw [hlen]; exact (Array.getElem?_eq_some_iff.1 hi).1
        rw [List.getElem?_eq_getElem hlt] at h3
        have hi' := Array.getElem?_eq_some_iff.1 hi
        refine ih f'.type _ _ h3 (fun k hk => hwt k ?_) m (by have := hm.2 i hi'.1; rwa [hi'.2] at this) hlen2
        simp only [DataW.weights, hu]
        exact weightsEach_mem (i := i) (by rw [List.getElem?_map, Array.getElem?_toList, hi]; rfl) (by rw [List.getElem?_map, List.getElem?_eq_getElem hlt]; rfl) k hk)
      refine ⟨ys, by simpa using h1, ?_⟩
      simp only [Shp, hu]
      simpa [List.map_map, Function.comp_def] using h2
    case array k e =>
      obtain ⟨xs, n', hn, rfl, hl, hlen, hf⟩ := DataW.trod_array hu h
      cases hn
      have tl : ∀ (r o : Nat), o + r * P.cellsOf e = cs.length → tileB P o ((List.range r).map fun i => (o + i * P.cellsOf e, e)) cs.length = true := by
        intro r
        induction r with
        | zero => intro o h; simp [tileB]; omega
        | succ r ih2 =>
          intro o h
          rw [List.range_succ_eq_map]
          simp only [List.map_cons, tileB, Nat.zero_mul, Nat.add_zero, BEq.rfl, Bool.true_and, List.map_map]
          have e1 : ((fun i => (o + i * P.cellsOf e, e)) ∘ Nat.succ) = fun i => (o + P.cellsOf e + i * P.cellsOf e, e) := by
            funext i; simp only [Function.comp]; congr 1; rw [Nat.succ_mul]; omega
          rw [e1]
          exact ih2 _ (by rw [Nat.succ_mul] at h; omega)
      obtain ⟨ys, h1, h2⟩ := tile_pr (P := P) (w := w) (S := Shp P m) (cs := cs) ((List.range k).map fun i => (0 + i * P.cellsOf e, e)) 0 (tl k 0 (by rw [hl]; omega)) (fun f hfm hlen' => by
        obtain ⟨i, hi, rfl⟩ := List.mem_map.1 hfm
        have hi' : i < k := by simpa using hi
        have h3 := hf i hi'
        rw [List.getElem?_eq_getElem (by omega)] at h3
        simp only [Nat.zero_add] at hlen' ⊢
        refine ih e _ _ h3 (fun k hk => hwt k ?_) m hm.2 hlen'
        simp only [DataW.weights, hu]
        exact weightsAll_mem (List.mem_map.2 ⟨_, List.getElem_mem (by omega), rfl⟩) k hk)
      refine ⟨ys, by simpa using h1, ?_⟩
      simp only [Shp, hu]
      have e2 : ((List.range k).map fun i => (0 + i * P.cellsOf e, e)).map (·.2) = List.replicate k e := by
        rw [List.map_map]
        apply List.ext_getElem (by simp)
        intro i h1 h2
        simp
      rw [e2] at h2
      exact h2
    case map k e =>
      obtain ⟨kd, hk⟩ : ∃ kd, P.underlying k = some (.int kd) := by
        cases hk : P.underlying k with
        | none => simp [hk] at hm
        | some d => cases d <;> simp [hk] at hm ⊢
      have he : P.underlying e = some .string := by
        cases he : P.underlying e with
        | none => simp [he] at hm
        | some d => cases d <;> simp [he] at hm ⊢
      rcases WideElems.open_map hu h with ⟨rfl, rfl⟩ | ⟨b, ents, clock, n', hn, rfl, hh, hb, F, _⟩
      · exact ⟨[.mp true []], .one .mpNil, by simp only [Shp, hu]; exact ⟨true, [], rfl, fun _ => rfl, Nat.zero_le _, by simp, fun p hp => by cases hp⟩⟩
      · have hent : ∀ x ∈ ents.toList, ∃ i s, x.key = .int kd i ∧ (Lit.int kd i).wf = true ∧ x.val = .string s ∧ s.size ≤ maxLen := by
          intro x hx
          obtain ⟨y, hy⟩ := F.reads x hx
          obtain ⟨i, h1, _, h2⟩ := Maps.keyOf_int_inv hk (WideElems.rd_key hy)
          obtain ⟨z, h3, _⟩ := WideElems.rd_val hy
          unfold WideElems.elemAt at h3
          split at h3
          · rename_i hform
            obtain ⟨s, h4, _, h5⟩ := DataW.trod_string he h3
            refine ⟨i, s, h1, h2, ?_, h5⟩
            cases hv : x.val <;> rw [hv] at h4 hform <;> simp [Value.cells] at h4 <;> simp [Value.formed, he] at hform ⊢ <;> first | exact h4 | skip
          · cases h3
        let g : MapEntry → AV × AV := fun x => ((match x.key with | .int kd i => .int kd i | _ => .dead), (match x.val with | .string s => .str s.data.toList | _ => .dead))
        have hS := (MapKept.stamped_iff ents clock).1 F.stamped
        have hget : ∀ (i : Nat) (p : AV × AV) (x : MapEntry), (ents.toList.map g)[i]? = some p → ents[i]? = some x → p = g x ∧ x ∈ ents.toList := by
          intro i p x hp hx
          rw [List.getElem?_map, Array.getElem?_toList, hx] at hp
          exact ⟨by simpa using hp.symm, by rw [Array.mem_toList_iff]; exact Array.mem_of_getElem? hx⟩
        refine ⟨[.mp false (ents.toList.map g)], .one (.mp b _ ents clock (fun off => (Array.getElem?_eq_some_iff.1 hh).1) hh ⟨by simp, fun i x hx => hS.1 x (by rw [Array.mem_toList_iff]; exact Array.mem_of_getElem? hx), fun i j x y hx hy hxy => ?_⟩ (fun i p x hp hx => ?_) (fun i p x hp hx => ?_)), ?_⟩
        · have hnd := hS.2.1
          have hnd := List.pairwise_iff_getElem.1 hnd
          obtain ⟨hi, hxi⟩ := Array.getElem?_eq_some_iff.1 hx
          obtain ⟨hj, hyj⟩ := Array.getElem?_eq_some_iff.1 hy
          rcases Nat.lt_trichotomy i j with h0 | h0 | h0
          · have := hnd i j (by simpa using hi) (by simpa using hj) h0
            simp [hxi, hyj, hxy] at this
          · exact h0
          · have := hnd j i (by simpa using hj) (by simpa using hi) h0
            simp [hxi, hyj, hxy] at this
        · obtain ⟨rfl, hm'⟩ := hget i p x hp hx
          obtain ⟨i', s, h1, h2, h3, h4⟩ := hent x hm'
          simp only [g, h1]
          exact .int _ _
        · obtain ⟨rfl, hm'⟩ := hget i p x hp hx
          obtain ⟨i', s, h1, h2, h3, h4⟩ := hent x hm'
          simp only [g, h3]
          have := PR.str (S := allS w) (w := w) s.data.toList
          simpa using this
        · simp only [Shp, hu]
          refine ⟨false, _, rfl, (fun hh => by cases hh), by simpa using F.size, ?_, fun p hp => ?_⟩
          · rw [List.map_map]
            have : ((fun x : AV × AV => x.1) ∘ g) = fun x => (match x.key with | .int kd i => AV.int kd i | _ => .dead) := rfl
            rw [this]
            refine List.Pairwise.map _ ?_ (List.Pairwise.and_mem.1 hS.2.2)
            intro x y ⟨hx, hy, hne⟩
            obtain ⟨i, s, h1, _⟩ := hent x hx
            obtain ⟨i', s', h1', _⟩ := hent y hy
            rw [h1, h1'] at hne ⊢
            intro e
            apply hne
            cases e; rfl
          · obtain ⟨x, hx, rfl⟩ := List.mem_map.1 hp
            obtain ⟨i, s, h1, h2, h3, h4⟩ := hent x hx
            refine ⟨kd, i, s.data.toList, hk, ?_, h2, by rw [Array.length_toList]; exact h4⟩
            simp only [g, h1, h3]
end
end Go.Ab

namespace Go.Ab
open Go.ChangeShapes Go.WideShapes Go.ChangeAt Go.RowKit

section
variable {H : Type} {enc : TypeId × Value → H} {P : Program}

theorem post_below {f : Func} {s : ChangeSpec} {apart fresh handsOn again : Bool} {W W' : World} {args : Array Value} {v : Value} {ds : List (DataW H)} {before : List MemPlace}
    (hvar : s.vars = []) (hW : DataW.Whole enc P f.params.toList s.vars apart W args.toList ds [] before) (hargsE : (s.fn H (ds ++ [])).args = ds) (hvarsE : (s.fn H (ds ++ [])).vars = [])
    (hres : ∀ (b : Nat) (sp : Nat → Bool) (hd : Bool), DataW.TrodAll enc P W' b sp hd f.resultTypes.toList (v.resultList f.resultTypes.size) (s.fn H (ds ++ [])).results [])
    (hl : laidOutB P = true) (hp : ∀ t ∈ f.params.toList, P.readableRec t = true ∧ t < P.types.size) (hb : Below W.heap.size W W')
    (hok : ∀ (j : Nat) (t : TypeId) (r : Value), f.resultTypes[j]? = some t → (v.resultList f.resultTypes.size)[j]? = some r → Value.okWide P W' .any 0 t r) :
    s.post enc P f apart fresh handsOn again W args v W' := by
  have hlt := hW.lt
  have hWW := hW
  obtain ⟨p, q, hA, hV, hps, hz, hn⟩ := hWW
  rw [hvar] at hV
  have hq : q = [] := hV
  subst hq
  rw [List.append_nil] at hps
  subst hps
  have stay : ∀ (sp : Nat → Bool), (∀ x ∈ before, sp x.block = true) → DataW.TrodAll enc P W' 0 sp true f.params.toList args.toList ds before := by
    intro sp hsp
    have key : ∀ (ts : List TypeId) (vs : List Value) (ds : List (DataW H)) (ps : List MemPlace), (∀ t ∈ ts, P.readableRec t = true ∧ t < P.types.size) → (∀ x ∈ ps, x.block < W.heap.size) → (∀ x ∈ ps, sp x.block = true) →
        DataW.TrodAll enc P W 0 (fun _ => true) true ts vs ds ps → DataW.TrodAll enc P W' 0 sp true ts vs ds ps := by
      intro ts
      induction ts with
      | nil =>
        intro vs ds ps _ _ _ h
        cases vs <;> cases ds <;> exact h
      | cons t ts ih =>
        intro vs ds ps h1 h2 h3 h
        cases vs with
        | nil => exact h.elim
        | cons v vs =>
          cases ds with
          | nil => exact h.elim
          | cons d ds =>
            obtain ⟨p, q, ha, hb', rfl⟩ := h
            refine ⟨p, q, WideElems.Trod_stays hl (h1 t (by simp)).1 (h1 t (by simp)).2 ha (fun x hx => hb.same (h2 x (by simp [hx]))) (fun x hx => h3 x (by simp [hx])), ih vs ds q (fun t ht => h1 t (by simp [ht])) (fun x hx => h2 x (by simp [hx])) (fun x hx => h3 x (by simp [hx])) hb', rfl⟩
    exact key _ _ _ _ hp hlt hsp hA
  have hold : ∀ x ∈ before, (fun b => decide (b < W.heap.size)) x.block = true := fun x hx => by simpa using hlt x hx
  have hvs : ∀ sp : Nat → Bool, DataW.TrodVars enc P W' sp s.vars ([] : List (DataW H)) [] := fun sp => by rw [hvar]; rfl
  refine ⟨ds, [], before, [], before, [], hW, hres _ _ _, by rw [hargsE]; exact stay _ hold, by rw [hvarsE]; exact hvs _, ⟨hb.os, hb.output, fun i hi => ?_⟩, fun _ => ?_⟩
  · rw [hb.block i hi]
    cases W.heap[i]? with
    | none => rfl
    | some o => cases o <;> simp
  · refine ⟨hok, _, _, ([] ++ before) ++ [], ⟨[] ++ before, [], trodAll_append (stay _ fun _ _ => rfl) (hres _ _ _), hvs _, rfl, ?_, ?_⟩, ?_⟩
    · intro b off hx
      have hx' : MemPlace.cell b off ∈ before := by simpa using hx
      have hz' := hz b off hx'
      have hlt' : b < W.heap.size := hlt _ hx'
      simp only [World.frozen?] at hz' ⊢
      rw [hb.block b hlt']
      exact hz'
    · intro ha
      simpa using hn ha
    · intro x hx _
      simpa using hx

/-- The arguments, as values of the abstract side. -/
def argA (P : Program) (t : TypeId) (ys : List AV) : AV :=
  match P.underlying t with
  | some (.struct _) => .agg ys
  | some (.array _ _) => .agg ys
  | _ => ys.headD .dead

def Shps (P : Program) (m : Nat) : List TypeId → List AV → Prop
  | [], [] => True
  | t :: ts, y :: ys => (∃ cs, Shp P m t cs ∧ y = argA P t cs) ∧ Shps P m ts ys
  | _, _ => False

/-- The types of arguments that are taken over. -/
def argB (P : Program) (m : Nat) (t : TypeId) : Bool :=
  supB P m t && (match P.underlying t with | some (.struct _) => true | some (.array _ _) => false | _ => P.cellsOf t == 1)

theorem arg_pr {W : World} {K : KM} {m : Nat} {t : TypeId} {v : Value} {d : DataW H} {ps : List MemPlace} {b : Nat} (hs : argB P m t = true) (hval : Value.okWide P W .any b t v) (h : DataW.Trod enc P W 0 (fun _ => true) true t v d ps) (hwt : ∀ k ∈ d.weights P t, k ≤ reachBytes) :
    ∃ cs, Shp P m t cs ∧ VR K (allS W) W (argA P t cs) v := by
  obtain ⟨fuel, hf⟩ := h
  unfold argB at hs
  rw [Bool.and_eq_true] at hs
  obtain ⟨hs, ha⟩ := hs
  have one : ∀ c : Value, v = c → v.cells = #[c] → (match P.underlying t with | some (.struct _) => False | some (.array _ _) => False | _ => True) → ∃ cs, Shp P m t cs ∧ VR K (allS W) W (argA P t cs) v := by
    intro c hv hc hu
    have h1c : P.cellsOf t = 1 := by
      split at ha
      · rename_i h; rw [h] at hu; exact hu.elim
      · cases ha
      · simpa using ha
    obtain ⟨ys, h1, h2⟩ := trod_pr fuel t _ _ hf hwt m hs (by rw [hc, h1c]; rfl)
    refine ⟨ys, h2, ?_⟩
    have hl := h1.1
    rw [hc] at hl
    match ys, hl with
    | [y], _ =>
      have := (h1.2 0 y c rfl (by rw [hc]; rfl)).vr (K := K)
      have he : argA P t [y] = y := by
        unfold argA
        split
        · rename_i h; rw [h] at hu; exact hu.elim
        · rename_i h; rw [h] at hu; exact hu.elim
        · rfl
      rw [he, hv]; exact this
  cases m with
  | zero => simp [supB] at hs
  | succ m =>
  have hs' := hs
  simp only [supB] at hs
  cases hu : P.underlying t with
  | none => rw [hu] at hs; simp at hs
  | some dd =>
  rw [hu] at hs ha
  cases dd <;> simp at hs ha
  case bool => obtain ⟨x, rfl⟩ := okWide_bool hu hval; exact one _ rfl rfl (by rw [hu]; trivial)
  case int k => obtain ⟨x, rfl⟩ := okWide_int hu hval; exact one _ rfl rfl (by rw [hu]; trivial)
  case string => obtain ⟨x, rfl⟩ := okWide_string hu hval; exact one _ rfl rfl (by rw [hu]; trivial)
  case slice e => obtain ⟨x, y, z, rfl⟩ := okWide_slice hu hval; exact one _ rfl rfl (by rw [hu]; trivial)
  case map k e => obtain ⟨x, rfl⟩ := okWide_map hu hval; exact one _ rfl rfl (by rw [hu]; trivial)
  case struct fs =>
    obtain ⟨cs, rfl, hsz⟩ := okWide_struct hu hval
    obtain ⟨ys, h1, h2⟩ := trod_pr fuel t _ _ hf hwt (m + 1) hs' (by simpa [Value.cells] using hsz)
    refine ⟨ys, h2, ?_⟩
    have he : argA P t ys = .agg ys := by unfold argA; rw [hu]
    rw [he]
    have hl : ys.length = cs.size := by simpa [Value.cells] using h1.1
    simp only [VR, VRa]
    exact ⟨cs, rfl, hl.symm, fun j y u hy hu' => (h1.2 j y u hy (by simpa [Value.cells] using hu')).vrc⟩

theorem args_pr {W : World} {K : KM} {m : Nat} {b : Nat} : ∀ (ts : List TypeId) (vs : List Value) (ds : List (DataW H)) (ps : List MemPlace), (∀ t ∈ ts, argB P m t = true) →
    (∀ (j : Nat) (t : TypeId) (v : Value), ts[j]? = some t → vs[j]? = some v → Value.okWide P W .any b t v) → DataW.TrodAll enc P W 0 (fun _ => true) true ts vs ds ps → (∀ k ∈ DataW.weightsEach P ts ds, k ≤ reachBytes) →
    ∃ ys, Shps P m ts ys ∧ VRs K (allS W) W ys vs
  | [], [], [], _, _, _, _, _ => ⟨[], trivial, rfl, fun j y u hy => by simp at hy⟩
  | t :: ts, v :: vs, d :: ds, ps, h1, h2, h, hwt => by
    obtain ⟨p, q, ha, hb, rfl⟩ := h
    obtain ⟨cs, g1, g2⟩ := arg_pr (K := K) (h1 t (by simp)) (h2 0 t v rfl rfl) ha (fun k hk => hwt k (by simp only [DataW.weightsEach, List.mem_append]; exact .inl hk))
    obtain ⟨ys, g3, g4, g5⟩ := args_pr (K := K) ts vs ds q (fun t ht => h1 t (by simp [ht])) (fun j t v h3 h4 => h2 (j + 1) t v (by simpa using h3) (by simpa using h4)) hb (fun k hk => hwt k (by simp only [DataW.weightsEach, List.mem_append]; exact .inr hk))
    refine ⟨argA P t cs :: ys, ⟨⟨cs, g1, rfl⟩, g3⟩, by simp [g4], fun j y u hy hu => ?_⟩
    cases j with
    | zero => simp at hy hu; subst hy; subst hu; exact g2
    | succ j => exact g5 j y u (by simpa using hy) (by simpa using hu)
  | [], [], _ :: _, _, _, _, h, _ => h.elim
  | [], _ :: _, _, _, _, _, h, _ => h.elim
  | _ :: _, [], _, _, _, _, h, _ => h.elim
  | _ :: _, _ :: _, [], _, _, _, h, _ => h.elim

theorem law_contract {nG : Nat} {f : FuncId} {fn : Func} {s : ChangeSpec} {apart fresh handsOn again : Bool} {W : World} {args : Array Value} {ds : List (DataW H)} {before : List MemPlace} {base m bt : Nat}
    (hl : laidOutB P = true) (hpar : ∀ t ∈ fn.params.toList, P.readableRec t = true ∧ t < P.types.size ∧ argB P m t = true) (hrt : fn.resultTypes = #[bt]) (hbt : P.underlying bt = some .bool)
    (hval : ∀ (j : Nat) t v, fn.params[j]? = some t → args[j]? = some v → Value.okWide P W .any base t v)
    (hvar : s.vars = []) (hW : DataW.Whole enc P fn.params.toList s.vars apart W args.toList ds [] before) (hresE : (s.fn H (ds ++ [])).results = [.lit (.bool true)]) (hargsE : (s.fn H (ds ++ [])).args = ds) (hvarsE : (s.fn H (ds ++ [])).vars = [])
    (hnG : nG ≤ W.heap.size) (hreach : ∀ k ∈ DataW.weightsEach P fn.params.toList ds, k ≤ reachBytes) (hgood : ∀ ys, Shps P m fn.params.toList ys → Good P nG (fun b => W.heap[b]?) f ys [] (.bool true) []) :
    Calls P f args W fun e W' => ∃ v, e = .returned v ∧ s.post enc P fn apart fresh handsOn again W args v W' := by
  have hWW := hW
  obtain ⟨p, q, hA, _, _, _, _⟩ := hWW
  obtain ⟨ys, h1, h2⟩ := args_pr (K := fun _ => none) (m := m) (b := base) fn.params.toList args.toList ds p (fun t ht => (hpar t ht).2.2)
    (fun j t v hj hv => hval j t v (by simpa using hj) (by simpa using hv)) hA hreach
  have hrel : HRel nG (fun b => W.heap[b]?) (fun _ => none) (allS W) (hpF []) W :=
    ⟨fun _ => rfl, fun id bl ki _ hk => (by cases hk), fun id id' ki ki' b hk => (by cases hk), fun b off hs => hs, fun b off id ki _ hk => (by cases hk), fun id ki b hk => (by cases hk), fun b _ => rfl, hnG⟩
  have hc := (hgood ys h1).calls W _ _ args.toList hrel h2
  rw [Array.toArray_toList] at hc
  refine hc.mono fun e W' ⟨v, K', S', he, hr', hv, hx⟩ => ⟨v, he, ?_⟩
  have hv : v = .bool true := VR_bool hv
  subst hv
  refine post_below hvar hW hargsE hvarsE (fun b sp hd => ?_) hl (fun t ht => ⟨(hpar t ht).1, (hpar t ht).2.1⟩) ⟨hx.os, hx.tape, hx.output, hx.size, fun b hb => hx.frame b hb fun id ki hk => by cases hk⟩ (ok_one hrt rfl (okWide_bool_mk hbt _))
  rw [hresE, hrt]
  exact trodAll_mk1 (shut_bool hbt _)
end
end Go.Ab

namespace Go.Ab

/-- All cells of all elements are plain. -/
def plainXs (xs : List (List AV)) : Prop := ∀ x ∈ xs, ∀ y ∈ x, y.plainC = true

theorem PR.plainC {S S' : Stb} {w w' : World} {y : AV} {u : Value} (h : PR S w y u) (hp : y.plainC = true) : PR S' w' y u := by
  cases h <;> simp [AV.plainC] at hp <;> constructor

def AV.plainA : AV → Bool
  | .agg cs => cs.all AV.plainC
  | y => y.plainC

theorem VRc.plainC {K K' : KM} {S S' : Stb} {w w' : World} {y : AV} {u : Value} (h : VRc K S w y u) (hp : y.plainC = true) : VRc K' S' w' y u := by
  cases y <;> simp [AV.plainC] at hp <;> simp only [VRc, VR0] at h ⊢ <;> exact h.plainC (by simp [AV.plainC])

theorem VRa.plainA {K K' : KM} {S S' : Stb} {w w' : World} {y : AV} {u : Value} (h : VRa K S w y u) (hp : y.plainA = true) : VRa K' S' w' y u := by
  cases y
  case agg cs =>
    obtain ⟨vs, h1, h2, h3⟩ := h
    exact ⟨vs, h1, h2, fun j y v hy hv => (h3 j y v hy hv).plainC (List.all_eq_true.1 hp y (List.mem_of_getElem? hy))⟩
  all_goals (simp only [VRa] at h ⊢; exact VRc.plainC h hp)

section
variable {P : Program} {nG : Nat} {G0 : Nat → Option Obj} {f : FuncId} {args : List AV} {sz : Nat} {xs : List (List AV)}

/-- The result's growth is forgotten. -/
theorem Good.forget {nil : Bool} {n : Nat} (h : Good P nG G0 f args [] (.sl sz nil (some 0) xs) [some (.grow sz n)]) : Good P nG G0 f args [] (.sl sz nil none xs) [] := by
  refine ⟨h.body, fun w K S us hrel hus => (h.calls w K S us hrel hus).mono fun e w' ⟨v, K', S', he, hr, hv, hx⟩ => ?_⟩
  obtain ⟨g1, g2⟩ := hr.out (n0 := 0) (L := []) List.nodup_nil (fun i hi => by omega)
  have hv' := hv.out (L := []) hr
  exact ⟨v, _, _, he, g1, hv', hx.trans g2⟩

/-- All that the call made is seen by what it holds. -/
theorem Good.out {r : AV} {H : List (Option Blk)} (h : Good P nG G0 f args [] r H) : Good P nG G0 f args [] (outV (hpF H) (pos []) r) [] := by
  refine ⟨h.body, fun w K S us hrel hus => (h.calls w K S us hrel hus).mono fun e w' ⟨v, K', S', he, hr, hv, hx⟩ => ?_⟩
  obtain ⟨g1, g2⟩ := hr.out (n0 := 0) (L := []) List.nodup_nil (fun i hi => by omega)
  exact ⟨v, _, _, he, g1, hv.out (L := []) hr, hx.trans g2⟩

theorem Good.thaw (hp : plainXs xs) (h : Good P nG G0 f args [] (.sl sz false (some 0) xs) [some (.grow sz xs.length)]) :
    Good P nG G0 f args [] (.rsl sz 0 0 xs.length) [some (.arr sz xs)] := by
  refine ⟨h.body, fun w K S us hrel hus => (h.calls w K S us hrel hus).mono fun e w' ⟨v, K', S', he, hr, hv, hx⟩ => ?_⟩
  have hKn : ∀ id, K id = none := fun id => by
    have := hrel.dom id
    cases hk : K id with
    | none => rfl
    | some => rw [hk] at this; simp [hpF] at this
  have hvv : PR S' w' (.sl sz false none xs) v ∧ ∃ loc n, K' 0 = some (.grow loc sz n) ∧ xs.length ≤ n ∧ (xs.length = n → locMatch loc v) := by
    simpa only [VR, VRa, VRc, VR0] using hv
  obtain ⟨hpr, loc, n, hK0, hle, hloc⟩ := hvv
  have hbr := hr.blk 0 (.grow sz xs.length) _ rfl hK0
  obtain ⟨_, hn, hbody⟩ := hbr
  subst hn
  have hl := hloc rfl
  cases loc with
  | none =>
    exfalso
    cases hpr with
    | slEmpty => simp [locMatch] at hl
    | sl => simp [locMatch] at hl
  | some bc =>
    obtain ⟨b, cap⟩ := bc
    obtain ⟨hcap, arr, e', hheap, harr⟩ := hbody
    have hbnew : w.heap.size ≤ b := by
      rcases hx.new 0 _ b hK0 rfl with ⟨id, ki, h1, _⟩ | h1
      · rw [hKn id] at h1; cases h1
      · exact h1
    have hsame : ∀ b', b' < w.heap.size → w'.heap[b']? = w.heap[b']? := fun b' hb' => hx.frame b' hb' fun id ki hk => by rw [hKn id] at hk; cases hk
    have hkept : Kept S w S w' := ⟨fun _ _ h => h, fun b' off hs => cell_of_heap (hsame b' (hrel.lt b' off hs)), fun b' hs => hsame b' (hrel.lt b' 0 (hs 0))⟩
    -- the value, and the cells
    have hval : v = .slice (some (ad b 0)) xs.length cap ∧ (∀ (i : Nat) (x : List AV), xs[i]? = some x → x.length = sz) ∧
        ∀ (i : Nat) (x : List AV) (j : Nat) (y : AV) (u : Value), xs[i]? = some x → x[j]? = some y → arr[i * sz + j]? = some u → PR S w' y u := by
      cases hpr with
      | slEmpty a cap' =>
        obtain ⟨rfl, rfl⟩ := hl
        exact ⟨rfl, fun i x hx => by simp at hx, fun i x j y u hx => by simp at hx⟩
      | sl _ b2 off2 cap2 _ f hc2 hsz2 hcell hvals =>
        obtain ⟨hab, rfl⟩ := hl
        cases hab
        refine ⟨rfl, hsz2, fun i x j y u hxi hy hu => ?_⟩
        have h1 := (hcell i x j y hxi hy).2
        rw [cell_arr hheap, Nat.zero_add, hu] at h1
        cases h1
        exact (hvals i x j y hxi hy).plainC (hp x (List.mem_of_getElem? hxi) y (List.mem_of_getElem? hy))
    obtain ⟨rfl, hlen, hcells⟩ := hval
    let K2 : KM := fun id => if id = 0 then some (.arr b sz xs.length) else none
    have hK2 : ∀ id ki, K2 id = some ki → id = 0 ∧ ki = .arr b sz xs.length := by
      intro id ki hk
      simp only [K2] at hk
      split at hk
      · rename_i h0; cases hk; exact ⟨h0, rfl⟩
      · cases hk
    have hblt : b < w'.heap.size := (Array.getElem?_eq_some_iff.1 hheap).1
    have hmul : xs.length * sz ≤ cap * sz := Nat.mul_le_mul_right _ hcap
    have hnGb : nG ≤ b := hr.glob 0 _ b hK0 rfl
    refine ⟨_, K2, S, he, ⟨fun id => ?_, fun id bl ki hb hk => ?_, fun id id' ki ki' b' hk hk' _ _ => by rw [(hK2 id ki hk).1, (hK2 id' ki' hk').1], fun b' off hs => Nat.lt_of_lt_of_le (hrel.lt b' off hs) hx.size, fun b' off id ki hs hk hb => ?_, fun id ki b' hk hb => ?_, hr.fix, hr.nG⟩, ?_,
      ⟨hx.os, hx.tape, hx.output, hx.size, hx.frame, fun id ki b' hk hb => ?_, hkept, fun _ _ h => .inl h, fun id ki hid _ => by simp at hid⟩⟩
    · cases id with
      | zero => rfl
      | succ id => simp [K2, hpF]
    · obtain ⟨rfl, rfl⟩ := hK2 id ki hk
      have hb : Blk.arr sz xs = bl := by simpa [hpF] using hb
      subst hb
      exact ⟨rfl, rfl, hlen, arr, e', hheap, by omega, hcells⟩
    · obtain ⟨rfl, rfl⟩ := hK2 id ki hk
      cases hb
      have := hrel.lt _ off hs
      omega
    · obtain ⟨rfl, rfl⟩ := hK2 id ki hk
      cases hb; exact hnGb
    · simp only [VR, VRa, VRc, VR0]
      exact ⟨b, xs.length, cap, rfl, by omega, hcap, by rw [Nat.zero_mul]⟩
    · obtain ⟨rfl, rfl⟩ := hK2 id ki hk
      cases hb; exact .inr hbnew
theorem Good.thawT {rest : List AV} (hp : plainXs xs) (hrest : ∀ y ∈ rest, y.plainA = true) (h : Good P nG G0 f args [] (.tup (.sl sz false (some 0) xs :: rest)) [some (.grow sz xs.length)]) :
    Good P nG G0 f args [] (.tup (.rsl sz 0 0 xs.length :: rest)) [some (.arr sz xs)] := by
  refine ⟨h.body, fun w K S us hrel hus => (h.calls w K S us hrel hus).mono fun e w' ⟨v, K', S', he, hr, hv, hx⟩ => ?_⟩
  have hKn : ∀ id, K id = none := fun id => by
    have := hrel.dom id
    cases hk : K id with
    | none => rfl
    | some => rw [hk] at this; simp [hpF] at this
  obtain ⟨vs, rfl, hsize, hvs⟩ := hv
  obtain ⟨v, hv0⟩ : ∃ v, vs[0]? = some v := ⟨_, Array.getElem?_eq_getElem (by simp at hsize; omega)⟩
  have hv := hvs 0 _ v rfl hv0
  have hvv : PR S' w' (.sl sz false none xs) v ∧ ∃ loc n, K' 0 = some (.grow loc sz n) ∧ xs.length ≤ n ∧ (xs.length = n → locMatch loc v) := by
    simpa only [VRa, VRc, VR0] using hv
  obtain ⟨hpr, loc, n, hK0, hle, hloc⟩ := hvv
  have hbr := hr.blk 0 (.grow sz xs.length) _ rfl hK0
  obtain ⟨_, hn, hbody⟩ := hbr
  subst hn
  have hl := hloc rfl
  cases loc with
  | none =>
    exfalso
    cases hpr with
    | slEmpty => simp [locMatch] at hl
    | sl => simp [locMatch] at hl
  | some bc =>
    obtain ⟨b, cap⟩ := bc
    obtain ⟨hcap, arr, e', hheap, harr⟩ := hbody
    have hbnew : w.heap.size ≤ b := by
      rcases hx.new 0 _ b hK0 rfl with ⟨id, ki, h1, _⟩ | h1
      · rw [hKn id] at h1; cases h1
      · exact h1
    have hsame : ∀ b', b' < w.heap.size → w'.heap[b']? = w.heap[b']? := fun b' hb' => hx.frame b' hb' fun id ki hk => by rw [hKn id] at hk; cases hk
    have hkept : Kept S w S w' := ⟨fun _ _ h => h, fun b' off hs => cell_of_heap (hsame b' (hrel.lt b' off hs)), fun b' hs => hsame b' (hrel.lt b' 0 (hs 0))⟩
    -- the value, and the cells
    have hval : v = .slice (some (ad b 0)) xs.length cap ∧ (∀ (i : Nat) (x : List AV), xs[i]? = some x → x.length = sz) ∧
        ∀ (i : Nat) (x : List AV) (j : Nat) (y : AV) (u : Value), xs[i]? = some x → x[j]? = some y → arr[i * sz + j]? = some u → PR S w' y u := by
      cases hpr with
      | slEmpty a cap' =>
        obtain ⟨rfl, rfl⟩ := hl
        exact ⟨rfl, fun i x hx => by simp at hx, fun i x j y u hx => by simp at hx⟩
      | sl _ b2 off2 cap2 _ f hc2 hsz2 hcell hvals =>
        obtain ⟨hab, rfl⟩ := hl
        cases hab
        refine ⟨rfl, hsz2, fun i x j y u hxi hy hu => ?_⟩
        have h1 := (hcell i x j y hxi hy).2
        rw [cell_arr hheap, Nat.zero_add, hu] at h1
        cases h1
        exact (hvals i x j y hxi hy).plainC (hp x (List.mem_of_getElem? hxi) y (List.mem_of_getElem? hy))
    obtain ⟨rfl, hlen, hcells⟩ := hval
    let K2 : KM := fun id => if id = 0 then some (.arr b sz xs.length) else none
    have hK2 : ∀ id ki, K2 id = some ki → id = 0 ∧ ki = .arr b sz xs.length := by
      intro id ki hk
      simp only [K2] at hk
      split at hk
      · rename_i h0; cases hk; exact ⟨h0, rfl⟩
      · cases hk
    have hblt : b < w'.heap.size := (Array.getElem?_eq_some_iff.1 hheap).1
    have hmul : xs.length * sz ≤ cap * sz := Nat.mul_le_mul_right _ hcap
    have hnGb : nG ≤ b := hr.glob 0 _ b hK0 rfl
    refine ⟨_, K2, S, he, ⟨fun id => ?_, fun id bl ki hb hk => ?_, fun id id' ki ki' b' hk hk' _ _ => by rw [(hK2 id ki hk).1, (hK2 id' ki' hk').1], fun b' off hs => Nat.lt_of_lt_of_le (hrel.lt b' off hs) hx.size, fun b' off id ki hs hk hb => ?_, fun id ki b' hk hb => ?_, hr.fix, hr.nG⟩, ?_,
      ⟨hx.os, hx.tape, hx.output, hx.size, hx.frame, fun id ki b' hk hb => ?_, hkept, fun _ _ h => .inl h, fun id ki hid _ => by simp at hid⟩⟩
    · cases id with
      | zero => rfl
      | succ id => simp [K2, hpF]
    · obtain ⟨rfl, rfl⟩ := hK2 id ki hk
      have hb : Blk.arr sz xs = bl := by simpa [hpF] using hb
      subst hb
      exact ⟨rfl, rfl, hlen, arr, e', hheap, by omega, hcells⟩
    · obtain ⟨rfl, rfl⟩ := hK2 id ki hk
      cases hb
      have := hrel.lt _ off hs
      omega
    · obtain ⟨rfl, rfl⟩ := hK2 id ki hk
      cases hb; exact hnGb
    · refine ⟨vs, rfl, hsize, fun j y u hy hu => ?_⟩
      cases j with
      | zero =>
        rw [hv0] at hu
        cases hu
        have hy : AV.rsl sz 0 0 xs.length = y := by simpa using hy
        subst hy
        simp only [VRa, VRc, VR0]
        exact ⟨b, xs.length, cap, rfl, by omega, hcap, by rw [Nat.zero_mul]⟩
      | succ j => exact (hvs (j + 1) y u (by simpa using hy) hu).plainA (hrest y (List.mem_of_getElem? (by simpa using hy)))
    · obtain ⟨rfl, rfl⟩ := hK2 id ki hk
      cases hb; exact .inr hbnew
end
end Go.Ab

namespace Go.Ab
open Go.WideShapes

abbrev By := List UInt8
def S1 (s : By) : List AV := [.str s]
def S2 (p : Bool × By) : List AV := [.bool p.1, .str p.2]
def BX (b : Bool) : List AV := [.bool b]
def P2 (p : Nat × Nat) : List AV := [.int .i64 p.1, .int .i64 p.2]
def I1 (n : Int) : List AV := [.int .i64 n]
def E2 (p : Int × By) : List AV := [.int .i64 p.1, .str p.2]
def KV (p : Int × By) : AV × AV := (.int .i64 p.1, .str p.2)

section
variable {P : Program}

/-- Elements, one by one. -/
theorem shp_list {α : Type} {X : α → List AV} {Q : α → Prop} {S : List AV → Prop} (h : ∀ ys, S ys → ∃ a, ys = X a ∧ Q a) : ∀ xs : List (List AV), (∀ x ∈ xs, S x) → ∃ l : List α, xs = l.map X ∧ ∀ a ∈ l, Q a
  | [], _ => ⟨[], rfl, fun a ha => by cases ha⟩
  | x :: r, hx => by
    obtain ⟨a, rfl, ha⟩ := h x (hx x (by simp))
    obtain ⟨l, rfl, hl⟩ := shp_list h r fun y hy => hx y (by simp [hy])
    exact ⟨a :: l, rfl, fun b hb => by
      rcases List.mem_cons.1 hb with rfl | hb
      · exact ha
      · exact hl b hb⟩

theorem shp_slice {m : Nat} {t e : TypeId} {α : Type} {X : α → List AV} {Q : α → Prop} (ht : P.underlying t = some (.slice e)) (hx : ∀ ys, Shp P m e ys → ∃ a, ys = X a ∧ Q a) {cs : List AV} (h : Shp P (m + 1) t cs) :
    ∃ (nl : Bool) (l : List α), cs = [.sl (P.cellsOf e) nl none (l.map X)] ∧ (nl = true → l = []) ∧ l.length * P.bytesOf e ≤ 140737488351232 ∧ ∀ a ∈ l, Q a := by
  simp only [Shp, ht] at h
  obtain ⟨nil, xs, rfl, h1, h2, h3⟩ := h
  obtain ⟨l, rfl, hl⟩ := shp_list hx xs h3
  exact ⟨nil, l, rfl, fun hn => by simpa using h1 hn, by simpa [reachBytes] using h2, hl⟩

theorem shp_s1 {m : Nat} {t : TypeId} (ht : P.underlying t = some .string) {ys : List AV} (h : Shp P (m + 1) t ys) : ∃ a : By, ys = S1 a ∧ a.length ≤ 140737488351232 := by
  simp only [Shp, ht] at h
  obtain ⟨s, rfl, h⟩ := h
  exact ⟨s, rfl, h⟩

theorem shp_i1 {m : Nat} {t : TypeId} (ht : P.underlying t = some (.int .i64)) {ys : List AV} (h : Shp P (m + 1) t ys) : ∃ n : Int, ys = I1 n ∧ -9223372036854775808 ≤ n ∧ n ≤ 9223372036854775807 := by
  simp only [Shp, ht] at h
  obtain ⟨n, rfl, hw⟩ := h
  simp only [Lit.wf, Bool.and_eq_true, decide_eq_true_eq] at hw
  exact ⟨n, rfl, hw⟩

theorem shp_b1 {m : Nat} {t : TypeId} (ht : P.underlying t = some .bool) {ys : List AV} (h : Shp P (m + 1) t ys) : ∃ b : Bool, ys = BX b := by
  simp only [Shp, ht] at h
  obtain ⟨b, rfl⟩ := h
  exact ⟨b, rfl⟩

theorem shp_map {m : Nat} {t k e : TypeId} (ht : P.underlying t = some (.map k e)) (hk : P.underlying k = some (.int .i64)) {ys : List AV} (h : Shp P (m + 1) t ys) :
    ∃ (nm : Bool) (l : List (Int × By)), ys = [.mp nm (l.map KV)] ∧ (nm = true → l = []) ∧ (l.map (·.1)).Nodup ∧ l.length ≤ 9223372036854775807 ∧ (∀ p ∈ l, -9223372036854775808 ≤ p.1 ∧ p.1 ≤ 9223372036854775807) := by
  simp only [Shp, ht] at h
  obtain ⟨nil, es, rfl, h1, h2, h3, h4⟩ := h
  have key : ∀ es : List (AV × AV), (∀ p ∈ es, ∃ kd i s, P.underlying k = some (.int kd) ∧ p = (.int kd i, .str s) ∧ (Lit.int kd i).wf = true ∧ s.length ≤ maxLen) →
      ∃ l : List (Int × By), es = l.map KV ∧ ∀ p ∈ l, -9223372036854775808 ≤ p.1 ∧ p.1 ≤ 9223372036854775807 := by
    intro es
    induction es with
    | nil => intro _; exact ⟨[], rfl, fun p hp => by cases hp⟩
    | cons p r ih =>
      intro h
      obtain ⟨kd, i, s, g1, rfl, g2, _⟩ := h p (by simp)
      rw [hk] at g1
      cases g1
      obtain ⟨l, rfl, hl⟩ := ih fun q hq => h q (by simp [hq])
      simp only [Lit.wf, Bool.and_eq_true, decide_eq_true_eq] at g2
      exact ⟨(i, s) :: l, rfl, fun q hq => by
        rcases List.mem_cons.1 hq with rfl | hq
        · exact g2
        · exact hl q hq⟩
  obtain ⟨l, rfl, hl⟩ := key es h4
  refine ⟨nil, l, rfl, fun hn => by simpa using h1 hn, ?_, by simpa [maxLen] using h2, hl⟩
  rw [List.map_map] at h3
  unfold List.Nodup at h3 ⊢
  rw [List.pairwise_map] at h3 ⊢
  exact h3.imp fun hab e => hab (by simp only [Function.comp, KV, e])

theorem argA_one {t : TypeId} {d : TypeDesc} (ht : P.underlying t = some d) (hd : (match d with | .struct _ => False | .array _ _ => False | _ => True)) (y : AV) : argA P t [y] = y := by
  unfold argA
  rw [ht]
  cases d <;> first | rfl | exact hd.elim

theorem arg_texts {m : Nat} {t e : TypeId} (ht : P.underlying t = some (.slice e)) (he : P.underlying e = some .string) (hc : P.cellsOf e = 1) (hb : P.bytesOf e = 16) {cs : List AV} (h : Shp P (m + 2) t cs) :
    ∃ (nl : Bool) (l : List By), argA P t cs = .sl 1 nl none (l.map S1) ∧ (nl = true → l = []) ∧ l.length * 16 ≤ 140737488351232 ∧ ∀ s ∈ l, s.length ≤ 140737488351232 := by
  obtain ⟨nl, l, rfl, h1, h2, h3⟩ := shp_slice (X := S1) (Q := fun s : By => s.length ≤ 140737488351232) ht (fun ys hy => shp_s1 he hy) h
  rw [hb] at h2
  exact ⟨nl, l, by rw [hc, argA_one ht trivial], h1, h2, h3⟩

theorem arg_ints {m : Nat} {t e : TypeId} (ht : P.underlying t = some (.slice e)) (he : P.underlying e = some (.int .i64)) (hc : P.cellsOf e = 1) (hb : P.bytesOf e = 8) {cs : List AV} (h : Shp P (m + 2) t cs) :
    ∃ (nl : Bool) (l : List Int), argA P t cs = .sl 1 nl none (l.map I1) ∧ (nl = true → l = []) ∧ l.length * 8 ≤ 140737488351232 ∧ ∀ n ∈ l, -9223372036854775808 ≤ n ∧ n ≤ 9223372036854775807 := by
  obtain ⟨nl, l, rfl, h1, h2, h3⟩ := shp_slice (X := I1) (Q := fun n : Int => -9223372036854775808 ≤ n ∧ n ≤ 9223372036854775807) ht (fun ys hy => shp_i1 he hy) h
  rw [hb] at h2
  exact ⟨nl, l, by rw [hc, argA_one ht trivial], h1, h2, h3⟩

theorem arg_int {m : Nat} {t : TypeId} (ht : P.underlying t = some (.int .i64)) {cs : List AV} (h : Shp P (m + 1) t cs) : ∃ n : Int, argA P t cs = .int .i64 n ∧ -9223372036854775808 ≤ n ∧ n ≤ 9223372036854775807 := by
  obtain ⟨n, rfl, h1⟩ := shp_i1 ht h
  exact ⟨n, by rw [I1, argA_one ht trivial], h1⟩

theorem arg_str {m : Nat} {t : TypeId} (ht : P.underlying t = some .string) {cs : List AV} (h : Shp P (m + 1) t cs) : ∃ s : By, argA P t cs = .str s ∧ s.length ≤ 140737488351232 := by
  obtain ⟨s, rfl, h1⟩ := shp_s1 ht h
  exact ⟨s, by rw [S1, argA_one ht trivial], h1⟩

theorem arg_bool {m : Nat} {t : TypeId} (ht : P.underlying t = some .bool) {cs : List AV} (h : Shp P (m + 1) t cs) : ∃ b : Bool, argA P t cs = .bool b := by
  obtain ⟨b, rfl⟩ := shp_b1 ht h
  exact ⟨b, by rw [BX, argA_one ht trivial]⟩

theorem arg_map {m : Nat} {t k e : TypeId} (ht : P.underlying t = some (.map k e)) (hk : P.underlying k = some (.int .i64)) {cs : List AV} (h : Shp P (m + 1) t cs) :
    ∃ (nm : Bool) (l : List (Int × By)), argA P t cs = .mp nm (l.map KV) ∧ (nm = true → l = []) ∧ (l.map (·.1)).Nodup ∧ l.length ≤ 9223372036854775807 ∧ (∀ p ∈ l, -9223372036854775808 ≤ p.1 ∧ p.1 ≤ 9223372036854775807) := by
  obtain ⟨nm, l, rfl, h1⟩ := shp_map ht hk h
  exact ⟨nm, l, by rw [argA_one ht trivial], h1⟩

/-- A struct's parts, by their types. -/
theorem shp_parts {m : Nat} {t : TypeId} {fs : Array Field} {ts : List TypeId} (ht : P.underlying t = some (.struct fs)) (hf : fs.toList.map (·.type) = ts) {cs : List AV} (h : Shp P (m + 1) t cs) : ShpL (Shp P m) ts cs := by
  simp only [Shp, ht] at h
  rwa [hf] at h

theorem shp_step {m : Nat} {t b s : TypeId} {fs : Array Field} (ht : P.underlying t = some (.struct fs)) (hf : fs.toList.map (·.type) = [b, s]) (hb : P.underlying b = some .bool) (hs : P.underlying s = some .string) {cs : List AV} (h : Shp P (m + 2) t cs) :
    ∃ p : Bool × By, cs = S2 p ∧ p.2.length ≤ 140737488351232 := by
  obtain ⟨c0, r0, rfl, h0, c1, r1, rfl, h1, rfl⟩ := shp_parts ht hf h
  obtain ⟨x, rfl⟩ := shp_b1 hb h0
  obtain ⟨y, rfl, hy⟩ := shp_s1 hs h1
  exact ⟨(x, y), rfl, hy⟩

theorem arg_steps {m : Nat} {t e b s : TypeId} {fs : Array Field} (ht : P.underlying t = some (.slice e)) (he : P.underlying e = some (.struct fs)) (hf : fs.toList.map (·.type) = [b, s]) (hb : P.underlying b = some .bool) (hs : P.underlying s = some .string)
    (hc : P.cellsOf e = 2) {cs : List AV} (h : Shp P (m + 3) t cs) :
    ∃ (nl : Bool) (l : List (Bool × By)), argA P t cs = .sl 2 nl none (l.map S2) ∧ (nl = true → l = []) ∧ ∀ p ∈ l, p.2.length ≤ 140737488351232 := by
  obtain ⟨nl, l, rfl, h1, _, h3⟩ := shp_slice (X := S2) (Q := fun p : Bool × By => p.2.length ≤ 140737488351232) ht (fun ys hy => shp_step he hf hb hs hy) h
  exact ⟨nl, l, by rw [hc, argA_one ht trivial], h1, h3⟩

theorem shp_entry {m : Nat} {t b s : TypeId} {fs : Array Field} (ht : P.underlying t = some (.struct fs)) (hf : fs.toList.map (·.type) = [b, s]) (hb : P.underlying b = some (.int .i64)) (hs : P.underlying s = some .string) {cs : List AV} (h : Shp P (m + 2) t cs) :
    ∃ p : Int × By, cs = E2 p ∧ (-9223372036854775808 ≤ p.1 ∧ p.1 ≤ 9223372036854775807) ∧ p.2.length ≤ 140737488351232 := by
  obtain ⟨c0, r0, rfl, h0, c1, r1, rfl, h1, rfl⟩ := shp_parts ht hf h
  obtain ⟨x, rfl, hx⟩ := shp_i1 hb h0
  obtain ⟨y, rfl, hy⟩ := shp_s1 hs h1
  exact ⟨(x, y), rfl, hx, hy⟩

theorem argA_struct {t : TypeId} {fs : Array Field} (ht : P.underlying t = some (.struct fs)) (ys : List AV) : argA P t ys = .agg ys := by
  unfold argA
  rw [ht]

theorem arg_entry {m : Nat} {t b s : TypeId} {fs : Array Field} (ht : P.underlying t = some (.struct fs)) (hf : fs.toList.map (·.type) = [b, s]) (hb : P.underlying b = some (.int .i64)) (hs : P.underlying s = some .string) {cs : List AV} (h : Shp P (m + 2) t cs) :
    ∃ p : Int × By, argA P t cs = .agg [.int .i64 p.1, .str p.2] ∧ (-9223372036854775808 ≤ p.1 ∧ p.1 ≤ 9223372036854775807) ∧ p.2.length ≤ 140737488351232 := by
  obtain ⟨p, rfl, h1⟩ := shp_entry ht hf hb hs h
  exact ⟨p, argA_struct ht _, h1⟩

theorem shp_book {m : Nat} {t l e b s : TypeId} {fs gs : Array Field} (ht : P.underlying t = some (.struct fs)) (hf : fs.toList.map (·.type) = [l]) (hl : P.underlying l = some (.slice e)) (he : P.underlying e = some (.struct gs)) (hg : gs.toList.map (·.type) = [b, s]) (hb : P.underlying b = some (.int .i64)) (hs : P.underlying s = some .string)
    (hc : P.cellsOf e = 2) (hy : P.bytesOf e = 24) {cs : List AV} (h : Shp P (m + 4) t cs) :
    ∃ (nl : Bool) (a : List (Int × By)), cs = [.sl 2 nl none (a.map E2)] ∧ (nl = true → a = []) ∧ a.length * 24 ≤ 140737488351232 ∧ ∀ p ∈ a, (-9223372036854775808 ≤ p.1 ∧ p.1 ≤ 9223372036854775807) ∧ p.2.length ≤ 140737488351232 := by
  obtain ⟨c0, r0, rfl, h0, rfl⟩ := shp_parts ht hf h
  obtain ⟨nl, a, rfl, h1, h2, h3⟩ := shp_slice (X := E2) (Q := fun p : Int × By => (-9223372036854775808 ≤ p.1 ∧ p.1 ≤ 9223372036854775807) ∧ p.2.length ≤ 140737488351232) hl (fun ys hy => shp_entry he hg hb hs hy) h0
  rw [hy] at h2
  exact ⟨nl, a, by rw [hc]; rfl, h1, h2, h3⟩

theorem arg_book {m : Nat} {t l e b s : TypeId} {fs gs : Array Field} (ht : P.underlying t = some (.struct fs)) (hf : fs.toList.map (·.type) = [l]) (hl : P.underlying l = some (.slice e)) (he : P.underlying e = some (.struct gs)) (hg : gs.toList.map (·.type) = [b, s]) (hb : P.underlying b = some (.int .i64)) (hs : P.underlying s = some .string)
    (hc : P.cellsOf e = 2) (hy : P.bytesOf e = 24) {cs : List AV} (h : Shp P (m + 4) t cs) :
    ∃ (nl : Bool) (a : List (Int × By)), argA P t cs = .agg [.sl 2 nl none (a.map E2)] ∧ (nl = true → a = []) ∧ a.length * 24 ≤ 140737488351232 ∧ ∀ p ∈ a, (-9223372036854775808 ≤ p.1 ∧ p.1 ≤ 9223372036854775807) ∧ p.2.length ≤ 140737488351232 := by
  obtain ⟨nl, a, rfl, h1⟩ := shp_book ht hf hl he hg hb hs hc hy h
  exact ⟨nl, a, argA_struct ht _, h1⟩

theorem shp_head {m : Nat} {t n x y : TypeId} {fs : Array Field} (ht : P.underlying t = some (.struct fs)) (hf : fs.toList.map (·.type) = [n, x, y]) (hn : P.underlying n = some (.int .i64)) (hx : P.underlying x = some .string) (hy : P.underlying y = some .string) {cs : List AV} (h : Shp P (m + 2) t cs) :
    ∃ p : Int × By × By, cs = [.int .i64 p.1, .str p.2.1, .str p.2.2] ∧ (-9223372036854775808 ≤ p.1 ∧ p.1 ≤ 9223372036854775807) ∧ p.2.1.length ≤ 140737488351232 ∧ p.2.2.length ≤ 140737488351232 := by
  obtain ⟨c0, r0, rfl, h0, c1, r1, rfl, h1, c2, r2, rfl, h2, rfl⟩ := shp_parts ht hf h
  obtain ⟨i, rfl, hi⟩ := shp_i1 hn h0
  obtain ⟨u, rfl, hu⟩ := shp_s1 hx h1
  obtain ⟨v, rfl, hv⟩ := shp_s1 hy h2
  exact ⟨(i, u, v), rfl, hi, hu, hv⟩

theorem arg_head {m : Nat} {t n x y : TypeId} {fs : Array Field} (ht : P.underlying t = some (.struct fs)) (hf : fs.toList.map (·.type) = [n, x, y]) (hn : P.underlying n = some (.int .i64)) (hx : P.underlying x = some .string) (hy : P.underlying y = some .string) {cs : List AV} (h : Shp P (m + 2) t cs) :
    ∃ p : Int × By × By, argA P t cs = .agg [.int .i64 p.1, .str p.2.1, .str p.2.2] ∧ (-9223372036854775808 ≤ p.1 ∧ p.1 ≤ 9223372036854775807) ∧ p.2.1.length ≤ 140737488351232 ∧ p.2.2.length ≤ 140737488351232 := by
  obtain ⟨p, rfl, h1⟩ := shp_head ht hf hn hx hy h
  exact ⟨p, argA_struct ht _, h1⟩

theorem arg_client {m : Nat} {t k c n x y : TypeId} {fs gs : Array Field} (ht : P.underlying t = some (.struct fs)) (hf : fs.toList.map (·.type) = [k, c]) (hk : P.underlying k = some (.struct gs)) (hg : gs.toList.map (·.type) = [n, x, y]) (hn : P.underlying n = some (.int .i64)) (hx : P.underlying x = some .string) (hy : P.underlying y = some .string)
    (hc : P.underlying c = some .bool) {cs : List AV} (h : Shp P (m + 3) t cs) :
    ∃ p : (Int × By × By) × Bool, argA P t cs = .agg [.int .i64 p.1.1, .str p.1.2.1, .str p.1.2.2, .bool p.2] ∧ (-9223372036854775808 ≤ p.1.1 ∧ p.1.1 ≤ 9223372036854775807) ∧ p.1.2.1.length ≤ 140737488351232 ∧ p.1.2.2.length ≤ 140737488351232 := by
  obtain ⟨c0, r0, rfl, h0, c1, r1, rfl, h1, rfl⟩ := shp_parts ht hf h
  obtain ⟨q, rfl, hq⟩ := shp_head hk hg hn hx hy h0
  obtain ⟨b, rfl⟩ := shp_b1 hc h1
  exact ⟨(q, b), argA_struct ht _, hq⟩
end
end Go.Ab

namespace Go.Ab
open Go.WideShapes

/-- A client, a happening, as cells. -/
def C4 (p : (Int × By × By) × Bool) : List AV := [.int .i64 p.1.1, .str p.1.2.1, .str p.1.2.2, .bool p.2]
def H6 (p : Int × Int × Int × Int × Int × By) : List AV := [.int .i64 p.1, .int .i64 p.2.1, .int .i64 p.2.2.1, .int .i64 p.2.2.2.1, .int .i64 p.2.2.2.2.1, .str p.2.2.2.2.2]

section
variable {P : Program}

theorem shp_client {m : Nat} {t k c n x y : TypeId} {fs gs : Array Field} (ht : P.underlying t = some (.struct fs)) (hf : fs.toList.map (·.type) = [k, c]) (hk : P.underlying k = some (.struct gs)) (hg : gs.toList.map (·.type) = [n, x, y]) (hn : P.underlying n = some (.int .i64)) (hx : P.underlying x = some .string) (hy : P.underlying y = some .string)
    (hc : P.underlying c = some .bool) {cs : List AV} (h : Shp P (m + 3) t cs) :
    ∃ p : (Int × By × By) × Bool, cs = C4 p ∧ (-9223372036854775808 ≤ p.1.1 ∧ p.1.1 ≤ 9223372036854775807) ∧ p.1.2.1.length ≤ 140737488351232 ∧ p.1.2.2.length ≤ 140737488351232 := by
  obtain ⟨c0, r0, rfl, h0, c1, r1, rfl, h1, rfl⟩ := shp_parts ht hf h
  obtain ⟨q, rfl, hq⟩ := shp_head hk hg hn hx hy h0
  obtain ⟨b, rfl⟩ := shp_b1 hc h1
  exact ⟨(q, b), rfl, hq⟩

theorem arg_world {m : Nat} {t a s bk l e i z cl k c n x y : TypeId} {ws fs gs hs js : Array Field} (ht : P.underlying t = some (.struct ws)) (hw : ws.toList.map (·.type) = [a, s]) (ha : P.underlying a = some (.array 2 bk))
    (hb : P.underlying bk = some (.struct fs)) (hf : fs.toList.map (·.type) = [l]) (hl : P.underlying l = some (.slice e)) (he : P.underlying e = some (.struct gs)) (hg : gs.toList.map (·.type) = [i, z]) (hi : P.underlying i = some (.int .i64)) (hz : P.underlying z = some .string) (hce : P.cellsOf e = 2) (hbe : P.bytesOf e = 24)
    (hs' : P.underlying s = some (.slice cl)) (hcl : P.underlying cl = some (.struct hs)) (hhs : hs.toList.map (·.type) = [k, c]) (hk : P.underlying k = some (.struct js)) (hj : js.toList.map (·.type) = [n, x, y]) (hn : P.underlying n = some (.int .i64)) (hx : P.underlying x = some .string) (hy : P.underlying y = some .string) (hc : P.underlying c = some .bool) (hcc : P.cellsOf cl = 4) (hbc : P.bytesOf cl = 48)
    {cs : List AV} (h : Shp P (m + 6) t cs) :
    ∃ (n0 n1 n2 : Bool) (b0 b1 : List (Int × By)) (cc : List ((Int × By × By) × Bool)), argA P t cs = .agg [.sl 2 n0 none (b0.map E2), .sl 2 n1 none (b1.map E2), .sl 4 n2 none (cc.map C4)] ∧
      (n0 = true → b0 = []) ∧ (n1 = true → b1 = []) ∧ (n2 = true → cc = []) ∧ b0.length * 24 ≤ 140737488351232 ∧ b1.length * 24 ≤ 140737488351232 ∧ cc.length * 48 ≤ 140737488351232 ∧
      (∀ p ∈ b0, (-9223372036854775808 ≤ p.1 ∧ p.1 ≤ 9223372036854775807) ∧ p.2.length ≤ 140737488351232) ∧ (∀ p ∈ b1, (-9223372036854775808 ≤ p.1 ∧ p.1 ≤ 9223372036854775807) ∧ p.2.length ≤ 140737488351232) ∧
      ∀ p ∈ cc, (-9223372036854775808 ≤ p.1.1 ∧ p.1.1 ≤ 9223372036854775807) ∧ p.1.2.1.length ≤ 140737488351232 ∧ p.1.2.2.length ≤ 140737488351232 := by
  obtain ⟨c0, r0, rfl, h0, c1, r1, rfl, h1, rfl⟩ := shp_parts ht hw h
  simp only [Shp, ha] at h0
  have h0 : ShpL (Shp P (m + 4)) [bk, bk] c0 := h0
  obtain ⟨d0, q0, rfl, g0, d1, q1, rfl, g1, rfl⟩ := h0
  obtain ⟨n0, b0, rfl, x1, x2, x3⟩ := shp_book hb hf hl he hg hi hz hce hbe g0
  obtain ⟨n1, b1, rfl, y1, y2, y3⟩ := shp_book hb hf hl he hg hi hz hce hbe g1
  obtain ⟨n2, cc, rfl, z1, z2, z3⟩ := shp_slice (X := C4) (Q := fun p : (Int × By × By) × Bool => (-9223372036854775808 ≤ p.1.1 ∧ p.1.1 ≤ 9223372036854775807) ∧ p.1.2.1.length ≤ 140737488351232 ∧ p.1.2.2.length ≤ 140737488351232) hs' (fun ys hh => shp_client hcl hhs hk hj hn hx hy hc hh) h1
  rw [hbc] at z2
  exact ⟨n0, n1, n2, b0, b1, cc, by rw [argA_struct ht, hcc]; rfl, x1, y1, z1, x2, y2, z2, x3, y3, z3⟩

theorem arg_happening {m : Nat} {e k s w o x i z : TypeId} {fs gs : Array Field} (he : P.underlying e = some (.struct fs)) (hf : fs.toList.map (·.type) = [k, s, w, o, x]) (hk : P.underlying k = some (.int .i64)) (hs : P.underlying s = some (.int .i64)) (hw : P.underlying w = some (.int .i64)) (ho : P.underlying o = some (.int .i64))
    (hx : P.underlying x = some (.struct gs)) (hg : gs.toList.map (·.type) = [i, z]) (hi : P.underlying i = some (.int .i64)) (hz : P.underlying z = some .string) {cs : List AV} (h : Shp P (m + 3) e cs) :
    ∃ p : Int × Int × Int × Int × Int × By, argA P e cs = .agg [.int .i64 p.1, .int .i64 p.2.1, .int .i64 p.2.2.1, .int .i64 p.2.2.2.1, .int .i64 p.2.2.2.2.1, .str p.2.2.2.2.2] ∧
      (-9223372036854775808 ≤ p.2.2.2.2.1 ∧ p.2.2.2.2.1 ≤ 9223372036854775807) ∧ p.2.2.2.2.2.length ≤ 140737488351232 := by
  obtain ⟨c0, r0, rfl, h0, c1, r1, rfl, h1, c2, r2, rfl, h2, c3, r3, rfl, h3, c4, r4, rfl, h4, rfl⟩ := shp_parts he hf h
  obtain ⟨a0, rfl, y0⟩ := shp_i1 hk h0
  obtain ⟨a1, rfl, y1⟩ := shp_i1 hs h1
  obtain ⟨a2, rfl, y2⟩ := shp_i1 hw h2
  obtain ⟨a3, rfl, y3⟩ := shp_i1 ho h3
  obtain ⟨a4, rfl, y4, y5⟩ := shp_entry hx hg hi hz h4
  exact ⟨(a0, a1, a2, a3, a4.1, a4.2), argA_struct he _, y4, y5⟩

theorem arg_happenings {m : Nat} {t e k s w o x i z : TypeId} {fs gs : Array Field} (ht : P.underlying t = some (.slice e)) (he : P.underlying e = some (.struct fs)) (hf : fs.toList.map (·.type) = [k, s, w, o, x]) (hk : P.underlying k = some (.int .i64)) (hs : P.underlying s = some (.int .i64)) (hw : P.underlying w = some (.int .i64)) (ho : P.underlying o = some (.int .i64))
    (hx : P.underlying x = some (.struct gs)) (hg : gs.toList.map (·.type) = [i, z]) (hi : P.underlying i = some (.int .i64)) (hz : P.underlying z = some .string) (hc : P.cellsOf e = 6) (hb : P.bytesOf e = 56) {cs : List AV} (h : Shp P (m + 4) t cs) :
    ∃ (nl : Bool) (l : List (Int × Int × Int × Int × Int × By)), argA P t cs = .sl 6 nl none (l.map H6) ∧ (nl = true → l = []) ∧ l.length * 56 ≤ 140737488351232 ∧
      ∀ p ∈ l, (-9223372036854775808 ≤ p.1 ∧ p.1 ≤ 9223372036854775807) ∧ (-9223372036854775808 ≤ p.2.1 ∧ p.2.1 ≤ 9223372036854775807) ∧ (-9223372036854775808 ≤ p.2.2.1 ∧ p.2.2.1 ≤ 9223372036854775807) ∧ (-9223372036854775808 ≤ p.2.2.2.1 ∧ p.2.2.2.1 ≤ 9223372036854775807) ∧
        (-9223372036854775808 ≤ p.2.2.2.2.1 ∧ p.2.2.2.2.1 ≤ 9223372036854775807) ∧ p.2.2.2.2.2.length ≤ 140737488351232 := by
  obtain ⟨nl, l, rfl, h1, h2, h3⟩ := shp_slice (X := H6) (Q := fun p : Int × Int × Int × Int × Int × By => (-9223372036854775808 ≤ p.1 ∧ p.1 ≤ 9223372036854775807) ∧ (-9223372036854775808 ≤ p.2.1 ∧ p.2.1 ≤ 9223372036854775807) ∧ (-9223372036854775808 ≤ p.2.2.1 ∧ p.2.2.1 ≤ 9223372036854775807) ∧ (-9223372036854775808 ≤ p.2.2.2.1 ∧ p.2.2.2.1 ≤ 9223372036854775807) ∧ (-9223372036854775808 ≤ p.2.2.2.2.1 ∧ p.2.2.2.2.1 ≤ 9223372036854775807) ∧ p.2.2.2.2.2.length ≤ 140737488351232) ht (fun ys hh => by
    obtain ⟨c0, r0, rfl, h0, c1, r1, rfl, h1, c2, r2, rfl, h2, c3, r3, rfl, h3, c4, r4, rfl, h4, rfl⟩ := shp_parts he hf hh
    obtain ⟨a0, rfl, y0⟩ := shp_i1 hk h0
    obtain ⟨a1, rfl, y1⟩ := shp_i1 hs h1
    obtain ⟨a2, rfl, y2⟩ := shp_i1 hw h2
    obtain ⟨a3, rfl, y3⟩ := shp_i1 ho h3
    obtain ⟨a4, rfl, y4, y5⟩ := shp_entry hx hg hi hz h4
    exact ⟨(a0, a1, a2, a3, a4.1, a4.2), rfl, y0, y1, y2, y3, y4, y5⟩) h
  rw [hb] at h2
  exact ⟨nl, l, by rw [hc, argA_one ht trivial], h1, h2, h3⟩
end
end Go.Ab

/- What an argument reads as, as a value of the abstract side; no condition. -/
import Derived.Test.YtfobijiffcfnkaaDoorZAbsM
import Derived.ProofKit
import Derived.Deep.Strs
import Derived.Carry
namespace Go.Ab
open Go.WideShapes

/-- The whole memory is as it is. -/
def allS (w : World) : Stb := fun b _ => b < w.heap.size

/-- The types whose data are taken over. -/
def supB (P : Program) : Nat → TypeId → Bool
  | 0, _ => false
  | n + 1, t =>
    match P.underlying t with
    | some .bool => true
    | some (.int _) => true
    | some .string => true
    | some (.slice e) => Nat.blt 0 (P.cellsOf e) && supB P n e
    | _ => false

/-- What the cells of a value of a type look like. -/
def Shp (P : Program) : Nat → TypeId → List AV → Prop
  | 0, _, _ => False
  | n + 1, t, ys =>
    match P.underlying t with
    | some .bool => ∃ b, ys = [.bool b]
    | some (.int k) => ∃ i, ys = [.int k i] ∧ (Lit.int k i).wf = true
    | some .string => ∃ s, ys = [.str s] ∧ s.length ≤ maxLen
    | some (.slice e) => ∃ nil xs, ys = [.sl (P.cellsOf e) nil none xs] ∧ (nil = true → xs = []) ∧ xs.length ≤ maxLen ∧ ∀ x ∈ xs, Shp P n e x
    | some (.struct fs) => ys.length = P.cellsOf t ∧ ∀ f ∈ fs.toList, Shp P n f.type ((ys.drop f.offset).take (P.cellsOf f.type))
    | some (.map k _) => ∃ nil es, ys = [.mp nil es] ∧ (nil = true → es = []) ∧ es.length ≤ maxLen ∧ (es.map (·.1)).Nodup ∧
        ∀ p ∈ es, ∃ kd i s, P.underlying k = some (.int kd) ∧ p = (.int kd i, .str s) ∧ (Lit.int kd i).wf = true ∧ s.length ≤ maxLen
    | _ => False

section
variable {H : Type} {enc : TypeId × Value → H} {P : Program} {w : World} {base : Nat} {spare : Nat → Bool} {held : Bool}

/-- Cell for cell. -/
def PRs (w : World) (ys : List AV) (cs : List Value) : Prop := ys.length = cs.length ∧ ∀ (j : Nat) (y : AV) (c : Value), ys[j]? = some y → cs[j]? = some c → PR (allS w) w y c

theorem PRs.one {y : AV} {c : Value} (h : PR (allS w) w y c) : PRs w [y] [c] := ⟨rfl, fun j y' c' hy hc => by
  cases j with
  | zero => simp at hy hc; subst hy; subst hc; exact h
  | succ j => simp at hy⟩

theorem cell_lt {a : Addr} {v : Value} (h : w.cell? a = some v) : a.block < w.heap.size ∧ a.spot = none := by
  unfold World.cell? at h
  split at h
  · rename_i c e fr hh
    refine ⟨(Array.getElem?_eq_some_iff.1 hh).1, ?_⟩
    split at h
    · cases h
    · rename_i hs; simpa using hs
  · cases h

theorem add_ad (b off n : Nat) : (ad b off).add n = ad b (off + n) := by
  unfold Addr.add ad
  split
  · simp_all
  · rfl

theorem trod_pr : ∀ (n : Nat) (t : TypeId) (cs : List Value) (x : DataW H × List MemPlace), DataW.trod enc P w base spare held n t cs = some x → (m : Nat) → supB P m t = true → cs.length = P.cellsOf t →
    ∃ ys, PRs w ys cs ∧ Shp P m t ys := by
  intro n
  induction n with
  | zero => intro t cs x h; simp [DataW.trod] at h
  | succ n ih =>
    intro t cs x h m hm hlen
    cases m with
    | zero => simp [supB] at hm
    | succ m =>
    simp only [supB] at hm
    cases hu : P.underlying t with
    | none => rw [hu] at hm; simp at hm
    | some d =>
    rw [hu] at hm
    cases d <;> simp at hm
    case bool =>
      obtain ⟨b, rfl, rfl⟩ := DataW.trod_bool hu h
      exact ⟨[.bool b], .one (.bool b), by simp only [Shp, hu]; exact ⟨b, rfl⟩⟩
    case int k =>
      obtain ⟨i, rfl, rfl, hw⟩ := DataW.trod_int hu h
      exact ⟨[.int k i], .one (.int k i), by simp only [Shp, hu]; exact ⟨i, rfl, hw⟩⟩
    case string =>
      obtain ⟨s, rfl, rfl, hw⟩ := DataW.trod_string hu h
      refine ⟨[.str s.data.toList], .one ?_, by simp only [Shp, hu]; exact ⟨_, rfl, by rw [Array.length_toList]; exact hw⟩⟩
      have := PR.str (S := allS w) (w := w) s.data.toList
      simpa using this
    case slice e =>
      rcases DataW.trod_slice hu h with ⟨rfl, rfl⟩ | ⟨a, len, cap, elems, rest, n', hn, rfl, rfl, hb, hl, hc, hel, hx, _, _⟩
      · exact ⟨[.sl (P.cellsOf e) true none []], .one (.slNil _), by simp only [Shp, hu]; exact ⟨true, [], rfl, fun _ => rfl, Nat.zero_le _, fun x hx => by cases hx⟩⟩
      · cases hn
        have each : ∀ i, i < len → ∃ p : List AV × List Value, w.cells? base (a.add (i * P.cellsOf e)) (P.cellsOf e) = some p.2 ∧ PRs w p.1 p.2 ∧ Shp P m e p.1 := by
          intro i hi
          have h1 := hx i hi
          rw [List.getElem?_eq_getElem (by omega), Option.bind_eq_some_iff] at h1
          obtain ⟨cs, h2, h3⟩ := h1
          obtain ⟨ys, h4, h5⟩ := ih e cs _ h3 m hm.2 (World.cells?_some h2).2.1
          exact ⟨(ys, cs), h2, h4, h5⟩
        let F : Nat → List AV × List Value := fun i => if h : i < len then Classical.choose (each i h) else ([], [])
        have hF : ∀ i, i < len → w.cells? base (a.add (i * P.cellsOf e)) (P.cellsOf e) = some (F i).2 ∧ PRs w (F i).1 (F i).2 ∧ Shp P m e (F i).1 := by
          intro i hi
          have : F i = Classical.choose (each i hi) := dif_pos hi
          rw [this]
          exact Classical.choose_spec (each i hi)
        have hxs : ∀ (i : Nat) (x : List AV), ((List.range len).map fun i => (F i).1)[i]? = some x → i < len ∧ x = (F i).1 := by
          intro i x hix
          rw [List.getElem?_map, Option.map_eq_some_iff] at hix
          obtain ⟨i', h1, rfl⟩ := hix
          have := List.getElem?_eq_some_iff.1 h1
          obtain ⟨h2, h3⟩ := this
          simp at h2 h3
          subst h3
          exact ⟨h2, rfl⟩
        refine ⟨[.sl (P.cellsOf e) false none ((List.range len).map fun i => (F i).1)], .one ?_, ?_⟩
        · rcases Nat.eq_zero_or_pos len with h0 | h0
          · subst h0
            exact .slEmpty _ a cap
          · have hc0 := (World.cells?_some (hF 0 h0).1).2.2 0 hm.1
            have hl0 := (World.cells?_some (hF 0 h0).1).2.1
            rw [Nat.zero_mul] at hc0
            rw [List.getElem?_eq_getElem (by omega)] at hc0
            have ha0 : (a.add 0).add 0 = a := by simp [Addr.add]
            rw [ha0] at hc0
            obtain ⟨hblk, hspot⟩ := cell_lt hc0
            obtain ⟨b, off, sp⟩ := a
            simp only at hspot hblk
            subst hspot
            have := PR.sl (S := allS w) (w := w) (P.cellsOf e) b off cap ((List.range len).map fun i => (F i).1) (fun i j => ((F i).2)[j]?.getD undef) (by simpa using hl) (fun i x hix => ?_) (fun i x j y hix hy => ?_) (fun i x j y hix hy => ?_)
            · have e1 : ((List.range len).map fun i => (F i).1).length = len := by simp
              rw [e1] at this; exact this
            · obtain ⟨h1, rfl⟩ := hxs i x hix
              rw [(hF i h1).2.1.1]; exact (World.cells?_some (hF i h1).1).2.1
            · obtain ⟨h1, rfl⟩ := hxs i x hix
              obtain ⟨_, g1, g2⟩ := World.cells?_some (hF i h1).1
              have hj : j < (F i).2.length := by rw [← (hF i h1).2.1.1]; exact (List.getElem?_eq_some_iff.1 hy).1
              refine ⟨hblk, ?_⟩
              have g3 := g2 j (by omega)
              rw [show (⟨b, off, none⟩ : Addr) = ad b off from rfl, add_ad, add_ad, Nat.add_assoc] at g3
              rw [g3, List.getElem?_eq_getElem hj]; rfl
            · obtain ⟨h1, rfl⟩ := hxs i x hix
              have hj : j < (F i).2.length := by rw [← (hF i h1).2.1.1]; exact (List.getElem?_eq_some_iff.1 hy).1
              refine (hF i h1).2.1.2 j y _ hy ?_
              rw [List.getElem?_eq_getElem hj]; rfl
        · simp only [Shp, hu]
          refine ⟨false, _, rfl, (fun hh => by cases hh), (by simpa using Nat.le_trans hl hc), fun x hx' => ?_⟩
          obtain ⟨i, hi⟩ := List.mem_iff_getElem?.1 hx'
          obtain ⟨h1, rfl⟩ := hxs i x hi
          exact (hF i h1).2.2
end
end Go.Ab

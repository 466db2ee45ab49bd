/- What the proofs of these laws lean on (1): The abstract values, blocks, and their relation to the model's worlds; The types' table, the frame's relation, what it is that an operation is sound; How the heap's relation is kept when one block turns; Single operations, one law each: moves, boxes, loads, stores; Single operations: stores, addresses of fields and elements; Single operations: elements, slices, arithmetic, comparisons; Single operations: strings, equality, lengths, new slices, append; Single operations: structs compared, lengths, structs and slices built; no condition. -/
import Derived.Calls
import Derived.Laws.World
import Derived.Laws.Sem
import Derived.Laws.Strings
import Derived.Laws.StructEq
import Derived.Laws.Append
namespace Go.Ab

inductive AV where
  | bool (b : Bool)
  | int (k : IntKind) (n : Int)
  | str (s : List UInt8)
  | sl (sz : Nat) (nil : Bool) (tok : Option Nat) (xs : List (List AV))
  | rsl (sz id off len : Nat)
  | mp (nil : Bool) (es : List (AV × AV))
  | rmp (id : Nat)
  | ref (id off : Nat)
  | eref (sz id i off : Nat)
  | rptr (cells : List AV)
  | func (f : Nat) (cap : List AV)
  | nilFunc
  | iface
  | nilIface
  | nils
  | agg (cells : List AV)
  | tup (vs : List AV)
  | iter (id : Nat)
  | dead
  deriving Inhabited

def AV.cells : AV → List AV
  | .agg cs => cs
  | v => [v]

/-- A block of the abstract heap. -/
inductive Blk where
  | var (cs : List AV)
  | arr (sz : Nat) (xs : List (List AV))
  | grow (sz n : Nat)
  | mp (es : List (AV × AV))
  | iter (es : List (AV × AV)) (cur : Option (AV × AV))
  deriving Inhabited

/-- Where a block of the abstract heap lies. -/
inductive KI where
  | var (b : Nat)
  | arr (b sz n : Nat)
  | grow (loc : Option (Nat × Nat)) (sz n : Nat)
  | mp (b : Nat)
  | iter (b : Nat)

def KI.blk : KI → Option Nat
  | .var b => some b
  | .arr b _ _ => some b
  | .grow l _ _ => l.map (·.1)
  | .mp b => some b
  | .iter b => some b

abbrev Stb := Nat → Nat → Prop
abbrev KM := Nat → Option KI

def ad (b off : Nat) : Addr := ⟨b, off, none⟩

/-- The entries of a map of the model, as the abstract ones. -/
structure EntsOk (es : List (AV × AV)) (ents : Array MapEntry) (clock : Nat) : Prop where
  size : ents.size = es.length
  born : ∀ (i : Nat) (e : MapEntry), ents[i]? = some e → e.born < clock
  inj : ∀ (i j : Nat) (e e' : MapEntry), ents[i]? = some e → ents[j]? = some e' → e.born = e'.born → i = j

/-- A pure value of the abstract side is the model's, read through stable cells. -/
inductive PR (S : Stb) (w : World) : AV → Value → Prop
  | bool (b : Bool) : PR S w (.bool b) (.bool b)
  | int (k : IntKind) (n : Int) : PR S w (.int k n) (.int k n)
  | str (s : List UInt8) : PR S w (.str s) (.string ⟨s.toArray⟩)
  | slNil (sz : Nat) : PR S w (.sl sz true none []) (.slice none 0 0)
  | slEmpty (sz : Nat) (a : Addr) (cap : Nat) : PR S w (.sl sz false none []) (.slice (some a) 0 cap)
  | sl (sz b off cap : Nat) (xs : List (List AV)) (f : Nat → Nat → Value) (hcap : xs.length ≤ cap)
      (hsz : ∀ (i : Nat) (x : List AV), xs[i]? = some x → x.length = sz)
      (hc : ∀ (i : Nat) (x : List AV) (j : Nat) (y : AV), xs[i]? = some x → x[j]? = some y → S b (off + (i * sz + j)) ∧ w.cell? (ad b (off + (i * sz + j))) = some (f i j))
      (hv : ∀ (i : Nat) (x : List AV) (j : Nat) (y : AV), xs[i]? = some x → x[j]? = some y → PR S w y (f i j)) :
      PR S w (.sl sz false none xs) (.slice (some (ad b off)) xs.length cap)
  | mpNil : PR S w (.mp true []) (.map none)
  | mp (b : Nat) (es : List (AV × AV)) (ents : Array MapEntry) (clock : Nat) (hb : ∀ off, S b off) (hh : w.heap[b]? = some (.map ents clock)) (ho : EntsOk es ents clock)
      (hk : ∀ (i : Nat) (p : AV × AV) (e : MapEntry), es[i]? = some p → ents[i]? = some e → PR S w p.1 e.key) (hv : ∀ (i : Nat) (p : AV × AV) (e : MapEntry), es[i]? = some p → ents[i]? = some e → PR S w p.2 e.val) :
      PR S w (.mp false es) (.map (some b))
  | rptr (b off : Nat) (cells : List AV) (f : Nat → Value)
      (hc : ∀ (j : Nat) (y : AV), cells[j]? = some y → S b (off + j) ∧ w.cell? (ad b (off + j)) = some (f j))
      (hv : ∀ (j : Nat) (y : AV), cells[j]? = some y → PR S w y (f j)) :
      PR S w (.rptr cells) (.pointer (some (ad b off)))
  | iface (t : TypeId) (v : Value) : PR S w .iface (.iface t v)
  | nilIface : PR S w .nilIface .nilIface
  | nilFunc : PR S w .nilFunc .nilFunc
  | nils : PR S w .nils (.slice none 0 0)

/-- Nothing that a pure reading sees has turned. -/
structure Kept (S : Stb) (w : World) (S' : Stb) (w' : World) : Prop where
  sub : ∀ b off, S b off → S' b off
  cell : ∀ b off, S b off → w'.cell? (ad b off) = w.cell? (ad b off)
  whole : ∀ b, (∀ off, S b off) → w'.heap[b]? = w.heap[b]?

theorem Kept.refl (S : Stb) (w : World) : Kept S w S w := ⟨fun _ _ h => h, fun _ _ _ => rfl, fun _ _ => rfl⟩

theorem Kept.trans {S S' S'' : Stb} {w w' w'' : World} (h : Kept S w S' w') (k : Kept S' w' S'' w'') : Kept S w S'' w'' :=
  ⟨fun b off s => k.sub b off (h.sub b off s), fun b off s => (k.cell b off (h.sub b off s)).trans (h.cell b off s),
   fun b s => (k.whole b fun off => h.sub b off (s off)).trans (h.whole b s)⟩

theorem PR.mono {S S' : Stb} {w w' : World} (h : Kept S w S' w') {y : AV} {u : Value} (p : PR S w y u) : PR S' w' y u := by
  induction p with
  | bool b => exact .bool b
  | int k n => exact .int k n
  | str s => exact .str s
  | slNil sz => exact .slNil sz
  | slEmpty sz a cap => exact .slEmpty sz a cap
  | sl sz b off cap xs f hcap hsz hc _ ih =>
    exact .sl sz b off cap xs f hcap hsz (fun i x j y hx hy => ⟨h.sub _ _ (hc i x j y hx hy).1, (h.cell _ _ (hc i x j y hx hy).1).trans (hc i x j y hx hy).2⟩) ih
  | mpNil => exact .mpNil
  | mp b es ents clock hb hh ho _ _ ihk ihv => exact .mp b es ents clock (fun off => h.sub _ _ (hb off)) ((h.whole b hb).trans hh) ho ihk ihv
  | rptr b off cells f hc _ ih => exact .rptr b off cells f (fun j y hy => ⟨h.sub _ _ (hc j y hy).1, (h.cell _ _ (hc j y hy).1).trans (hc j y hy).2⟩) ih
  | iface t v => exact .iface t v
  | nilIface => exact .nilIface
  | nilFunc => exact .nilFunc
  | nils => exact .nils

def locMatch : Option (Nat × Nat) → Value → Prop
  | none, .slice none 0 0 => True
  | some (b, cap), .slice (some a) _ cap' => a = ad b 0 ∧ cap' = cap
  | _, _ => False

/-- A value that may be captured: a reference, or a pure one. -/
def VR0 (K : KM) (S : Stb) (w : World) : AV → Value → Prop
  | .dead, _ => True
  | .ref id off, u => ∃ b, K id = some (.var b) ∧ u = .pointer (some (ad b off))
  | .eref sz id i off, u => ∃ b n, K id = some (.arr b sz n) ∧ i < n ∧ u = .pointer (some (ad b (i * sz + off)))
  | .rsl sz id off len, u => ∃ b n cap, K id = some (.arr b sz n) ∧ off + len ≤ n ∧ len ≤ cap ∧ u = .slice (some (ad b (off * sz))) len cap
  | .rmp id, u => ∃ b, K id = some (.mp b) ∧ u = .map (some b)
  | .iter id, u => ∃ b, K id = some (.iter b) ∧ u = .pointer (some (ad b 0))
  | .sl sz nil (some τ) xs, u => PR S w (.sl sz nil none xs) u ∧ ∃ loc n, K τ = some (.grow loc sz n) ∧ xs.length ≤ n ∧ (xs.length = n → locMatch loc u)
  | .func _ _, _ => False
  | .agg _, _ => False
  | .tup _, _ => False
  | y, u => PR S w y u

/-- A value of one cell. -/
def VRc (K : KM) (S : Stb) (w : World) : AV → Value → Prop
  | .func f cap, u => ∃ cs : List Value, u = .func (.func f) #[] cs.toArray ∧ cs.length = cap.length ∧ ∀ (j : Nat) (y : AV) (c : Value), cap[j]? = some y → cs[j]? = some c → VR0 K S w y c
  | y, u => VR0 K S w y u

/-- A value of one cell, or a struct. -/
def VRa (K : KM) (S : Stb) (w : World) : AV → Value → Prop
  | .agg ys, u => ∃ vs : Array Value, u = .agg vs ∧ vs.size = ys.length ∧ ∀ (j : Nat) (y : AV) (v : Value), ys[j]? = some y → vs[j]? = some v → VRc K S w y v
  | y, u => VRc K S w y u

/-- Any value. -/
def VR (K : KM) (S : Stb) (w : World) : AV → Value → Prop
  | .tup ys, u => ∃ vs : Array Value, u = .tuple vs ∧ vs.size = ys.length ∧ ∀ (j : Nat) (y : AV) (v : Value), ys[j]? = some y → vs[j]? = some v → VRa K S w y v
  | y, u => VRa K S w y u

def kle : KI → KI → Prop
  | .var b, .var b' => b = b'
  | .arr b sz n, .arr b' sz' n' => b = b' ∧ sz = sz' ∧ n = n'
  | .mp b, .mp b' => b = b'
  | .iter b, .iter b' => b = b'
  | .grow l sz n, .grow l' sz' n' => sz = sz' ∧ ((n = n' ∧ l = l') ∨ n < n')
  | _, _ => False

theorem kle.refl (k : KI) : kle k k := by cases k <;> simp [kle]

theorem kle.trans {a b c : KI} (h : kle a b) (k : kle b c) : kle a c := by
  cases a <;> cases b <;> simp [kle] at h <;> cases c <;> simp [kle] at k ⊢
  · exact h.trans k
  · exact ⟨h.1.trans k.1, h.2.1.trans k.2.1, h.2.2.trans k.2.2⟩
  · refine ⟨h.1.trans k.1, ?_⟩
    rcases h.2 with ⟨h1, h2⟩ | h1
    · rcases k.2 with ⟨k1, k2⟩ | k1
      · exact .inl ⟨h1.trans k1, h2.trans k2⟩
      · exact .inr (by omega)
    · rcases k.2 with ⟨k1, k2⟩ | k1
      · exact .inr (by omega)
      · exact .inr (by omega)
  · exact h.trans k
  · exact h.trans k

def KLe (K K' : KM) : Prop := ∀ id ki, K id = some ki → ∃ ki', K' id = some ki' ∧ kle ki ki'

theorem KLe.refl (K : KM) : KLe K K := fun _ ki h => ⟨ki, h, kle.refl ki⟩
theorem KLe.trans {K K' K'' : KM} (h : KLe K K') (k : KLe K' K'') : KLe K K'' := fun id ki hk =>
  let ⟨k1, h1, l1⟩ := h id ki hk; let ⟨k2, h2, l2⟩ := k id k1 h1; ⟨k2, h2, l1.trans l2⟩

section
variable {K K' : KM} {S S' : Stb} {w w' : World}

theorem VR0.mono (hk : KLe K K') (h : Kept S w S' w') {y : AV} {u : Value} (p : VR0 K S w y u) : VR0 K' S' w' y u := by
  cases y <;> simp only [VR0] at p ⊢ <;> try exact p.mono h
  case sl sz nil tok xs =>
    cases tok with
    | none => exact PR.mono h p
    | some τ =>
      obtain ⟨p, loc, n, hK, hn, hl⟩ := p
      refine ⟨PR.mono h p, ?_⟩
      obtain ⟨ki', h1, h2⟩ := hk τ _ hK
      cases ki' <;> simp [kle] at h2
      rename_i l' sz' n'
      obtain ⟨rfl, ⟨rfl, rfl⟩ | hlt⟩ := h2
      · exact ⟨_, _, h1, hn, hl⟩
      · exact ⟨_, _, h1, by omega, fun e => by omega⟩
  case rsl sz id off len =>
    obtain ⟨b, n, cap, hK, h1, h2, rfl⟩ := p
    obtain ⟨ki', k1, k2⟩ := hk id _ hK
    cases ki' <;> simp [kle] at k2
    obtain ⟨rfl, rfl, rfl⟩ := k2
    exact ⟨_, _, _, k1, h1, h2, rfl⟩
  case rmp id =>
    obtain ⟨b, hK, rfl⟩ := p
    obtain ⟨ki', k1, k2⟩ := hk id _ hK
    cases ki' <;> simp [kle] at k2
    subst k2; exact ⟨_, k1, rfl⟩
  case ref id off =>
    obtain ⟨b, hK, rfl⟩ := p
    obtain ⟨ki', k1, k2⟩ := hk id _ hK
    cases ki' <;> simp [kle] at k2
    subst k2; exact ⟨_, k1, rfl⟩
  case eref sz id i off =>
    obtain ⟨b, n, hK, h1, rfl⟩ := p
    obtain ⟨ki', k1, k2⟩ := hk id _ hK
    cases ki' <;> simp [kle] at k2
    obtain ⟨rfl, rfl, rfl⟩ := k2
    exact ⟨_, _, k1, h1, rfl⟩
  case iter id =>
    obtain ⟨b, hK, rfl⟩ := p
    obtain ⟨ki', k1, k2⟩ := hk id _ hK
    cases ki' <;> simp [kle] at k2
    subst k2; exact ⟨_, k1, rfl⟩

theorem VRc.mono (hk : KLe K K') (h : Kept S w S' w') {y : AV} {u : Value} (p : VRc K S w y u) : VRc K' S' w' y u := by
  cases y
  case func f cap =>
    obtain ⟨cs, h1, h2, h3⟩ := p
    exact ⟨cs, h1, h2, fun j y c hy hc => (h3 j y c hy hc).mono hk h⟩
  all_goals (simp only [VRc] at p ⊢; exact VR0.mono hk h p)

theorem VRa.mono (hk : KLe K K') (h : Kept S w S' w') {y : AV} {u : Value} (p : VRa K S w y u) : VRa K' S' w' y u := by
  cases y
  case agg ys =>
    obtain ⟨cs, h1, h2, h3⟩ := p
    exact ⟨cs, h1, h2, fun j y c hy hc => (h3 j y c hy hc).mono hk h⟩
  all_goals (simp only [VRa] at p ⊢; exact VRc.mono hk h p)

theorem VR.mono (hk : KLe K K') (h : Kept S w S' w') {y : AV} {u : Value} (p : VR K S w y u) : VR K' S' w' y u := by
  cases y
  case tup ys =>
    obtain ⟨cs, h1, h2, h3⟩ := p
    exact ⟨cs, h1, h2, fun j y c hy hc => (h3 j y c hy hc).mono hk h⟩
  all_goals (simp only [VR] at p ⊢; exact VRa.mono hk h p)
end

/-- What a walk over a map has before it. -/
def IterOk (S : Stb) (w : World) (es : List (AV × AV)) (cur : Option (AV × AV)) (m : Option Nat) (since : Nat) (seen : Array Nat) (stepped : Nat) : Prop :=
  match m with
  | none => es = [] ∧ cur = none
  | some mb => ∃ ents clock, (∀ off, S mb off) ∧ w.heap[mb]? = some (.map ents clock) ∧ since = clock ∧ stepped = clock ∧
      (∀ (i : Nat) (e : MapEntry), ents[i]? = some e → e.born < clock) ∧ (∀ (i j : Nat) (e e' : MapEntry), ents[i]? = some e → ents[j]? = some e' → e.born = e'.born → i = j) ∧
      (ents.toList.filter fun e => !seen.contains e.born).length = es.length ∧
      (∀ (i : Nat) (p : AV × AV) (e : MapEntry), es[i]? = some p → (ents.toList.filter fun e => !seen.contains e.born)[i]? = some e → PR S w p.1 e.key) ∧
      (∀ (i : Nat) (p : AV × AV) (e : MapEntry), es[i]? = some p → (ents.toList.filter fun e => !seen.contains e.born)[i]? = some e → PR S w p.2 e.val) ∧
      (∀ p, cur = some p → ∃ e ∈ ents.toList, seen.back? = some e.born ∧ PR S w p.1 e.key ∧ PR S w p.2 e.val)

theorem IterOk.mono {S S' : Stb} {w w' : World} (h : Kept S w S' w') {es : List (AV × AV)} {cur : Option (AV × AV)} {m : Option Nat} {since : Nat} {seen : Array Nat} {stepped : Nat}
    (p : IterOk S w es cur m since seen stepped) : IterOk S' w' es cur m since seen stepped := by
  cases m with
  | none => exact p
  | some mb =>
    obtain ⟨ents, clock, h1, h2, h3, h4, h5, h6, h7, h8, h9, h10⟩ := p
    refine ⟨ents, clock, fun off => h.sub _ _ (h1 off), (h.whole mb h1).trans h2, h3, h4, h5, h6, h7, fun i p e a b => (h8 i p e a b).mono h, fun i p e a b => (h9 i p e a b).mono h, fun p hp => ?_⟩
    obtain ⟨e, e1, e2, e3, e4⟩ := h10 p hp
    exact ⟨e, e1, e2, e3.mono h, e4.mono h⟩

/-- The contents of a block. -/
def BR (K : KM) (S : Stb) (w : World) : Blk → KI → Prop
  | .var cs, .var b => ∃ arr e, w.heap[b]? = some (.cells arr e (0, 0)) ∧ arr.size = cs.length ∧ ∀ (j : Nat) (y : AV) (u : Value), cs[j]? = some y → arr[j]? = some u → VRc K S w y u
  | .arr sz xs, .arr b sz' n => sz = sz' ∧ n = xs.length ∧ (∀ (i : Nat) (x : List AV), xs[i]? = some x → x.length = sz) ∧ ∃ arr e, w.heap[b]? = some (.cells arr e (0, 0)) ∧ xs.length * sz ≤ arr.size ∧
      ∀ (i : Nat) (x : List AV) (j : Nat) (y : AV) (u : Value), xs[i]? = some x → x[j]? = some y → arr[i * sz + j]? = some u → PR S w y u
  | .grow sz n, .grow loc sz' n' => sz = sz' ∧ n = n' ∧ match loc with
      | none => n = 0
      | some (b, cap) => n ≤ cap ∧ ∃ arr e, w.heap[b]? = some (.cells arr e (0, 0)) ∧ arr.size = cap * sz
  | .mp es, .mp b => ∃ ents clock, w.heap[b]? = some (.map ents clock) ∧ EntsOk es ents clock ∧
      (∀ (i : Nat) (p : AV × AV) (e : MapEntry), es[i]? = some p → ents[i]? = some e → PR S w p.1 e.key) ∧ (∀ (i : Nat) (p : AV × AV) (e : MapEntry), es[i]? = some p → ents[i]? = some e → PR S w p.2 e.val)
  | .iter es cur, .iter b => ∃ m since seen stepped, w.heap[b]? = some (.mapIter m since seen stepped) ∧ IterOk S w es cur m since seen stepped
  | _, _ => False

/-- The abstract heap lies in the world. -/
structure HRel (nG : Nat) (G0 : Nat → Option Obj) (K : KM) (S : Stb) (hp : Nat → Option Blk) (w : World) : Prop where
  dom : ∀ id, (K id).isSome = (hp id).isSome
  blk : ∀ id bl ki, hp id = some bl → K id = some ki → BR K S w bl ki
  inj : ∀ id id' ki ki' b, K id = some ki → K id' = some ki' → ki.blk = some b → ki'.blk = some b → id = id'
  lt : ∀ b off, S b off → b < w.heap.size
  apart : ∀ b off id ki, S b off → K id = some ki → ki.blk = some b → ∃ l sz n, ki = .grow l sz n ∧ off < n * sz
  glob : ∀ id ki b, K id = some ki → ki.blk = some b → nG ≤ b
  fix : ∀ b, b < nG → w.heap[b]? = G0 b
  nG : nG ≤ w.heap.size

/-- From one world to a later one. -/
structure Ext (n0 : Nat) (K : KM) (S : Stb) (w : World) (K' : KM) (S' : Stb) (w' : World) : Prop where
  os : w'.os = w.os
  tape : w'.tape = w.tape
  output : w'.output = w.output
  size : w.heap.size ≤ w'.heap.size
  frame : ∀ b, b < w.heap.size → (∀ id ki, K id = some ki → ki.blk ≠ some b) → w'.heap[b]? = w.heap[b]?
  new : ∀ id ki b, K' id = some ki → ki.blk = some b → (∃ id0 ki0, K id0 = some ki0 ∧ ki0.blk = some b) ∨ w.heap.size ≤ b
  kept : Kept S w S' w'
  snew : ∀ b off, S' b off → S b off ∨ w.heap.size ≤ b ∨ ∃ id ki, K id = some ki ∧ ki.blk = some b
  base : ∀ id ki, id < n0 → K id = some ki → ∃ ki', K' id = some ki' ∧ kle ki ki'

theorem Ext.refl (n0 : Nat) (K : KM) (S : Stb) (w : World) : Ext n0 K S w K S w :=
  ⟨rfl, rfl, rfl, Nat.le_refl _, fun _ _ _ => rfl, fun id ki _ h hb => .inl ⟨id, ki, h, hb⟩, Kept.refl S w, fun _ _ h => .inl h, fun _ ki _ h => ⟨ki, h, kle.refl ki⟩⟩

theorem Ext.trans {n0 : Nat} {K K' K'' : KM} {S S' S'' : Stb} {w w' w'' : World} (h : Ext n0 K S w K' S' w') (k : Ext n0 K' S' w' K'' S'' w'') : Ext n0 K S w K'' S'' w'' where
  os := k.os.trans h.os
  tape := k.tape.trans h.tape
  output := k.output.trans h.output
  size := Nat.le_trans h.size k.size
  frame b hb hn := by
    refine (k.frame b (Nat.lt_of_lt_of_le hb h.size) fun id ki hi he => ?_).trans (h.frame b hb hn)
    rcases h.new id ki b hi he with ⟨id0, ki0, h1, h2⟩ | h1
    · exact hn id0 ki0 h1 h2
    · omega
  new id ki b hi hb := by
    rcases k.new id ki b hi hb with ⟨id0, ki0, h1, h2⟩ | h1
    · exact h.new id0 ki0 b h1 h2
    · exact .inr (Nat.le_trans h.size h1)
  kept := h.kept.trans k.kept
  snew b off hs := by
    rcases k.snew b off hs with h1 | h1 | ⟨id, ki, h1, h2⟩
    · exact h.snew b off h1
    · exact .inr (.inl (Nat.le_trans h.size h1))
    · rcases h.new id ki b h1 h2 with h3 | h3
      · exact .inr (.inr h3)
      · exact .inr (.inl h3)
  base id ki hid hk := by
    obtain ⟨k1, h1, h2⟩ := h.base id ki hid hk
    obtain ⟨k2, h4, h5⟩ := k.base id k1 hid h1
    exact ⟨k2, h4, h2.trans h5⟩

end Go.Ab

namespace Go.Ab

inductive CK where
  | bool | int (k : IntKind) | str | sl (sz : Nat) | mp | func | iface | ptr
  deriving Inhabited

inductive TK where
  | scalar (c : CK)
  | slice (elem : Nat)
  | arr (n elem : Nat)
  | struct (fs : List (Nat × Nat))
  | map (key elem : Nat)
  deriving Inhabited

def TK.isAgg : TK → Bool
  | .arr _ _ => true
  | .struct _ => true
  | _ => false

structure TI where
  kind : TK
  size : Nat
  bytes : Nat
  cells : List CK
  deriving Inhabited

abbrev Tab := Nat → Option TI

def zeroC : CK → Value
  | .bool => .bool false
  | .int k => .int k 0
  | .str => .string .empty
  | .sl _ => .slice none 0 0
  | .mp => .map none
  | .func => .nilFunc
  | .iface => .nilIface
  | .ptr => .pointer none

def zeroA : CK → AV
  | .bool => .bool false
  | .int k => .int k 0
  | .str => .str []
  | .sl sz => .sl sz true none []
  | .mp => .mp true []
  | .func => .nilFunc
  | .iface => .nilIface
  | .ptr => .dead

def TI.zeroV (ti : TI) : Value := if ti.kind.isAgg then .agg (ti.cells.map zeroC).toArray else zeroC (ti.cells.headD .bool)

def scalarDesc : CK → TypeDesc → Prop
  | .bool, .bool => True
  | .int k, .int k' => k = k'
  | .str, .string => True
  | .func, .func _ _ _ => True
  | .iface, .interface _ => True
  | .ptr, .pointer _ => True
  | _, _ => False

def kindOk (P : Program) (t : TypeId) : TK → Prop
  | .scalar c => ∃ d, P.underlying t = some d ∧ scalarDesc c d
  | .slice e => P.underlying t = some (.slice e)
  | .arr n e => P.underlying t = some (.array n e)
  | .struct fs => ∃ fields : Array Field, P.underlying t = some (.struct fields) ∧ fields.toList.map (fun f => (f.offset, f.type)) = fs ∧ (∀ f ∈ fields, f.name ≠ "_") ∧ P.stoodInHeld t = false
  | .map k e => P.underlying t = some (.map k e)

structure TIok (P : Program) (t : TypeId) (ti : TI) : Prop where
  info : ∃ i, P.info? t = some i ∧ i.size = ti.size ∧ i.bytes = ti.bytes ∧ i.zero = some ti.zeroV
  kind : kindOk P t ti.kind
  len : ti.cells.length = ti.size
  one : ti.kind.isAgg = false → ti.size = 1

def TabOk (P : Program) (tab : Tab) : Prop := ∀ t ti, tab t = some ti → TIok P t ti

section
variable {P : Program} {t : TypeId} {ti : TI}

theorem TIok.run_info (h : TIok P t ti) (w : World) : ∃ i, (typeInfo t).run P w = .ok i w ∧ i.size = ti.size ∧ i.bytes = ti.bytes ∧ i.zero = some ti.zeroV := by
  obtain ⟨i, h1, h2⟩ := h.info
  exact ⟨i, by simp [typeInfo, h1], h2⟩

theorem TIok.run_size (h : TIok P t ti) (w : World) : (sizeOf t).run P w = .ok ti.size w := by
  obtain ⟨i, h1, h2, _⟩ := h.run_info w
  simp [sizeOf, h1, h2]

theorem TIok.run_zero (h : TIok P t ti) (w : World) : (zeroValue t).run P w = .ok ti.zeroV w := by
  obtain ⟨i, h1, _, _, h2⟩ := h.run_info w
  simp [zeroValue, h1, h2]

theorem run_under {d : TypeDesc} (h : P.underlying t = some d) (w : World) : (underlying t).run P w = .ok d w := by
  simp [underlying, h]

theorem TIok.run_isAgg (h : TIok P t ti) (w : World) : (isAgg t).run P w = .ok ti.kind.isAgg w := by
  have hk := h.kind
  cases hc : ti.kind with
  | scalar c =>
    rw [hc] at hk
    obtain ⟨d, hd, hs⟩ := hk
    cases c <;> cases d <;> simp [scalarDesc] at hs <;> simp [isAgg, run_under hd, TK.isAgg]
  | slice e => rw [hc] at hk; simp [isAgg, run_under hk, TK.isAgg]
  | arr n e => rw [hc] at hk; simp [isAgg, run_under hk, TK.isAgg]
  | struct fs => rw [hc] at hk; obtain ⟨fields, hd, _⟩ := hk; simp [isAgg, run_under hd, TK.isAgg]
  | map k e => rw [hc] at hk; simp [isAgg, run_under hk, TK.isAgg]
end

/-- The frame and the heap. -/
def upd (n : Nat) (tm : Nat → AV) (d : Option Nat) (v : AV) : Nat → AV :=
  match d with
  | some d => fun t => if t = d ∧ d < n then v else tm t
  | none => tm

def updH (hp : Nat → Option Blk) : List (Nat × Blk) → Nat → Option Blk
  | [] => hp
  | (id, b) :: r => updH (fun i => if i = id then some b else hp i) r

structure RelF (nG : Nat) (G0 : Nat → Option Obj) (n : Nat) (K : KM) (S : Stb) (tm : Nat → AV) (hp : Nat → Option Blk) (a : Act) (w : World) : Prop where
  defers : a.defers = []
  size : a.tmps.size = n
  tmp : ∀ t, VR K S w (tm t) (a.tmps.getD t undef)
  heap : HRel nG G0 K S hp w

def constA : Value → AV
  | .bool b => .bool b
  | .int k n => .int k n
  | .string s => .str s.data.toList
  | .slice none 0 0 => .nils
  | .map none => .mp true []
  | .nilIface => .nilIface
  | .nilFunc => .nilFunc
  | _ => .dead

def evA (tm : Nat → AV) : Operand → AV
  | .tmp t => tm t
  | .const v => constA v
  | .global _ => .dead
  | .func f => .func f []

theorem VR_dead (K : KM) (S : Stb) (w : World) (u : Value) : VR K S w .dead u := by simp [VR, VRa, VRc, VR0]

theorem VR_constA (K : KM) (S : Stb) (w : World) (v : Value) : VR K S w (constA v) v := by
  unfold constA
  split <;> try exact VR_dead _ _ _ _
  · exact .bool _
  · exact .int _ _
  · rename_i s
    have := PR.str (S := S) (w := w) s.data.toList
    simpa [VR, VRa, VRc, VR0] using this
  · exact .nils
  · exact .mpNil
  · exact .nilIface
  · exact .nilFunc

theorem RelF.ev {nG : Nat} {G0 : Nat → Option Obj} {n : Nat} {K : KM} {S : Stb} {tm : Nat → AV} {hp : Nat → Option Blk} {a : Act} {w : World} (h : RelF nG G0 n K S tm hp a w) (x : Operand) :
    VR K S w (evA tm x) (a.eval x) := by
  cases x with
  | tmp t => exact h.tmp t
  | const v => exact VR_constA _ _ _ v
  | global g => exact VR_dead _ _ _ _
  | func f => exact ⟨[], rfl, rfl, fun j y c hy _ => by simp at hy⟩

/-- That an operation, wherever its operands and the blocks 'rd' are as told, gives v and writes ws. -/
def OpSnd (P : Program) (nG : Nat) (G0 : Nat → Option Obj) (n0 : Nat) (o : Oper) (v : AV) (ws : List (Nat × Blk)) (rd : List Nat) (tm0 : Nat → AV) (hp0 : Nat → Option Blk) : Prop :=
  ∀ n K S tm hp a w, RelF nG G0 n K S tm hp a w → (∀ x ∈ o.op.operands, evA tm x = evA tm0 x) → (∀ id ∈ rd, hp id = hp0 id) → (∀ p ∈ ws, p.1 ∈ rd ∨ (hp p.1 = none ∧ n0 ≤ p.1)) →
    ∀ (next : Act → World → Prop) (QC : Exit → Act → World → Prop),
      (∀ u w' K' S', VR K' S' w' v u → HRel nG G0 K' S' (updH hp ws) w' → Ext n0 K S w K' S' w' → KLe K K' → next (a.put o.dst u) w') →
      o.wp P a w next QC

section
variable {P : Program} {nG : Nat} {G0 : Nat → Option Obj} {n0 : Nat} {o : Oper} {v : AV} {rd : List Nat} {tm0 : Nat → AV} {hp0 : Nat → Option Blk}

/-- An operation that only looks. -/
theorem OpSnd.look (h : ∀ n K S tm hp a w, RelF nG G0 n K S tm hp a w → (∀ x ∈ o.op.operands, VR K S w (evA tm0 x) (a.eval x)) → (∀ id ∈ rd, hp id = hp0 id) →
    ∃ u, (execOp a.eval o).run P w = .ok (.value u) w ∧ VR K S w v u) : OpSnd P nG G0 n0 o v [] rd tm0 hp0 := by
  intro n K S tm hp a w hr hx hh _ next QC hn
  obtain ⟨u, hu, hv⟩ := h n K S tm hp a w hr (fun x hm => hx x hm ▸ hr.ev x) hh
  unfold Oper.wp
  rw [hu, Oper.upon_value]
  exact hn u w K S hv hr.heap (Ext.refl _ _ _ _) (KLe.refl _)

/-- A new block. -/
def updK (K : KM) (id : Nat) (ki : KI) : KM := fun i => if i = id then some ki else K i

theorem KLe.new {K : KM} {id : Nat} {ki : KI} (h : K id = none) : KLe K (updK K id ki) := by
  intro i k hk
  refine ⟨k, ?_, kle.refl k⟩
  unfold updK
  rw [if_neg]
  · exact hk
  · rintro rfl; rw [h] at hk; cases hk
end

/-- A world with one object more. -/
theorem heap_alloc_lt (w : World) (ob : Obj) (b : Nat) (h : b < w.heap.size) : (w.alloc ob).heap[b]? = w.heap[b]? := by
  show (w.heap.push ob)[b]? = _
  rw [Array.getElem?_push, if_neg (by omega)]

theorem heap_alloc_eq (w : World) (ob : Obj) : (w.alloc ob).heap[w.heap.size]? = some ob := by
  show (w.heap.push ob)[w.heap.size]? = _
  rw [Array.getElem?_push, if_pos rfl]

theorem cell_of_heap {w w' : World} {b off : Nat} (h : w'.heap[b]? = w.heap[b]?) : w'.cell? (ad b off) = w.cell? (ad b off) := by
  simp [World.cell?, ad, h]

theorem HRel.dom_none {nG : Nat} {G0 : Nat → Option Obj} {K : KM} {S : Stb} {hp : Nat → Option Blk} {w : World} (h : HRel nG G0 K S hp w) {id : Nat} (hn : hp id = none) : K id = none := by
  have := h.dom id
  rw [hn] at this
  cases hk : K id <;> simp_all

/-- Which blocks of the heap a K names lie below its size. -/
theorem BR.lt {K : KM} {S : Stb} {w : World} {bl : Blk} {ki : KI} (h : BR K S w bl ki) {b : Nat} (hb : ki.blk = some b) : b < w.heap.size := by
  have key : ∀ {o : Obj}, w.heap[b]? = some o → b < w.heap.size := fun h => (Array.getElem?_eq_some_iff.1 h).1
  cases bl <;> cases ki <;> simp only [BR] at h <;> simp only [KI.blk, Option.some.injEq, Option.map_eq_some_iff] at hb
  · subst hb; obtain ⟨arr, e, h1, _⟩ := h; exact key h1
  · subst hb; obtain ⟨_, _, _, arr, e, h1, _⟩ := h; exact key h1
  · obtain ⟨⟨b', cap⟩, rfl, rfl⟩ := hb
    obtain ⟨_, _, _, arr, e, h1, _⟩ := h; exact key h1
  · subst hb; obtain ⟨ents, clock, h1, _⟩ := h; exact key h1
  · subst hb; obtain ⟨m, since, seen, stepped, h1, _⟩ := h; exact key h1

end Go.Ab

namespace Go.Ab

theorem BR.mono {K K' : KM} {S S' : Stb} {w w' : World} (hk : KLe K K') (h : Kept S w S' w') {bl : Blk} {ki : KI} (hb : ∀ b, ki.blk = some b → w'.heap[b]? = w.heap[b]?)
    (p : BR K S w bl ki) : BR K' S' w' bl ki := by
  cases bl <;> cases ki <;> simp only [BR] at p ⊢
  case var.var cs b =>
    obtain ⟨arr, e, h1, h2, h3⟩ := p
    exact ⟨arr, e, (hb b rfl).trans h1, h2, fun j y u hy hu => (h3 j y u hy hu).mono hk h⟩
  case arr.arr sz xs b sz' n =>
    obtain ⟨h1, h2, h3, arr, e, h4, h5, h6⟩ := p
    exact ⟨h1, h2, h3, arr, e, (hb b rfl).trans h4, h5, fun i x j y u hx hy hu => (h6 i x j y u hx hy hu).mono h⟩
  case grow.grow sz n loc sz' n' =>
    obtain ⟨h1, h2, h3⟩ := p
    refine ⟨h1, h2, ?_⟩
    cases loc with
    | none => exact h3
    | some l =>
      obtain ⟨h4, arr, e, h5, h6⟩ := h3
      exact ⟨h4, arr, e, (hb l.1 rfl).trans h5, h6⟩
  case mp.mp es b =>
    obtain ⟨ents, clock, h1, h2, h3, h4⟩ := p
    exact ⟨ents, clock, (hb b rfl).trans h1, h2, fun i p e hp he => (h3 i p e hp he).mono h, fun i p e hp he => (h4 i p e hp he).mono h⟩
  case iter.iter es cur b =>
    obtain ⟨m, since, seen, stepped, h1, h2⟩ := p
    exact ⟨m, since, seen, stepped, (hb b rfl).trans h1, h2.mono h⟩

section
variable {nG : Nat} {G0 : Nat → Option Obj} {n0 : Nat} {K : KM} {S S' : Stb} {hp : Nat → Option Blk} {w w' : World} {id : Nat} {ki' : KI} {bl : Blk}

/-- A block of the abstract heap that is whole stable is none that turns. -/
theorem HRel.whole_apart (h : HRel nG G0 K S hp w) {b : Nat} (hb : ∀ off, S b off) {i : Nat} {ki : KI} (hi : K i = some ki) : ki.blk ≠ some b := by
  intro hk
  obtain ⟨l, sz, n, rfl, hlt⟩ := h.apart b _ i ki (hb 0) hi hk
  obtain ⟨l', sz', n', he, hlt'⟩ := h.apart b _ i _ (hb (n * sz)) hi hk
  cases he
  omega

/-- ONE BLOCK TURNS, OR COMES. -/
theorem HRel.gen (h : HRel nG G0 K S hp w) (hos : w'.os = w.os) (htape : w'.tape = w.tape) (hout : w'.output = w.output) (hsz : w.heap.size ≤ w'.heap.size)
    (hblk : ∀ b, b < w.heap.size → (∀ ki, K id = some ki → ki.blk ≠ some b) → w'.heap[b]? = w.heap[b]?)
    (hki : ∀ b, ki'.blk = some b → (∃ ki, K id = some ki ∧ ki.blk = some b) ∨ w.heap.size ≤ b)
    (hcell : ∀ b off, S b off → w'.cell? (ad b off) = w.cell? (ad b off))
    (hsub : ∀ b off, S b off → S' b off)
    (hnew : ∀ b off, S' b off → S b off ∨ (ki'.blk = some b ∧ ∃ l sz n, ki' = .grow l sz n ∧ off < n * sz))
    (hkle : ∀ ki, K id = some ki → kle ki ki')
    (hid : K id = none → n0 ≤ id)
    (hbr : BR (updK K id ki') S' w' bl ki') :
    HRel nG G0 (updK K id ki') S' (updH hp [(id, bl)]) w' ∧ Ext n0 K S w (updK K id ki') S' w' ∧ KLe K (updK K id ki') := by
  have hK : KLe K (updK K id ki') := by
    intro i k hk
    by_cases e : i = id
    · subst e; exact ⟨ki', by simp [updK], hkle k hk⟩
    · exact ⟨k, by simp [updK, e, hk], kle.refl k⟩
  have hkept : Kept S w S' w' := by
    refine ⟨hsub, hcell, fun b hb => ?_⟩
    exact hblk b (h.lt b 0 (hb 0)) fun ki hi => h.whole_apart hb hi
  have hltK : ∀ i ki b, K i = some ki → ki.blk = some b → b < w.heap.size := by
    intro i ki b hi hb
    have hd := h.dom i
    rw [hi] at hd
    obtain ⟨bl', hbl'⟩ := Option.isSome_iff_exists.1 hd.symm
    exact (h.blk i bl' ki hbl' hi).lt hb
  refine ⟨⟨?_, ?_, ?_, ?_, ?_, ?_, ?_, Nat.le_trans h.nG hsz⟩, ⟨hos, htape, hout, hsz, ?_, ?_, hkept, ?_, ?_⟩, hK⟩
  · intro i
    by_cases e : i = id <;> simp [updK, updH, e, h.dom i]
  · intro i b' ki hb' hi
    by_cases e : i = id
    · subst e
      simp [updK] at hi
      simp [updH] at hb'
      subst hi; subst hb'; exact hbr
    · simp [updK, e] at hi
      simp [updH, e] at hb'
      refine (h.blk i b' ki hb' hi).mono hK hkept fun b hb => hblk b (hltK i ki b hi hb) fun k hk hb2 => e (h.inj i id ki k b hi hk hb hb2)
  · intro i j ki kj b hi hj hbi hbj
    by_cases ei : i = id <;> by_cases ej : j = id
    · rw [ei, ej]
    · subst ei
      simp [updK] at hi
      simp [updK, ej] at hj
      subst hi
      rcases hki b hbi with ⟨k, hk, hb⟩ | hge
      · exact (h.inj _ _ _ _ b hk hj hb hbj)
      · have := hltK j kj b hj hbj; omega
    · subst ej
      simp [updK] at hj
      simp [updK, ei] at hi
      subst hj
      rcases hki b hbj with ⟨k, hk, hb⟩ | hge
      · exact (h.inj _ _ _ _ b hi hk hbi hb)
      · have := hltK i ki b hi hbi; omega
    · simp [updK, ei] at hi
      simp [updK, ej] at hj
      exact h.inj i j ki kj b hi hj hbi hbj
  · intro b off hs
    rcases hnew b off hs with h1 | ⟨h1, _⟩
    · exact Nat.lt_of_lt_of_le (h.lt b off h1) hsz
    · exact hbr.lt h1
  · intro b off i ki hs hi hb
    by_cases e : i = id
    · subst e
      simp [updK] at hi
      subst hi
      rcases hnew b off hs with h1 | ⟨_, h2⟩
      · rcases hki b hb with ⟨k, hk, hbk⟩ | hge
        · obtain ⟨l, sz, n, rfl, hlt⟩ := h.apart b off _ k h1 hk hbk
          have hl := hkle _ hk
          cases ki' <;> simp [kle] at hl
          rename_i l' sz' n'
          refine ⟨l', sz', n', rfl, ?_⟩
          obtain ⟨rfl, ⟨rfl, _⟩ | hn⟩ := hl
          · exact hlt
          · exact Nat.lt_of_lt_of_le hlt (Nat.mul_le_mul_right _ (Nat.le_of_lt hn))
        · have := h.lt b off h1; omega
      · exact h2
    · simp [updK, e] at hi
      rcases hnew b off hs with h1 | ⟨h1, _⟩
      · exact h.apart b off i ki h1 hi hb
      · rcases hki b h1 with ⟨k, hk, hbk⟩ | hge
        · exact absurd (h.inj i id ki k b hi hk hb hbk) e
        · have := hltK i ki b hi hb; omega
  · intro i ki b hi hb
    by_cases e : i = id
    · subst e
      simp [updK] at hi
      subst hi
      rcases hki b hb with ⟨k, hk, hbk⟩ | hge
      · exact h.glob _ k b hk hbk
      · exact Nat.le_trans h.nG hge
    · simp [updK, e] at hi
      exact h.glob i ki b hi hb
  · intro b hb
    rw [← h.fix b hb]
    refine hblk b (Nat.lt_of_lt_of_le hb h.nG) fun ki hi hbk => ?_
    have := h.glob id ki b hi hbk
    omega
  · intro b hb hn
    exact hblk b hb fun ki hi => hn id ki hi
  · intro i ki b hi hb
    by_cases e : i = id
    · subst e
      simp [updK] at hi
      subst hi
      rcases hki b hb with ⟨k, hk, hbk⟩ | hge
      · exact .inl ⟨_, k, hk, hbk⟩
      · exact .inr hge
    · simp [updK, e] at hi
      exact .inl ⟨i, ki, hi, hb⟩
  · intro b off hs
    rcases hnew b off hs with h1 | ⟨h1, _⟩
    · exact .inl h1
    · rcases hki b h1 with ⟨k, hk, hbk⟩ | hge
      · exact .inr (.inr ⟨id, k, hk, hbk⟩)
      · exact .inr (.inl hge)
  · intro i ki hi hk
    by_cases e : i = id
    · subst e; exact ⟨ki', by simp [updK], hkle ki hk⟩
    · exact ⟨ki, by simp [updK, e, hk], kle.refl ki⟩
end

section
variable {P : Program} {nG : Nat} {G0 : Nat → Option Obj} {n0 : Nat} {o : Oper} {v : AV} {rd : List Nat} {tm0 : Nat → AV} {hp0 : Nat → Option Blk} {id : Nat} {bl : Blk}

/-- A new block is laid: the object 'ob'. -/
theorem OpSnd.new (hrd : id ∉ rd)
    (h : ∀ n K S tm hp a w, RelF nG G0 n K S tm hp a w → (∀ x ∈ o.op.operands, VR K S w (evA tm0 x) (a.eval x)) → (∀ id ∈ rd, hp id = hp0 id) →
      ∃ u ob ki m, (execOp a.eval o).run P w = .ok (.value u) (w.alloc ob) ∧ ki.blk = some w.heap.size ∧ (m = 0 ∨ ∃ l sz n, ki = .grow l sz n ∧ m ≤ n * sz) ∧
        (KLe K (updK K id ki) → Kept S w (fun b off => S b off ∨ (b = w.heap.size ∧ off < m)) (w.alloc ob) →
          BR (updK K id ki) (fun b off => S b off ∨ (b = w.heap.size ∧ off < m)) (w.alloc ob) bl ki ∧
          VR (updK K id ki) (fun b off => S b off ∨ (b = w.heap.size ∧ off < m)) (w.alloc ob) v u)) :
    OpSnd P nG G0 n0 o v [(id, bl)] rd tm0 hp0 := by
  intro n K S tm hp a w hr hx hh hws next QC hn
  obtain ⟨hid, hn0⟩ : hp id = none ∧ n0 ≤ id := (hws (id, bl) (by simp)).resolve_left hrd
  have hKn := hr.heap.dom_none hid
  obtain ⟨u, ob, ki, m, hrun, hki, hm, hrest⟩ := h n K S tm hp a w hr (fun x hm => hx x hm ▸ hr.ev x) hh
  have hkept : Kept S w (fun b off => S b off ∨ (b = w.heap.size ∧ off < m)) (w.alloc ob) := by
    refine ⟨fun _ _ h => .inl h, fun b off hs => cell_of_heap (heap_alloc_lt w ob b (hr.heap.lt b off hs)), fun b hs => heap_alloc_lt w ob b (hr.heap.lt b 0 (hs 0))⟩
  obtain ⟨hbr, hv⟩ := hrest (KLe.new hKn) hkept
  obtain ⟨h1, h2, h3⟩ := hr.heap.gen (n0 := n0) (w' := w.alloc ob) (id := id) (ki' := ki) (bl := bl) (S' := fun b off => S b off ∨ (b = w.heap.size ∧ off < m)) rfl rfl rfl (by simp)
    (fun b hb _ => heap_alloc_lt w ob b hb) (fun b hb => by rw [hki] at hb; cases hb; exact .inr (Nat.le_refl _))
    (fun b off hs => cell_of_heap (heap_alloc_lt w ob b (hr.heap.lt b off hs))) (fun _ _ h => .inl h)
    (fun b off hs => by
      rcases hs with hs | ⟨rfl, hlt⟩
      · exact .inl hs
      · rcases hm with rfl | ⟨l, sz, n, rfl, hle⟩
        · omega
        · exact .inr ⟨hki, l, sz, n, rfl, by omega⟩)
    (fun ki hk => by rw [hKn] at hk; cases hk) (fun _ => hn0) hbr
  unfold Oper.wp
  rw [hrun, Oper.upon_value]
  exact hn u _ _ _ hv h1 h2 h3

/-- A block that is not appended to turns in place. -/
theorem OpSnd.set (hrd : id ∈ rd)
    (h : ∀ n K S tm hp a w, RelF nG G0 n K S tm hp a w → (∀ x ∈ o.op.operands, VR K S w (evA tm0 x) (a.eval x)) → (∀ id ∈ rd, hp id = hp0 id) →
      ∃ u w' ki b, ((execOp a.eval o).run P w = .ok (.value u) w' ∨ ((execOp a.eval o).run P w = .ok .skip w' ∧ u = undef)) ∧ K id = some ki ∧ ki.blk = some b ∧ (∀ l sz n, ki ≠ .grow l sz n) ∧
        w'.os = w.os ∧ w'.tape = w.tape ∧ w'.output = w.output ∧ w'.heap.size = w.heap.size ∧ (∀ b', b' ≠ b → w'.heap[b']? = w.heap[b']?) ∧
        (Kept S w S w' → BR K S w' bl ki ∧ VR K S w' v u)) :
    OpSnd P nG G0 n0 o v [(id, bl)] rd tm0 hp0 := by
  intro n K S tm hp a w hr hx hh hws next QC hn
  obtain ⟨u, w', ki, b, hrun, hK, hb, hng, e1, e2, e3, e4, e5, hrest⟩ := h n K S tm hp a w hr (fun x hm => hx x hm ▸ hr.ev x) hh
  have hne : ∀ b' off, S b' off → b' ≠ b := by
    rintro b' off hs rfl
    obtain ⟨l, sz, n, rfl, _⟩ := hr.heap.apart b' off id ki hs hK hb
    exact hng _ _ _ rfl
  have hkept : Kept S w S w' := ⟨fun _ _ h => h, fun b' off hs => cell_of_heap (e5 b' (hne b' off hs)), fun b' hs => e5 b' (hne b' 0 (hs 0))⟩
  obtain ⟨hbr, hv⟩ := hrest hkept
  have hupd : updK K id ki = K := by
    funext i
    by_cases e : i = id
    · subst e; simp [updK, hK]
    · simp [updK, e]
  obtain ⟨h1, h2, h3⟩ := hr.heap.gen (n0 := n0) (w' := w') (id := id) (ki' := ki) (bl := bl) (S' := S) e1 e2 e3 (by omega)
    (fun b' _ hn' => e5 b' fun e => hn' ki hK (e ▸ hb)) (fun b' hb' => .inl ⟨ki, hK, hb'⟩)
    (fun b' off hs => cell_of_heap (e5 b' (hne b' off hs))) (fun _ _ h => h) (fun _ _ h => .inl h)
    (fun k hk => by rw [hK] at hk; cases hk; exact kle.refl _) (fun hk => by rw [hK] at hk; cases hk) (by rw [hupd]; exact hbr)
  rw [hupd] at h1 h2 h3
  unfold Oper.wp
  rcases hrun with hrun | ⟨hrun, rfl⟩
  · rw [hrun, Oper.upon_value]
    exact hn u _ _ _ hv h1 h2 h3
  · rw [hrun, Oper.upon_skip]
    exact hn _ _ _ _ hv h1 h2 h3
end
end Go.Ab

namespace Go.Ab

theorem ad_add (b off j : Nat) : (ad b off).add j = ad b (off + j) := by
  unfold Addr.add ad
  split <;> simp_all

section inv
variable {K : KM} {S : Stb} {w : World} {u : Value}

theorem VR_bool {b : Bool} (h : VR K S w (.bool b) u) : u = .bool b := by
  simp only [VR, VRa, VRc, VR0] at h; cases h; rfl
theorem VR_int {k : IntKind} {n : Int} (h : VR K S w (.int k n) u) : u = .int k n := by
  simp only [VR, VRa, VRc, VR0] at h; cases h; rfl
theorem VR_str {s : List UInt8} (h : VR K S w (.str s) u) : u = .string ⟨s.toArray⟩ := by
  simp only [VR, VRa, VRc, VR0] at h; cases h; rfl
theorem VR_ref {id off : Nat} (h : VR K S w (.ref id off) u) : ∃ b, K id = some (.var b) ∧ u = .pointer (some (ad b off)) := by
  simpa only [VR, VRa, VRc, VR0] using h
theorem VR_eref {sz id i off : Nat} (h : VR K S w (.eref sz id i off) u) : ∃ b n, K id = some (.arr b sz n) ∧ i < n ∧ u = .pointer (some (ad b (i * sz + off))) := by
  simpa only [VR, VRa, VRc, VR0] using h
theorem VR_rsl {sz id off len : Nat} (h : VR K S w (.rsl sz id off len) u) : ∃ b n cap, K id = some (.arr b sz n) ∧ off + len ≤ n ∧ len ≤ cap ∧ u = .slice (some (ad b (off * sz))) len cap := by
  simpa only [VR, VRa, VRc, VR0] using h
theorem VR_rptr {cs : List AV} (h : VR K S w (.rptr cs) u) : PR S w (.rptr cs) u := by
  simpa only [VR, VRa, VRc, VR0] using h
theorem VR_sl {sz : Nat} {nil : Bool} {tok : Option Nat} {xs : List (List AV)} (h : VR K S w (.sl sz nil tok xs) u) : PR S w (.sl sz nil none xs) u := by
  cases tok with
  | none => simpa only [VR, VRa, VRc, VR0] using h
  | some τ => simp only [VR, VRa, VRc, VR0] at h; exact h.1
theorem VR_tok {sz : Nat} {nil : Bool} {τ : Nat} {xs : List (List AV)} (h : VR K S w (.sl sz nil (some τ) xs) u) : ∃ loc n, K τ = some (.grow loc sz n) ∧ xs.length ≤ n ∧ (xs.length = n → locMatch loc u) := by
  simp only [VR, VRa, VRc, VR0] at h; exact h.2
theorem VR_agg {ys : List AV} (h : VR K S w (.agg ys) u) : ∃ vs : Array Value, u = .agg vs ∧ vs.size = ys.length ∧ ∀ (j : Nat) (y : AV) (v : Value), ys[j]? = some y → vs[j]? = some v → VRc K S w y v := by
  simpa only [VR, VRa] using h
theorem VR_tup {ys : List AV} (h : VR K S w (.tup ys) u) : ∃ vs : Array Value, u = .tuple vs ∧ vs.size = ys.length ∧ ∀ (j : Nat) (y : AV) (v : Value), ys[j]? = some y → vs[j]? = some v → VRa K S w y v := by
  simpa only [VR] using h
theorem VR_nils (h : VR K S w .nils u) : u = .slice none 0 0 := by
  simp only [VR, VRa, VRc, VR0] at h; cases h; rfl
theorem VR_rmp {id : Nat} (h : VR K S w (.rmp id) u) : ∃ b, K id = some (.mp b) ∧ u = .map (some b) := by
  simpa only [VR, VRa, VRc, VR0] using h
theorem VR_mp {nil : Bool} {es : List (AV × AV)} (h : VR K S w (.mp nil es) u) : PR S w (.mp nil es) u := by
  simpa only [VR, VRa, VRc, VR0] using h
theorem VR_iter {id : Nat} (h : VR K S w (.iter id) u) : ∃ b, K id = some (.iter b) ∧ u = .pointer (some (ad b 0)) := by
  simpa only [VR, VRa, VRc, VR0] using h
theorem VR_func {f : Nat} {cap : List AV} (h : VR K S w (.func f cap) u) : ∃ cs : List Value, u = .func (.func f) #[] cs.toArray ∧ cs.length = cap.length ∧ ∀ (j : Nat) (y : AV) (c : Value), cap[j]? = some y → cs[j]? = some c → VR0 K S w y c := by
  simpa only [VR, VRa, VRc] using h

theorem PR.vr0 {y : AV} (h : PR S w y u) : VR0 K S w y u := by
  cases h <;> simp only [VR0] <;> constructor <;> assumption

theorem PR.vrc {y : AV} (h : PR S w y u) : VRc K S w y u := by
  cases h <;> simp only [VRc] <;> refine PR.vr0 ?_ <;> constructor <;> assumption

theorem PR.vr {y : AV} (h : PR S w y u) : VR K S w y u := by
  cases h <;> simp only [VR, VRa] <;> refine PR.vrc ?_ <;> constructor <;> assumption

theorem PR.one {y : AV} (h : PR S w y u) : u.cells = #[u] ∧ u.oneCell' = true := by
  cases h <;> exact ⟨rfl, rfl⟩

theorem VR0.one {y : AV} (h : VR0 K S w y u) (hd : y ≠ .dead) : u.cells = #[u] ∧ u.oneCell' = true := by
  cases y <;> simp only [VR0] at h <;> try exact PR.one h
  case sl sz nil tok xs =>
    cases tok with
    | none => exact PR.one h
    | some τ => exact PR.one h.1
  case rsl => obtain ⟨_, _, _, _, _, _, rfl⟩ := h; exact ⟨rfl, rfl⟩
  case rmp => obtain ⟨_, _, rfl⟩ := h; exact ⟨rfl, rfl⟩
  case ref => obtain ⟨_, _, rfl⟩ := h; exact ⟨rfl, rfl⟩
  case eref => obtain ⟨_, _, _, _, rfl⟩ := h; exact ⟨rfl, rfl⟩
  case iter => obtain ⟨_, _, rfl⟩ := h; exact ⟨rfl, rfl⟩
  case dead => exact absurd rfl hd

theorem VRc.one {y : AV} (h : VRc K S w y u) (hd : y ≠ .dead) : u.cells = #[u] ∧ u.oneCell' = true := by
  cases y
  case func f cap => obtain ⟨cs, rfl, _⟩ := h; exact ⟨rfl, rfl⟩
  all_goals (simp only [VRc] at h; exact VR0.one h hd)

/-- What can lie in a block. -/
def AV.solid : AV → Bool
  | .tup _ => false
  | .dead => false
  | .agg cs => cs.all fun y => match y with | .dead => false | .agg _ => false | .tup _ => false | _ => true
  | _ => true

theorem VR.cells {y : AV} (h : VR K S w y u) (hs : y.solid = true) :
    u.cells.size = y.cells.length ∧ ∀ (j : Nat) (y' : AV) (u' : Value), y.cells[j]? = some y' → u.cells[j]? = some u' → VRc K S w y' u' ∧ u'.oneCell' = true := by
  cases y
  case agg cs =>
    obtain ⟨vs, rfl, h1, h2⟩ := VR_agg h
    refine ⟨h1, fun j y' u' hy hu => ⟨h2 j y' u' hy hu, ?_⟩⟩
    refine ((h2 j y' u' hy hu).one ?_).2
    rintro rfl
    simp only [AV.solid, List.all_eq_true] at hs
    have := hs _ (List.mem_of_getElem? hy)
    simp at this
  case tup => simp [AV.solid] at hs
  case dead => simp [AV.solid] at hs
  all_goals
    have h' := h
    simp only [VR, VRa] at h'
    obtain ⟨e1, e2⟩ := h'.one (by simp)
    refine ⟨by rw [e1]; rfl, fun j y' u' hy hu => ?_⟩
    rw [e1] at hu
    simp only [AV.cells] at hy
    cases j with
    | zero => simp at hy hu; subst hy; subst hu; exact ⟨h', e2⟩
    | succ j => simp at hy
end inv

theorem VRc.vr' {K : KM} {S : Stb} {w : World} {y : AV} {u : Value} (h : VRc K S w y u) (hn : ∀ zs, y ≠ .agg zs ∧ y ≠ .tup zs) : VR K S w y u := by
  cases y
  case agg zs => exact absurd rfl (hn zs).1
  case tup zs => exact absurd rfl (hn zs).2
  all_goals simpa only [VR, VRa] using h

theorem run_loadCellsFrom (P : Program) (w : World) (b off : Nat) (f : Nat → Value) : ∀ (n i : Nat) (acc : Array Value), (∀ j, j < n → w.cell? (ad b (off + (i + j))) = some (f (i + j))) →
    (loadCellsFrom (ad b off) i n acc).run P w = .ok (acc ++ ((List.range n).map fun j => f (i + j)).toArray) w := by
  intro n
  induction n with
  | zero => intro i acc _; simp [loadCellsFrom]
  | succ n ih =>
    intro i acc h
    have h0 := h 0 (by omega)
    simp only [Nat.add_zero] at h0
    simp only [loadCellsFrom, Sem.run_bind, run_load, ad_add, h0, Result.andThen_ok]
    rw [ih (i + 1) (acc.push (f i)) (fun j hj => by have := h (j + 1) (by omega); rw [show i + 1 + j = i + (j + 1) from by omega]; exact this)]
    congr 1
    simp [List.range_succ_eq_map, Function.comp_def, Nat.add_assoc, Nat.add_comm 1]

theorem run_loadCells' (P : Program) (w : World) (b off : Nat) (f : Nat → Value) (n : Nat) (h : ∀ j, j < n → w.cell? (ad b (off + j)) = some (f j)) :
    (loadCells (ad b off) n).run P w = .ok ((List.range n).map f).toArray w := by
  unfold loadCells
  rw [run_loadCellsFrom P w b off f n 0 #[] (by simpa using h)]
  simp

/-- A variable is loaded. -/
theorem run_loadVar' {P : Program} {t : TypeId} {ti : TI} (h : TIok P t ti) (w : World) (b off : Nat) (f : Nat → Value) (hc : ∀ j, j < ti.size → w.cell? (ad b (off + j)) = some (f j)) :
    (loadVar t (ad b off)).run P w = .ok (if ti.kind.isAgg then .agg ((List.range ti.size).map f).toArray else f 0) w := by
  unfold loadVar
  simp only [Sem.run_bind, h.run_isAgg, Result.andThen_ok]
  cases hk : ti.kind.isAgg with
  | true => simp [h.run_size, run_loadCells' P w b off f ti.size hc]
  | false =>
    have h0 := hc 0 (by have := h.one hk; omega)
    simp only [Nat.add_zero] at h0
    simp [h0]

/-- As the loaded value. -/
def loaded (ti : TI) (cs : List AV) : AV := if ti.kind.isAgg then .agg cs else cs.headD .dead

theorem VR_loaded {P : Program} {t : TypeId} {ti : TI} (h : TIok P t ti) {K : KM} {S : Stb} {w : World} {cs : List AV} {f : Nat → Value} (hl : cs.length = ti.size)
    (hv : ∀ (j : Nat) (y : AV), cs[j]? = some y → VRc K S w y (f j)) (hs : ∀ y ∈ cs, ∀ zs, y ≠ .agg zs ∧ y ≠ .tup zs) :
    VR K S w (loaded ti cs) (if ti.kind.isAgg then .agg ((List.range ti.size).map f).toArray else f 0) := by
  unfold loaded
  cases hk : ti.kind.isAgg with
  | true =>
    simp only [if_true, VR, VRa]
    refine ⟨_, rfl, by simp [hl], fun j y v hy hv' => ?_⟩
    have hj : j < ti.size := hl ▸ (List.getElem?_eq_some_iff.1 hy).1
    simp [hj] at hv'
    subst hv'
    exact hv j y hy
  | false =>
    have h1 := h.one hk
    match cs, hl with
    | [], hl => exact absurd hl (by simp [h1])
    | y :: r, _ =>
      have hy := hv 0 y rfl
      simp only [List.headD_cons, Bool.false_eq_true, if_false]
      exact hy.vr' (hs y (by simp))

section ops
variable {P : Program} {tab : Tab} {nG : Nat} {G0 : Nat → Option Obj} {n0 : Nat} {o : Oper} {rd : List Nat} {tm0 : Nat → AV} {hp0 : Nat → Option Blk}

theorem snd_move {x : Operand} (ho : o.op = .move x ∨ o.op = .assign x) : OpSnd P nG G0 n0 o (evA tm0 x) [] rd tm0 hp0 := by
  refine OpSnd.look fun n K S tm hp a w hr hx _ => ⟨a.eval x, ?_, hx x ?_⟩
  · unfold execOp; rcases ho with ho | ho <;> rw [ho] <;> simp
  · rcases ho with ho | ho <;> rw [ho] <;> simp [Op.operands]

theorem snd_pick {c x y : Operand} {t : Bool} (ho : o.op = .pick c x y) (hc : evA tm0 c = .bool t) : OpSnd P nG G0 n0 o (bif t then evA tm0 x else evA tm0 y) [] rd tm0 hp0 := by
  refine OpSnd.look fun n K S tm hp a w hr hx _ => ⟨if t then a.eval x else a.eval y, ?_, ?_⟩
  · have h1 := hx c (by rw [ho]; simp [Op.operands])
    rw [hc] at h1
    unfold execOp; rw [ho]; simp [VR_bool h1, asBool]
  · cases t
    · exact hx y (by rw [ho]; simp [Op.operands])
    · exact hx x (by rw [ho]; simp [Op.operands])

theorem snd_alloc {t : TypeId} {ti : TI} {id : Nat} (ht : TIok P t ti) (ho : o.op = .alloc t) (hrd : id ∉ rd) : OpSnd P nG G0 n0 o (.ref id 0) [(id, .var (ti.cells.map zeroA))] rd tm0 hp0 := by
  refine OpSnd.new hrd fun n K S tm hp a w hr hx _ => ⟨.pointer (some (ad w.heap.size 0)), .cells ti.zeroV.cells t, .var w.heap.size, 0, ?_, rfl, .inl rfl, fun hK hS => ⟨?_, ?_⟩⟩
  · unfold execOp; rw [ho]; simp [Instr.alloc, ht.run_zero, newVar, newRow, ad]
  · have hz : ti.zeroV.cells = (ti.cells.map zeroC).toArray := by
      unfold TI.zeroV
      cases hk : ti.kind.isAgg with
      | true => rfl
      | false =>
        have h1 := ht.one hk
        have h2 := ht.len
        match hc : ti.cells, h2 with
        | [c], _ => cases c <;> rfl
        | [], h2 => simp at h2; omega
        | _ :: _ :: _, h2 => simp at h2; omega
    refine ⟨ti.zeroV.cells, t, heap_alloc_eq _ _, by rw [hz]; simp, fun j y u hy hu => ?_⟩
    rw [hz] at hu
    simp at hy hu
    obtain ⟨c, hc, rfl⟩ := hy
    obtain ⟨c', hc', rfl⟩ := hu
    rw [hc] at hc'; cases hc'
    cases c <;> simp only [zeroA, zeroC, VRc, VR0]
    · exact .bool _
    · exact .int _ _
    · exact .str []
    · exact .slNil _
    · exact .mpNil
    · exact .nilFunc
    · exact .nilIface
  · simp [VR, VRa, VRc, VR0, updK]

theorem snd_box {t : TypeId} {x : Operand} {id : Nat} (ho : o.op = .box t x) (hs : (evA tm0 x).solid = true) (hrd : id ∉ rd) : OpSnd P nG G0 n0 o (.ref id 0) [(id, .var (evA tm0 x).cells)] rd tm0 hp0 := by
  refine OpSnd.new hrd fun n K S tm hp a w hr hx _ => ⟨.pointer (some (ad w.heap.size 0)), .cells (a.eval x).cells t, .var w.heap.size, 0, ?_, rfl, .inl rfl, fun hK hS => ⟨?_, ?_⟩⟩
  · unfold execOp; rw [ho]; simp [Instr.box, newVar, newRow, ad]
  · obtain ⟨h1, h2⟩ := (hx x (by rw [ho]; simp [Op.operands])).cells hs
    exact ⟨_, t, heap_alloc_eq _ _, h1, fun j y u hy hu => ((h2 j y u hy hu).1).mono hK hS⟩
  · simp [VR, VRa, VRc, VR0, updK]

/-- A load out of a block of variables. -/
theorem snd_load_var {t : TypeId} {ti : TI} {x : Operand} {id off : Nat} {cs : List AV} (ht : TIok P t ti) (ho : o.op = .load t x) (he : evA tm0 x = .ref id off) (hb : hp0 id = some (.var cs)) (hid : id ∈ rd)
    (hl : ((cs.drop off).take ti.size).length = ti.size) (hs : ((cs.drop off).take ti.size).all (fun y => match y with | .agg _ => false | .tup _ => false | _ => true) = true) :
    OpSnd P nG G0 n0 o (loaded ti ((cs.drop off).take ti.size)) [] rd tm0 hp0 := by
  refine OpSnd.look fun n K S tm hp a w hr hx hh => ?_
  have h1 := hx x (by rw [ho]; simp [Op.operands])
  rw [he] at h1
  obtain ⟨b, hK, hu⟩ := VR_ref h1
  have hbl := hr.heap.blk id (.var cs) (.var b) ((hh id hid).trans hb) hK
  obtain ⟨arr, e, hheap, hsz, hv⟩ := hbl
  have hcell : ∀ j, j < ti.size → w.cell? (ad b (off + j)) = some (arr[off + j]?.getD undef) := by
    intro j hj
    have : off + j < arr.size := by
      rw [hsz]
      simp [List.length_take, List.length_drop] at hl
      omega
    simp [World.cell?, ad, hheap, this]
  refine ⟨_, ?_, VR_loaded ht (f := fun j => arr[off + j]?.getD undef) hl (fun j y hy => ?_) (fun y hy zs => ?_)⟩
  · unfold execOp; rw [ho]
    simp only [hu, Instr.loadAt, Instr.sureAddr]
    simp [run_loadVar' ht w b off _ hcell]
  · have hj : j < ti.size := hl ▸ (List.getElem?_eq_some_iff.1 hy).1
    rw [List.getElem?_take, if_pos hj, List.getElem?_drop] at hy
    have h2 : off + j < arr.size := by rw [hsz]; exact (List.getElem?_eq_some_iff.1 hy).1
    exact hv (off + j) y _ hy (by simp [h2])
  · have := List.all_eq_true.1 hs y hy
    cases y <;> simp_all

/-- A load through a pointer to what never turns. -/
theorem snd_load_rptr {t : TypeId} {ti : TI} {x : Operand} {cs : List AV} (ht : TIok P t ti) (ho : o.op = .load t x) (he : evA tm0 x = .rptr cs)
    (hl : (cs.take ti.size).length = ti.size) (hs : (cs.take ti.size).all (fun y => match y with | .agg _ => false | .tup _ => false | _ => true) = true) :
    OpSnd P nG G0 n0 o (loaded ti (cs.take ti.size)) [] rd tm0 hp0 := by
  refine OpSnd.look fun n K S tm hp a w hr hx hh => ?_
  have h1 := hx x (by rw [ho]; simp [Op.operands])
  rw [he] at h1
  have h2 := VR_rptr h1
  generalize hu : a.eval x = u at h2
  cases h2 with
  | rptr b off cells f hc hv =>
  have hlen : ti.size ≤ cs.length := by simp at hl; omega
  have hcell : ∀ j, j < ti.size → w.cell? (ad b (off + j)) = some (f j) := fun j hj => (hc j _ (List.getElem?_eq_getElem (by omega))).2
  refine ⟨_, ?_, VR_loaded ht (f := f) hl (fun j y hy => ?_) (fun y hy zs => ?_)⟩
  · unfold execOp; rw [ho]
    simp only [hu, Instr.loadAt, Instr.sureAddr]
    simp [run_loadVar' ht w b off _ hcell]
  · have hj : j < ti.size := hl ▸ (List.getElem?_eq_some_iff.1 hy).1
    rw [List.getElem?_take, if_pos hj] at hy
    exact (hv j y hy).vrc
  · have := List.all_eq_true.1 hs y hy
    cases y <;> simp_all
end ops
end Go.Ab

namespace Go.Ab

def putB (w : World) (b : Nat) (ob : Obj) : World := { w with heap := w.heap.setIfInBounds b ob }

theorem putB_heap (w : World) (b : Nat) (ob : Obj) (h : b < w.heap.size) : (putB w b ob).heap[b]? = some ob := by
  simp [putB, h]
theorem putB_heap_ne (w : World) (b b' : Nat) (ob : Obj) (h : b' ≠ b) : (putB w b ob).heap[b']? = w.heap[b']? := by
  simp only [putB]
  rw [Array.getElem?_setIfInBounds_ne (by omega)]
theorem putB_size (w : World) (b : Nat) (ob : Obj) : (putB w b ob).heap.size = w.heap.size := by simp [putB]
theorem putB_putB (w : World) (b : Nat) (x y : Obj) : putB (putB w b x) b y = putB w b y := by
  simp [putB]

theorem setCell_eq {w : World} {b off : Nat} {arr : Array Value} {e : TypeId} {fr : Nat × Nat} {v : Value} (h : w.heap[b]? = some (.cells arr e fr)) :
    w.setCell (ad b off) v = putB w b (.cells (arr.setIfInBounds off v) e fr) := by
  simp only [World.setCell, putB, ad]
  congr 1
  apply Array.ext_getElem?
  intro i
  rw [Array.getElem?_modify, Array.getElem?_setIfInBounds]
  have hb : b < w.heap.size := (Array.getElem?_eq_some_iff.1 h).1
  by_cases hi : b = i
  · subst hi
    have hv := (Array.getElem?_eq_some_iff.1 h).2
    simp [hb, hv]
  · simp [hi]

theorem frozen_none {w : World} {b off : Nat} {arr : Array Value} {e : TypeId} (h : w.heap[b]? = some (.cells arr e (0, 0))) : w.frozen? (ad b off) = false := by
  simp [World.frozen?, ad, h]

theorem run_storeCells' (P : Program) (b off : Nat) (e : TypeId) : ∀ (vs : List Value) (i : Nat) (arr : Array Value) (w : World), w.heap[b]? = some (.cells arr e (0, 0)) → off + i + vs.length ≤ arr.size → (∀ v ∈ vs, v.oneCell' = true) →
    ∃ arr' : Array Value, (storeCells (ad b off) vs i).run P w = .ok () (putB w b (.cells arr' e (0, 0))) ∧ arr'.size = arr.size ∧
      ∀ j, arr'[j]? = if off + i ≤ j ∧ j < off + i + vs.length then vs[j - (off + i)]? else arr[j]? := by
  intro vs
  induction vs with
  | nil =>
    intro i arr w h _ _
    refine ⟨arr, ?_, rfl, fun j => ?_⟩
    · have hb : b < w.heap.size := (Array.getElem?_eq_some_iff.1 h).1
      have : putB w b (.cells arr e (0, 0)) = w := by
        simp only [putB]
        congr 1
        apply Array.ext_getElem?
        intro k
        rw [Array.getElem?_setIfInBounds]
        by_cases hk : b = k
        · subst hk
          have hv := (Array.getElem?_eq_some_iff.1 h).2
          simp [hb, hv]
        · simp [hk]
      simp [storeCells, this]
    · simp
      intro h1 h2; omega
  | cons v vs ih =>
    intro i arr w h hle h1
    simp only [List.length_cons] at hle
    have hb : b < w.heap.size := (Array.getElem?_eq_some_iff.1 h).1
    have hc : w.cell? (ad b (off + i)) = some (arr[off + i]'(by omega)) := by
      simp only [World.cell?, ad, h]
      simp [show off + i < arr.size from by omega]
    have hs := run_store P w (ad b (off + i)) v .plain (h1 v (by simp))
    rw [hc] at hs
    simp only [frozen_none h, Bool.false_eq_true, if_false] at hs
    rw [setCell_eq h] at hs
    obtain ⟨arr', k1, k2, k3⟩ := ih (i + 1) (arr.setIfInBounds (off + i) v) _ (putB_heap w b _ hb) (by simp; omega) (fun v hv => h1 v (by simp [hv]))
    refine ⟨arr', ?_, by simpa using k2, fun j => ?_⟩
    · simp only [storeCells, Sem.run_bind, ad_add]
      have hs' : (store (ad b (off + i)) v).run P w = .ok () (putB w b (.cells (arr.setIfInBounds (off + i) v) e (0, 0))) := hs
      rw [hs']
      simp only [Result.andThen_ok]
      rw [k1, putB_putB]
    · rw [k3 j]
      simp only [List.length_cons]
      by_cases hj : j = off + i
      · subst hj
        rw [if_neg (by omega), if_pos (by omega)]
        simp [show off + i < arr.size from by omega]
      · by_cases hj2 : off + (i + 1) ≤ j ∧ j < off + (i + 1) + vs.length
        · rw [if_pos hj2, if_pos (by omega), show j - (off + i) = (j - (off + (i + 1))) + 1 from by omega]
          simp
        · rw [if_neg hj2, if_neg (by omega), Array.getElem?_setIfInBounds_ne (by omega)]

def setR (cs : List AV) (off : Nat) (vs : List AV) : List AV := cs.take off ++ vs ++ cs.drop (off + vs.length)

theorem setR_length {cs : List AV} {off : Nat} {vs : List AV} (h : off + vs.length ≤ cs.length) : (setR cs off vs).length = cs.length := by
  simp [setR]; omega

theorem setR_get {cs : List AV} {off : Nat} {vs : List AV} (h : off + vs.length ≤ cs.length) (j : Nat) :
    (setR cs off vs)[j]? = if off ≤ j ∧ j < off + vs.length then vs[j - off]? else cs[j]? := by
  have hl : (cs.take off).length = off := by simp; omega
  unfold setR
  rw [List.append_assoc]
  by_cases h1 : j < off
  · rw [if_neg (by omega), List.getElem?_append_left (by omega), List.getElem?_take, if_pos h1]
  · rw [List.getElem?_append_right (by omega), hl]
    by_cases h2 : j < off + vs.length
    · rw [if_pos (by omega), List.getElem?_append_left (by omega)]
    · rw [if_neg (by omega), List.getElem?_append_right (by omega), List.getElem?_drop]
      congr 1
      omega

/-- Without its token: what it reads as. -/
def AV.strip : AV → AV
  | .sl sz nil _ xs => .sl sz nil none xs
  | v => v

/-- A cell without a reference. -/
def AV.pureC : AV → Bool
  | .bool _ => true
  | .int _ _ => true
  | .str _ => true
  | .sl _ _ none _ => true
  | .mp _ _ => true
  | .rptr _ => true
  | .iface => true
  | .nilIface => true
  | .nilFunc => true
  | .nils => true
  | _ => false

theorem VRc.pure {K : KM} {S : Stb} {w : World} {y : AV} {u : Value} (h : VRc K S w y u) (hp : y.pureC = true) : PR S w y u := by
  cases y <;> first | (simp [AV.pureC] at hp; done) | skip
  case sl sz nil tok xs => cases tok <;> simp [AV.pureC] at hp; simpa only [VRc, VR0] using h
  all_goals simpa only [VRc, VR0] using h

section ops
variable {P : Program} {tab : Tab} {nG : Nat} {G0 : Nat → Option Obj} {n0 : Nat} {o : Oper} {rd : List Nat} {tm0 : Nat → AV} {hp0 : Nat → Option Blk}

theorem run_storeVar' {t : TypeId} {ti : TI} (h : TIok P t ti) (w : World) (b off : Nat) (arr : Array Value) (e : TypeId) (v : Value) (hh : w.heap[b]? = some (.cells arr e (0, 0)))
    (hs : v.cells.size = ti.size) (hle : off + ti.size ≤ arr.size) (h1 : ∀ (j : Nat) (u : Value), v.cells[j]? = some u → u.oneCell' = true) :
    ∃ arr' : Array Value, (storeVar t (ad b off) v).run P w = .ok () (putB w b (.cells arr' e (0, 0))) ∧ arr'.size = arr.size ∧
      ∀ j, arr'[j]? = if off ≤ j ∧ j < off + ti.size then v.cells[j - off]? else arr[j]? := by
  obtain ⟨arr', k1, k2, k3⟩ := run_storeCells' P b off e v.cells.toList 0 arr w hh (by simp; omega) (fun u hu => by
    obtain ⟨j, hj⟩ := List.mem_iff_getElem?.1 hu
    exact h1 j u (by simpa using hj))
  refine ⟨arr', ?_, k2, fun j => ?_⟩
  · simp only [storeVar, Sem.run_bind, h.run_size, Result.andThen_ok, hs]
    simp [k1]
  · rw [k3 j]
    simp [hs]

theorem snd_store_var {t : TypeId} {ti : TI} {x y : Operand} {id off : Nat} {cs : List AV} (ht : TIok P t ti) (ho : o.op = .store t x y) (he : evA tm0 x = .ref id off) (hb : hp0 id = some (.var cs)) (hid : id ∈ rd)
    (hs : (evA tm0 y).solid = true) (hl : (evA tm0 y).cells.length = ti.size) (hle : off + ti.size ≤ cs.length) :
    OpSnd P nG G0 n0 o .dead [(id, .var (setR cs off (evA tm0 y).cells))] rd tm0 hp0 := by
  refine OpSnd.set hid fun n K S tm hp a w hr hx hh => ?_
  have h1 := hx x (by rw [ho]; simp [Op.operands])
  rw [he] at h1
  obtain ⟨b, hK, hu⟩ := VR_ref h1
  obtain ⟨arr, e, hheap, hsz, hv⟩ := hr.heap.blk id (.var cs) (.var b) ((hh id hid).trans hb) hK
  obtain ⟨hy1, hy2⟩ := (hx y (by rw [ho]; simp [Op.operands])).cells hs
  obtain ⟨arr', k1, k2, k3⟩ := run_storeVar' ht w b off arr e (a.eval y) hheap (by omega) (by omega) (fun j u hu => by
    have hj : j < (evA tm0 y).cells.length := hy1 ▸ (Array.getElem?_eq_some_iff.1 hu).1
    exact (hy2 j _ u (List.getElem?_eq_getElem hj) hu).2)
  have hlt : b < w.heap.size := (Array.getElem?_eq_some_iff.1 hheap).1
  refine ⟨undef, putB w b (.cells arr' e (0, 0)), .var b, b, .inr ⟨?_, rfl⟩, hK, rfl, fun _ _ _ => by simp, rfl, rfl, rfl, putB_size _ _ _, fun b' hb' => putB_heap_ne _ _ _ _ hb', fun hkept => ⟨?_, VR_dead _ _ _ _⟩⟩
  · unfold execOp; rw [ho]
    simp [hu, Instr.storeAt, Instr.sureAddr, k1]
  · refine ⟨arr', e, putB_heap _ _ _ hlt, by rw [k2, hsz, setR_length (by omega)], fun j z u hz hu => ?_⟩
    rw [setR_get (by omega), hl] at hz
    rw [k3 j] at hu
    split at hz
    · rename_i hc
      rw [if_pos hc] at hu
      exact ((hy2 _ z u hz hu).1).mono (KLe.refl _) hkept
    · rename_i hc
      rw [if_neg hc] at hu
      exact (hv j z u hz hu).mono (KLe.refl _) hkept

theorem snd_store_arr {t : TypeId} {ti : TI} {x y : Operand} {sz id i off : Nat} {xs : List (List AV)} (ht : TIok P t ti) (ho : o.op = .store t x y) (he : evA tm0 x = .eref sz id i off) (hb : hp0 id = some (.arr sz xs)) (hid : id ∈ rd)
    (hs : (evA tm0 y).solid = true) (hp : ((evA tm0 y).cells.map AV.strip).all AV.pureC = true) (hl : (evA tm0 y).cells.length = ti.size) (hle : off + ti.size ≤ sz) :
    OpSnd P nG G0 n0 o .dead [(id, .arr sz (xs.set i (setR (xs.getD i []) off ((evA tm0 y).cells.map AV.strip))))] rd tm0 hp0 := by
  refine OpSnd.set hid fun n K S tm hp' a w hr hx hh => ?_
  have h1 := hx x (by rw [ho]; simp [Op.operands])
  rw [he] at h1
  obtain ⟨b, m, hK, hi, hu⟩ := VR_eref h1
  obtain ⟨_, rfl, hxl, arr, e, hheap, hsz, hv⟩ := hr.heap.blk id (.arr sz xs) (.arr b sz m) ((hh id hid).trans hb) hK
  have hmul : ∀ i', i' < xs.length → i' * sz + sz ≤ xs.length * sz := fun i' h => by
    have := Nat.mul_le_mul_right sz (show i' + 1 ≤ xs.length from h)
    rw [Nat.add_mul, Nat.one_mul] at this
    exact this
  have hm := hmul i hi
  obtain ⟨hy1, hy2⟩ := (hx y (by rw [ho]; simp [Op.operands])).cells hs
  obtain ⟨arr', k1, k2, k3⟩ := run_storeVar' ht w b (i * sz + off) arr e (a.eval y) hheap (by omega) (by omega) (fun j u hu => by
    have hj : j < (evA tm0 y).cells.length := hy1 ▸ (Array.getElem?_eq_some_iff.1 hu).1
    exact (hy2 j _ u (List.getElem?_eq_getElem hj) hu).2)
  have hlt : b < w.heap.size := (Array.getElem?_eq_some_iff.1 hheap).1
  have hxi : xs[i]? = some xs[i] := List.getElem?_eq_getElem hi
  have hlen := hxl i _ hxi
  have hgd : xs.getD i [] = xs[i] := by simp [hi]
  refine ⟨undef, putB w b (.cells arr' e (0, 0)), .arr b sz xs.length, b, .inr ⟨?_, rfl⟩, hK, rfl, fun _ _ _ => by simp, rfl, rfl, rfl, putB_size _ _ _, fun b' hb' => putB_heap_ne _ _ _ _ hb', fun hkept => ⟨?_, VR_dead _ _ _ _⟩⟩
  · unfold execOp; rw [ho]
    simp [hu, Instr.storeAt, Instr.sureAddr, k1]
  · refine ⟨rfl, by simp, fun i' z hz => ?_, arr', e, putB_heap _ _ _ hlt, by rw [k2]; simpa using hsz, fun i' z j q u hz hq hu' => ?_⟩
    · by_cases hii : i = i'
      · subst hii
        rw [List.getElem?_set_self hi] at hz
        cases hz
        rw [hgd, setR_length (by simp; omega)]
        exact hlen
      · rw [List.getElem?_set_ne hii] at hz
        exact hxl i' z hz
    · rw [k3] at hu'
      by_cases hii : i = i'
      · subst hii
        rw [List.getElem?_set_self hi] at hz
        cases hz
        rw [hgd, setR_get (by simp; omega)] at hq
        simp only [List.length_map, hl] at hq
        split at hq
        · rename_i hc
          rw [if_pos (by omega), show i * sz + j - (i * sz + off) = j - off from by omega] at hu'
          rw [List.getElem?_map] at hq
          cases hq' : (evA tm0 y).cells[j - off]? with
          | none => rw [hq'] at hq; cases hq
          | some q' =>
            rw [hq'] at hq
            simp at hq
            subst hq
            have hpp := List.all_eq_true.1 hp q'.strip (List.mem_map.2 ⟨q', List.mem_of_getElem? hq', rfl⟩)
            have hvv := (hy2 _ q' u hq' hu').1
            refine PR.mono hkept (VRc.pure (K := K) ?_ hpp)
            cases q' <;> simp only [AV.strip] at hpp ⊢ <;> try exact hvv
            rename_i tok _
            cases tok with
            | none => exact hvv
            | some τ => simp only [VRc, VR0] at hvv ⊢; exact hvv.1
        · rename_i hc
          have hjs : j < sz := by have := (List.getElem?_eq_some_iff.1 hq).1; omega
          rw [if_neg (by omega)] at hu'
          exact (hv i _ j q u hxi hq hu').mono hkept
      · rw [List.getElem?_set_ne hii] at hz
        have hj : j < sz := by
          have h1 := hxl i' z hz
          have h2 := (List.getElem?_eq_some_iff.1 hq).1
          omega
        have hne : ¬(i * sz + off ≤ i' * sz + j ∧ i' * sz + j < i * sz + off + ti.size) := by
          rintro ⟨ha, hb'⟩
          rcases Nat.lt_or_gt_of_ne hii with hlt' | hlt'
          · have := Nat.mul_le_mul_right sz (show i + 1 ≤ i' from hlt')
            rw [Nat.add_mul, Nat.one_mul] at this
            omega
          · have := Nat.mul_le_mul_right sz (show i' + 1 ≤ i from hlt')
            rw [Nat.add_mul, Nat.one_mul] at this
            omega
        rw [if_neg hne] at hu'
        exact (hv i' z j q u hz hq hu').mono hkept

theorem snd_load_eref {t : TypeId} {ti : TI} {x : Operand} {sz id i off : Nat} {xs : List (List AV)} {z cs : List AV} (ht : TIok P t ti) (ho : o.op = .load t x) (he : evA tm0 x = .eref sz id i off) (hb : hp0 id = some (.arr sz xs)) (hid : id ∈ rd)
    (hz : xs[i]? = some z) (hcs : (z.drop off).take ti.size = cs) (hl : cs.length = ti.size) (hs : cs.all (fun y => match y with | .agg _ => false | .tup _ => false | _ => true) = true) :
    OpSnd P nG G0 n0 o (loaded ti cs) [] rd tm0 hp0 := by
  subst hcs
  refine OpSnd.look fun n K S tm hp a w hr hx hh => ?_
  have h1 := hx x (by rw [ho]; simp [Op.operands])
  rw [he] at h1
  obtain ⟨b, m, hK, hi, hu⟩ := VR_eref h1
  obtain ⟨_, rfl, hxl, arr, e, hheap, hsz, hv⟩ := hr.heap.blk id (.arr sz xs) (.arr b sz m) ((hh id hid).trans hb) hK
  have hzl := hxl i z hz
  have hi' : i < xs.length := (List.getElem?_eq_some_iff.1 hz).1
  have hm : i * sz + sz ≤ xs.length * sz := by
    have := Nat.mul_le_mul_right sz (show i + 1 ≤ xs.length from hi')
    rw [Nat.add_mul, Nat.one_mul] at this
    exact this
  have hcell : ∀ j, j < ti.size → w.cell? (ad b (i * sz + off + j)) = some (arr[i * sz + off + j]?.getD undef) := by
    intro j hj
    have : i * sz + off + j < arr.size := by
      simp [List.length_take, List.length_drop] at hl
      omega
    simp [World.cell?, ad, hheap, this]
  refine ⟨_, ?_, VR_loaded ht (f := fun j => arr[i * sz + off + j]?.getD undef) hl (fun j y hy => ?_) (fun y hy zs => ?_)⟩
  · unfold execOp; rw [ho]
    simp only [hu, Instr.loadAt, Instr.sureAddr]
    simp [run_loadVar' ht w b _ _ hcell]
  · have hj : j < ti.size := hl ▸ (List.getElem?_eq_some_iff.1 hy).1
    rw [List.getElem?_take, if_pos hj, List.getElem?_drop] at hy
    have h2 : off + j < z.length := (List.getElem?_eq_some_iff.1 hy).1
    exact (hv i z (off + j) y _ hz hy (by
      have : i * sz + off + j < arr.size := by omega
      simp [show i * sz + (off + j) = i * sz + off + j from by omega, this])).vrc
  · have := List.all_eq_true.1 hs y hy
    cases y <;> simp_all

/-- A pointer moved on. -/
def movP : AV → Nat → AV
  | .ref id off, k => .ref id (off + k)
  | .eref sz id i off, k => .eref sz id i (off + k)
  | .rptr cs, k => .rptr (cs.drop k)
  | _, _ => .dead


theorem movP_run {K : KM} {S : Stb} {w : World} {p : AV} {u : Value} {k : Nat} (h : VR K S w p u) (hn : movP p k ≠ .dead) : ∃ b off, u = .pointer (some (ad b off)) ∧ VR K S w (movP p k) (.pointer (some (ad b (off + k)))) := by
  cases p <;> simp only [movP, ne_eq, not_true_eq_false, reduceCtorEq, not_false_eq_true] at hn
  case ref id off =>
    obtain ⟨b, h1, rfl⟩ := VR_ref h
    refine ⟨b, off, rfl, ?_⟩
    simp only [movP, VR, VRa, VRc, VR0]
    exact ⟨b, h1, rfl⟩
  case eref sz id i off =>
    obtain ⟨b, n, h1, h2, rfl⟩ := VR_eref h
    refine ⟨b, _, rfl, ?_⟩
    simp only [movP, VR, VRa, VRc, VR0]
    exact ⟨b, n, h1, h2, by rw [Nat.add_assoc]⟩
  case rptr cs =>
    have h1 := VR_rptr h
    cases h1 with
    | rptr b off cells f hc hv =>
    refine ⟨b, off, rfl, PR.vr (.rptr b (off + k) _ (fun j => f (k + j)) (fun j y hy => ?_) (fun j y hy => ?_))⟩
    · rw [List.getElem?_drop] at hy
      rw [Nat.add_assoc]
      exact hc _ y hy
    · rw [List.getElem?_drop] at hy
      exact hv _ y hy

theorem snd_fieldAddr {t : TypeId} {ti fi : TI} {x : Operand} {f off ft : Nat} {fs : List (Nat × Nat)} (ht : TIok P t ti) (hk : ti.kind = .struct fs) (hf : fs[f]? = some (off, ft)) (hft : TIok P ft fi) (hz : fi.size ≠ 0) (ho : o.op = .fieldAddr t x f)
    (hn : movP (evA tm0 x) off ≠ .dead) : OpSnd P nG G0 n0 o (movP (evA tm0 x) off) [] rd tm0 hp0 := by
  refine OpSnd.look fun n K S tm hp a w hr hx _ => ?_
  obtain ⟨b, o', hu, hv⟩ := movP_run (hx x (by rw [ho]; simp [Op.operands])) hn
  have hkk := ht.kind
  rw [hk] at hkk
  obtain ⟨fields, hd, hm, _, _⟩ := hkk
  refine ⟨_, ?_, hv⟩
  rw [← hm, List.getElem?_map] at hf
  cases hff : fields.toList[f]? with
  | none => rw [hff] at hf; cases hf
  | some fl =>
    rw [hff] at hf
    simp at hf
    obtain ⟨rfl, rfl⟩ := hf
    have hff' : fields[f]? = some fl := by simpa using hff
    unfold execOp; rw [ho]
    simp [hu, Instr.fieldAt, Instr.sureAddr, run_under hd, hff', fieldPlace, hft.run_size, hz, ad_add]
end ops
end Go.Ab

namespace Go.Ab

theorem execOp_eq {ρ : Operand → Value} {o : Oper} {op : Op} (h : o.op = op) : execOp ρ o = execOp ρ { o with op := op } := by
  cases o; simp only at h; subst h; rfl

section ops
variable {P : Program} {tab : Tab} {nG : Nat} {G0 : Nat → Option Obj} {n0 : Nat} {o : Oper} {rd : List Nat} {tm0 : Nat → AV} {hp0 : Nat → Option Blk}

theorem snd_nilCheck {x : Operand} (ho : o.op = .nilCheck x) (hn : movP (evA tm0 x) 0 ≠ .dead) : OpSnd P nG G0 n0 o (evA tm0 x) [] rd tm0 hp0 := by
  refine OpSnd.look fun n K S tm hp a w hr hx _ => ?_
  have h := hx x (by rw [ho]; simp [Op.operands])
  obtain ⟨b, o', hu, _⟩ := movP_run h hn
  refine ⟨_, ?_, h⟩
  rw [execOp_eq ho]; unfold execOp
  simp [hu]

/-- Of a slice that never turns. -/
theorem snd_indexAddr_sl {t e : TypeId} {ti ei : TI} {x i : Operand} {sz : Nat} {nil : Bool} {tok : Option Nat} {xs : List (List AV)} {k : IntKind} {j : Int} {z : List AV} (ht : TIok P t ti) (hk : ti.kind = .slice e) (he : TIok P e ei)
    (ho : o.op = .indexAddr t x i) (hx : evA tm0 x = .sl sz nil tok xs) (hi : evA tm0 i = .int k j) (hsz : sz = ei.size) (h0 : 0 ≤ j) (h1 : xs[j.toNat]? = some z) :
    OpSnd P nG G0 n0 o (.rptr z) [] rd tm0 hp0 := by
  refine OpSnd.look fun n K S tm hp a w hr hxx _ => ?_
  have hX := hxx x (by rw [ho]; simp [Op.operands])
  have hI := VR_int (hi ▸ hxx i (by rw [ho]; simp [Op.operands]))
  rw [hx] at hX
  have hP := VR_sl hX
  have hlt : j.toNat < xs.length := (List.getElem?_eq_some_iff.1 h1).1
  generalize hu : a.eval x = u at hP
  have hkk := ht.kind
  rw [hk] at hkk
  cases hP with
  | slNil => simp at h1
  | slEmpty => simp at h1
  | sl sz b off cap xs f hcap hsl hc hv =>
  refine ⟨.pointer (some (ad b (off + j.toNat * sz))), ?_, PR.vr (.rptr b (off + j.toNat * sz) z (fun q => f j.toNat q) (fun q y hy => ?_) (fun q y hy => hv _ z q y h1 hy))⟩
  · have hb : 0 ≤ j ∧ j < (xs.length : Int) := ⟨h0, by omega⟩
    rw [execOp_eq ho]; unfold execOp
    simp [hu, hI, Instr.indexAt, asIntOf, run_under hkk, hb, he.run_size, ad_add, hsz]
  · have := hc _ z q y h1 hy
    rw [Nat.add_assoc]
    exact this

/-- Of a slice over memory of one's own. -/
theorem snd_indexAddr_rsl {t e : TypeId} {ti ei : TI} {x i : Operand} {sz id off len : Nat} {k : IntKind} {j : Int} (ht : TIok P t ti) (hk : ti.kind = .slice e) (he : TIok P e ei)
    (ho : o.op = .indexAddr t x i) (hx : evA tm0 x = .rsl sz id off len) (hi : evA tm0 i = .int k j) (hsz : sz = ei.size) (h0 : 0 ≤ j) (h1 : j < len) :
    OpSnd P nG G0 n0 o (.eref sz id (off + j.toNat) 0) [] rd tm0 hp0 := by
  refine OpSnd.look fun n K S tm hp a w hr hxx _ => ?_
  have hX := hxx x (by rw [ho]; simp [Op.operands])
  have hI := VR_int (hi ▸ hxx i (by rw [ho]; simp [Op.operands]))
  rw [hx] at hX
  obtain ⟨b, m, cap, hK, h2, h3, hu⟩ := VR_rsl hX
  have hkk := ht.kind
  rw [hk] at hkk
  refine ⟨.pointer (some (ad b ((off + j.toNat) * sz + 0))), ?_, ?_⟩
  · have hb : 0 ≤ j ∧ j < (len : Int) := ⟨h0, h1⟩
    rw [execOp_eq ho]; unfold execOp
    simp [hu, hI, Instr.indexAt, asIntOf, run_under hkk, hb, he.run_size, ad_add, hsz, Nat.add_mul]
  · simp only [VR, VRa, VRc, VR0]
    exact ⟨b, m, hK, by omega, rfl⟩

/-- Of an array behind a pointer. -/
theorem snd_indexAddr_arr {t e m : TypeId} {ti ei : TI} {x i : Operand} {k : IntKind} {j : Int} (ht : TIok P t ti) (hk : ti.kind = .arr m e) (he : TIok P e ei)
    (ho : o.op = .indexAddr t x i) (hi : evA tm0 i = .int k j) (h0 : 0 ≤ j) (h1 : j < m) (hn : movP (evA tm0 x) (j.toNat * ei.size) ≠ .dead) :
    OpSnd P nG G0 n0 o (movP (evA tm0 x) (j.toNat * ei.size)) [] rd tm0 hp0 := by
  refine OpSnd.look fun n K S tm hp a w hr hxx _ => ?_
  have hX := hxx x (by rw [ho]; simp [Op.operands])
  have hI := VR_int (hi ▸ hxx i (by rw [ho]; simp [Op.operands]))
  obtain ⟨b, o', hu, hv⟩ := movP_run hX hn
  have hkk := ht.kind
  rw [hk] at hkk
  refine ⟨_, ?_, hv⟩
  have hb : 0 ≤ j ∧ j < (m : Int) := ⟨h0, h1⟩
  rw [execOp_eq ho]; unfold execOp
  simp [hu, hI, Instr.indexAt, Instr.sureAddr, asIntOf, run_under hkk, hb, he.run_size, ad_add]

theorem snd_index_str {t : TypeId} {ti : TI} {x i : Operand} {s : List UInt8} {k : IntKind} {j : Int} {c : UInt8} (ht : TIok P t ti) (hk : ti.kind = .scalar .str)
    (ho : o.op = .index t x i) (hx : evA tm0 x = .str s) (hi : evA tm0 i = .int k j) (h0 : 0 ≤ j) (h1 : s[j.toNat]? = some c) :
    OpSnd P nG G0 n0 o (.int .u8 c.toNat) [] rd tm0 hp0 := by
  refine OpSnd.look fun n K S tm hp a w hr hxx _ => ?_
  have hX := VR_str (hx ▸ hxx x (by rw [ho]; simp [Op.operands]))
  have hI := VR_int (hi ▸ hxx i (by rw [ho]; simp [Op.operands]))
  have hkk := ht.kind
  rw [hk] at hkk
  obtain ⟨d, hd, hs⟩ := hkk
  cases d <;> simp [scalarDesc] at hs
  refine ⟨_, ?_, (PR.int _ _).vr⟩
  have hlt : j.toNat < s.length := (List.getElem?_eq_some_iff.1 h1).1
  have hg : (⟨s.toArray⟩ : ByteArray)[j.toNat]? = some c := by
    have hs' : j.toNat < (⟨s.toArray⟩ : ByteArray).size := by simpa [ByteArray.size] using hlt
    have h2 := (List.getElem?_eq_some_iff.1 h1).2
    have h3 : (⟨s.toArray⟩ : ByteArray)[j.toNat] = c := by simp [ByteArray.getElem_eq_getElem_data, h2]
    rw [← h3]
    exact getElem?_pos (⟨s.toArray⟩ : ByteArray) j.toNat hs'
  rw [execOp_eq ho]; unfold execOp
  simp [hX, hI, Instr.index, asIntOf, run_under hd, h0, hg]

theorem snd_slice_str {t : TypeId} {ti : TI} {x : Operand} {lo hi : Option Operand} {s : List UInt8} {l h : Nat} (ht : TIok P t ti) (hk : ti.kind = .scalar .str)
    (ho : o.op = .slice t x lo hi none) (hx : evA tm0 x = .str s)
    (hl : match lo with | none => l = 0 | some y => ∃ k, evA tm0 y = .int k l) (hh : match hi with | none => h = s.length | some y => ∃ k, evA tm0 y = .int k h) (h1 : l ≤ h) (h2 : h ≤ s.length) :
    OpSnd P nG G0 n0 o (.str ((s.take h).drop l)) [] rd tm0 hp0 := by
  refine OpSnd.look fun n K S tm hp a w hr hxx _ => ?_
  have hX := VR_str (hx ▸ hxx x (by rw [ho]; simp [Op.operands]))
  have hkk := ht.kind
  rw [hk] at hkk
  obtain ⟨d, hd, hs⟩ := hkk
  cases d <;> simp [scalarDesc] at hs
  refine ⟨.string ((⟨s.toArray⟩ : ByteArray).extract l h), ?_, ?_⟩
  · have hsz : (⟨s.toArray⟩ : ByteArray).size = s.length := by simp [ByteArray.size]
    rw [execOp_eq ho]; unfold execOp
    cases lo with
    | none =>
      subst hl
      cases hi with
      | none =>
        subst hh
        have e : (⟨s.toArray⟩ : ByteArray).extract 0 s.length = ⟨s.toArray⟩ := by apply ByteArray.ext; simp [ByteArray.data_extract]
        simp [hX, Instr.sliceAt, Instr.slice, Instr.sliceBounds, run_under hd, e]
      | some y =>
        obtain ⟨k, hy⟩ := hh
        have hY := VR_int (hy ▸ hxx y (by rw [ho]; simp [Op.operands]))
        simp [hX, hY, Instr.sliceAt, Instr.slice, Instr.sliceBounds, Instr.sliceBound, asIntOf, run_under hd, hsz, h2]
    | some z =>
      obtain ⟨k', hz⟩ := hl
      have hZ := VR_int (hz ▸ hxx z (by rw [ho]; simp [Op.operands]))
      cases hi with
      | none => subst hh; simp [hX, hZ, Instr.sliceAt, Instr.slice, Instr.sliceBounds, Instr.sliceBound, asIntOf, run_under hd, hsz, h1]
      | some y =>
        obtain ⟨k, hy⟩ := hh
        have hY := VR_int (hy ▸ hxx y (by rw [ho]; simp [Op.operands]))
        simp [hX, hY, hZ, Instr.sliceAt, Instr.slice, Instr.sliceBounds, Instr.sliceBound, asIntOf, run_under hd, hsz, h2, h1]
  · have e : (⟨s.toArray⟩ : ByteArray).extract l h = ⟨((s.take h).drop l).toArray⟩ := by
      apply ByteArray.ext
      simp [ByteArray.data_extract, List.drop_take]
    rw [e]
    exact (PR.str _).vr

/-- A slice of a slice. -/
theorem PR_slice {S : Stb} {w : World} {sz : Nat} {nil : Bool} {xs : List (List AV)} {u : Value} (h : PR S w (.sl sz nil none xs) u) {l m : Nat} (h1 : l ≤ m) (h2 : m ≤ xs.length) :
    ∃ a cap, u = .slice a xs.length cap ∧ xs.length ≤ cap ∧ (∀ c, cap - l ≤ c → PR S w (.sl sz nil none ((xs.take m).drop l)) (.slice (a.map (·.add (l * sz))) (m - l) c) ∨ a = none) ∧
      PR S w (.sl sz nil none ((xs.take m).drop l)) (.slice (if cap = l then a else a.map (·.add (l * sz))) (m - l) (cap - l)) := by
  have hlen : ((xs.take m).drop l).length = m - l := by simp; omega
  cases h with
  | slNil =>
    simp at h2; subst h2
    obtain rfl : l = 0 := by omega
    exact ⟨none, 0, rfl, Nat.le_refl _, fun c _ => .inr rfl, by simpa using PR.slNil sz⟩
  | slEmpty _ a cap =>
    simp at h2; subst h2
    obtain rfl : l = 0 := by omega
    refine ⟨some a, cap, rfl, Nat.zero_le _, fun c _ => .inl ?_, ?_⟩
    · simpa using PR.slEmpty sz _ _
    · split <;> simpa using PR.slEmpty sz _ _
  | sl _ b off cap _ f hcap hsl hc hv =>
    have key : ∀ (a' : Addr) c, (m - l = 0 ∨ a' = ad b (off + l * sz)) → m - l ≤ c → PR S w (.sl sz false none ((xs.take m).drop l)) (.slice (some a') (m - l) c) := by
      intro a' c ha hc'
      rcases Nat.eq_zero_or_pos (m - l) with hz | hz
      · have he : (xs.take m).drop l = [] := List.eq_nil_of_length_eq_zero (by omega)
        rw [he, hz]; exact .slEmpty sz a' c
      · obtain rfl := ha.resolve_left (by omega)
        have := PR.sl (S := S) (w := w) sz b (off + l * sz) c ((xs.take m).drop l) (fun i j => f (l + i) j) (by omega) (fun i x hx => ?_) (fun i x j y hx hy => ?_) (fun i x j y hx hy => ?_)
        · rw [hlen] at this; exact this
        all_goals
          rw [List.getElem?_drop, List.getElem?_take] at hx
          split at hx
          rotate_left
          · cases hx
        · exact hsl _ x hx
        · have := hc _ x j y hx hy
          rw [show off + l * sz + (i * sz + j) = off + ((l + i) * sz + j) from by rw [Nat.add_mul]; omega]
          exact this
        · exact hv _ x j y hx hy
    refine ⟨some (ad b off), cap, rfl, hcap, fun c hcc => .inl ?_, ?_⟩
    · simp only [Option.map_some, ad_add]
      exact key _ _ (.inr rfl) (by omega)
    · split
      · rename_i he
        exact key _ _ (.inl (by omega)) (by omega)
      · simp only [Option.map_some, ad_add]
        exact key _ _ (.inr rfl) (by omega)

theorem snd_slice_sl {t e : TypeId} {ti ei : TI} {x : Operand} {lo hi : Option Operand} {sz : Nat} {nil : Bool} {tok : Option Nat} {xs : List (List AV)} {l h : Nat} (ht : TIok P t ti) (hk : ti.kind = .slice e) (he : TIok P e ei)
    (ho : o.op = .slice t x lo hi none) (hx : evA tm0 x = .sl sz nil tok xs) (hsz : sz = ei.size)
    (hl : match lo with | none => l = 0 | some y => ∃ k, evA tm0 y = .int k l) (hh : match hi with | none => h = xs.length | some y => ∃ k, evA tm0 y = .int k h) (h1 : l ≤ h) (h2 : h ≤ xs.length) :
    OpSnd P nG G0 n0 o (.sl sz nil none ((xs.take h).drop l)) [] rd tm0 hp0 := by
  refine OpSnd.look fun n K S tm hp a w hr hxx _ => ?_
  have hX := VR_sl (hx ▸ hxx x (by rw [ho]; simp [Op.operands]))
  have hkk := ht.kind
  rw [hk] at hkk
  obtain ⟨ad', cap, hu, hcap, _, hP⟩ := PR_slice hX h1 h2
  refine ⟨_, ?_, hP.vr⟩
  have h3 : h ≤ cap := Nat.le_trans h2 hcap
  rw [execOp_eq ho]; unfold execOp
  cases lo with
  | none =>
    subst hl
    cases hi with
    | none => subst hh; simp [hu, Instr.sliceAt, Instr.slice, Instr.sliceBounds, run_under hkk, he.run_size, hsz]
    | some y =>
      obtain ⟨k, hy⟩ := hh
      have hY := VR_int (hy ▸ hxx y (by rw [ho]; simp [Op.operands]))
      simp [hu, hY, Instr.sliceAt, Instr.slice, Instr.sliceBounds, Instr.sliceBound, asIntOf, run_under hkk, he.run_size, hsz, h3]
  | some z =>
    obtain ⟨k', hz⟩ := hl
    have hZ := VR_int (hz ▸ hxx z (by rw [ho]; simp [Op.operands]))
    cases hi with
    | none => subst hh; simp [hu, hZ, Instr.sliceAt, Instr.slice, Instr.sliceBounds, Instr.sliceBound, asIntOf, run_under hkk, he.run_size, hsz, h1]
    | some y =>
      obtain ⟨k, hy⟩ := hh
      have hY := VR_int (hy ▸ hxx y (by rw [ho]; simp [Op.operands]))
      simp [hu, hY, hZ, Instr.sliceAt, Instr.slice, Instr.sliceBounds, Instr.sliceBound, asIntOf, run_under hkk, he.run_size, hsz, h3, h1]

/-- A part of a struct or an array. -/
theorem run_part {P : Program} {t : TypeId} {ti : TI} (h : TIok P t ti) (w : World) (vs : Array Value) (off : Nat) (hl : off + ti.size ≤ vs.size) (f : Nat → Value) (hf : ∀ j, j < ti.size → vs[off + j]? = some (f j)) :
    (part t vs off).run P w = .ok (if ti.kind.isAgg then .agg ((List.range ti.size).map f).toArray else f 0) w := by
  unfold part
  simp only [Sem.run_bind, h.run_isAgg, Result.andThen_ok]
  cases hk : ti.kind.isAgg with
  | true =>
    simp only [if_true, Sem.run_bind, h.run_size, Result.andThen_ok, Sem.run_pure]
    congr 2
    apply Array.ext_getElem?
    intro i
    by_cases hi : i < ti.size
    · have := hf i hi
      simp [Array.getElem?_extract, hi, this]
      omega
    · simp [hi]
      omega
  | false =>
    have h0 := hf 0 (by have := h.one hk; omega)
    simp only [Nat.add_zero] at h0
    simp [h0]

theorem snd_field {t ft : TypeId} {ti fi : TI} {x : Operand} {f off : Nat} {fs : List (Nat × Nat)} {cs : List AV} (ht : TIok P t ti) (hk : ti.kind = .struct fs) (hf : fs[f]? = some (off, ft)) (hft : TIok P ft fi) (ho : o.op = .field t x f)
    (hx : evA tm0 x = .agg cs) (hl : ((cs.drop off).take fi.size).length = fi.size) (hs : ((cs.drop off).take fi.size).all (fun y => match y with | .agg _ => false | .tup _ => false | _ => true) = true) :
    OpSnd P nG G0 n0 o (loaded fi ((cs.drop off).take fi.size)) [] rd tm0 hp0 := by
  refine OpSnd.look fun n K S tm hp a w hr hxx _ => ?_
  obtain ⟨vs, hu, hvl, hv⟩ := VR_agg (hx ▸ hxx x (by rw [ho]; simp [Op.operands]))
  have hkk := ht.kind
  rw [hk] at hkk
  obtain ⟨fields, hd, hm, _, _⟩ := hkk
  have hle : off + fi.size ≤ vs.size ∨ fi.size = 0 := by
    simp [List.length_take, List.length_drop] at hl; omega
  rw [← hm, List.getElem?_map] at hf
  cases hff : fields.toList[f]? with
  | none => rw [hff] at hf; cases hf
  | some fl =>
    rw [hff] at hf
    simp at hf
    obtain ⟨rfl, rfl⟩ := hf
    have hff' : fields[f]? = some fl := by simpa using hff
    rcases hle with hle | hz
    · have hrun := run_part hft w vs fl.offset hle (fun j => vs[fl.offset + j]?.getD undef) (fun j hj => by
        have : fl.offset + j < vs.size := by omega
        simp [this])
      refine ⟨_, ?_, VR_loaded hft (f := fun j => vs[fl.offset + j]?.getD undef) hl (fun j y hy => ?_) (fun y hy zs => ?_)⟩
      · rw [execOp_eq ho]; unfold execOp
        simp [hu, Instr.field, run_under hd, hff', asAgg, hrun]
      · have hj : j < fi.size := hl ▸ (List.getElem?_eq_some_iff.1 hy).1
        rw [List.getElem?_take, if_pos hj, List.getElem?_drop] at hy
        have h2 : fl.offset + j < vs.size := by omega
        exact hv _ y _ hy (by simp [h2])
      · have := List.all_eq_true.1 hs y hy
        cases y <;> simp_all
    · cases hag : fi.kind.isAgg with
      | false => have := hft.one hag; omega
      | true =>
        refine ⟨.agg #[], ?_, ?_⟩
        · rw [execOp_eq ho]; unfold execOp
          simp [hu, Instr.field, run_under hd, hff', asAgg, part, hft.run_isAgg, hag, hft.run_size, hz]
          omega
        · simp [loaded, hag, hz, VR, VRa]

theorem snd_index_arr {t e m : TypeId} {ti ei : TI} {x i : Operand} {k : IntKind} {j : Int} {cs : List AV} (ht : TIok P t ti) (hk : ti.kind = .arr m e) (he : TIok P e ei)
    (ho : o.op = .index t x i) (hx : evA tm0 x = .agg cs) (hi : evA tm0 i = .int k j) (h0 : 0 ≤ j) (h1 : j < m) (hle : j.toNat * ei.size + ei.size ≤ cs.length)
    (hs : ((cs.drop (j.toNat * ei.size)).take ei.size).all (fun y => match y with | .agg _ => false | .tup _ => false | _ => true) = true) :
    OpSnd P nG G0 n0 o (loaded ei ((cs.drop (j.toNat * ei.size)).take ei.size)) [] rd tm0 hp0 := by
  refine OpSnd.look fun n K S tm hp a w hr hxx _ => ?_
  obtain ⟨vs, hu, hvl, hv⟩ := VR_agg (hx ▸ hxx x (by rw [ho]; simp [Op.operands]))
  have hI := VR_int (hi ▸ hxx i (by rw [ho]; simp [Op.operands]))
  have hkk := ht.kind
  rw [hk] at hkk
  have hl : ((cs.drop (j.toNat * ei.size)).take ei.size).length = ei.size := by simp; omega
  have hrun := run_part he w vs (j.toNat * ei.size) (by omega) (fun q => vs[j.toNat * ei.size + q]?.getD undef) (fun q hq => by
    have : j.toNat * ei.size + q < vs.size := by omega
    simp [this])
  have hb : 0 ≤ j ∧ j < (m : Int) := ⟨h0, h1⟩
  refine ⟨_, ?_, VR_loaded he (f := fun q => vs[j.toNat * ei.size + q]?.getD undef) hl (fun q y hy => ?_) (fun y hy zs => ?_)⟩
  · rw [execOp_eq ho]; unfold execOp
    simp [hu, hI, Instr.index, asIntOf, run_under hkk, hb, he.run_size, hrun]
  · have hj : q < ei.size := hl ▸ (List.getElem?_eq_some_iff.1 hy).1
    rw [List.getElem?_take, if_pos hj, List.getElem?_drop] at hy
    have h2 : j.toNat * ei.size + q < vs.size := by omega
    exact hv _ y _ hy (by simp [h2])
  · have := List.all_eq_true.1 hs y hy
    cases y <;> simp_all

theorem snd_extract {x : Operand} {i : Nat} {vs : List AV} {y : AV} (ho : o.op = .extract x i) (hx : evA tm0 x = .tup vs) (hi : vs[i]? = some y) (hy : ∀ zs, y ≠ .tup zs) : OpSnd P nG G0 n0 o y [] rd tm0 hp0 := by
  refine OpSnd.look fun n K S tm hp a w hr hxx _ => ?_
  obtain ⟨us, hu, hl, hv⟩ := VR_tup (hx ▸ hxx x (by rw [ho]; simp [Op.operands]))
  have hlt : i < us.size := hl ▸ (List.getElem?_eq_some_iff.1 hi).1
  refine ⟨us[i], ?_, ?_⟩
  · rw [execOp_eq ho]; unfold execOp
    simp [hu, Instr.extract, hlt]
  · have := hv i y us[i] hi (by simp)
    cases y
    case tup zs => exact absurd rfl (hy zs)
    all_goals simpa only [VR] using this

theorem snd_makeFunc {f : Nat} {cap : Array Operand} (ho : o.op = .makeFunc (.func f) #[] cap) (hs : (cap.toList.map (evA tm0)).all (fun y => match y with | .func _ _ => false | .agg _ => false | .tup _ => false | .dead => false | _ => true) = true) :
    OpSnd P nG G0 n0 o (.func f (cap.toList.map (evA tm0))) [] rd tm0 hp0 := by
  refine OpSnd.look fun n K S tm hp a w hr hxx _ => ⟨.func (.func f) #[] (cap.toList.map a.eval).toArray, ?_, ?_⟩
  · rw [execOp_eq ho]; unfold execOp
    simp only [Instr.makeFunc]
    have e : cap.map a.eval = (cap.toList.map a.eval).toArray := by apply Array.ext'; simp
    rw [e]
    simp
  · simp only [VR, VRa, VRc]
    refine ⟨_, rfl, by simp, fun j y c hy hc => ?_⟩
    rw [List.getElem?_map] at hy hc
    cases hq : cap.toList[j]? with
    | none => rw [hq] at hy; cases hy
    | some q =>
      rw [hq] at hy hc
      simp at hy hc
      subst hy; subst hc
      have hm : q ∈ cap := by have := List.mem_of_getElem? hq; simpa using this
      have h1 := hxx q (by rw [ho]; simp [Op.operands, hm])
      have h2 := List.all_eq_true.1 hs (evA tm0 q) (List.mem_map.2 ⟨q, by simpa using hm, rfl⟩)
      revert h1 h2
      generalize evA tm0 q = y
      intro h1 h2
      cases y <;> simp at h2 <;> simpa only [VR, VRa, VRc] using h1

/-- Arithmetic. -/
def arithA (op : BinOp) (k : IntKind) (a b : Int) : Option AV :=
  match op with
  | .add => some (.int k (k.wrap (a + b)))
  | .sub => some (.int k (k.wrap (a - b)))
  | .mul => some (.int k (k.wrap (a * b)))
  | .eql => some (.bool (a == b))
  | .neq => some (.bool (a != b))
  | .lss => some (.bool (decide (a < b)))
  | .leq => some (.bool (decide (a ≤ b)))
  | .gtr => some (.bool (decide (a > b)))
  | .geq => some (.bool (decide (a ≥ b)))
  | .and => some (.int k (k.wrap (BitVec.ofInt k.bits a &&& BitVec.ofInt k.bits b).toNat))
  | .or => some (.int k (k.wrap (BitVec.ofInt k.bits a ||| BitVec.ofInt k.bits b).toNat))
  | .xor => some (.int k (k.wrap (BitVec.ofInt k.bits a ^^^ BitVec.ofInt k.bits b).toNat))
  | _ => none

theorem snd_arith {op : BinOp} {xt yt : TypeId} {x y : Operand} {k : IntKind} {i j : Int} {r : AV} (ho : o.op = .binOp op xt x y yt) (hx : evA tm0 x = .int k i) (hy : evA tm0 y = .int k j) (hr : arithA op k i j = some r) :
    OpSnd P nG G0 n0 o r [] rd tm0 hp0 := by
  refine OpSnd.look fun n K S tm hp a w hr' hxx _ => ?_
  have hX := VR_int (hx ▸ hxx x (by rw [ho]; simp [Op.operands]))
  have hY := VR_int (hy ▸ hxx y (by rw [ho]; simp [Op.operands]))
  have key : ∃ u, (binOp op xt (.int k i) (.int k j)).run P w = .ok u w ∧ VR K S w r u := by
    cases op <;> simp [arithA] at hr <;> subst hr <;> simp [binOp, Op.intArith, Op.intCmp, Op.intBits] <;> first | exact (PR.int _ _).vr | exact (PR.bool _).vr
  obtain ⟨u, h1, h2⟩ := key
  refine ⟨u, ?_, h2⟩
  rw [execOp_eq ho]; unfold execOp
  simp only [hX, hY]
  have hg : (eqGuard op xt x y (.int k i) (.int k j)).run P w = .ok () w := by
    unfold eqGuard
    split <;> simp_all
  simp [hg, h1]

theorem snd_div {op : BinOp} {xt yt : TypeId} {x y : Operand} {k : IntKind} {i j : Int} (ho : o.op = .binOp op xt x y yt) (hx : evA tm0 x = .int k i) (hy : evA tm0 y = .int k j) (hj : j ≠ 0) (hop : op = .quo ∨ op = .rem) :
    OpSnd P nG G0 n0 o (.int k (if op matches .quo then k.wrap (i.tdiv j) else i.tmod j)) [] rd tm0 hp0 := by
  refine OpSnd.look fun n K S tm hp a w hr' hxx _ => ?_
  have hX := VR_int (hx ▸ hxx x (by rw [ho]; simp [Op.operands]))
  have hY := VR_int (hy ▸ hxx y (by rw [ho]; simp [Op.operands]))
  refine ⟨_, ?_, (PR.int _ _).vr⟩
  rw [execOp_eq ho]; unfold execOp
  rcases hop with rfl | rfl <;> simp [hX, hY, eqGuard, binOp, Op.intDiv, hj]

theorem snd_shr {xt yt : TypeId} {x y : Operand} {k k' : IntKind} {i j : Int} (ho : o.op = .binOp .shr xt x y yt) (hx : evA tm0 x = .int k i) (hy : evA tm0 y = .int k' j) (hj : 0 ≤ j) :
    OpSnd P nG G0 n0 o (.int k (i.fdiv (2 ^ min j.toNat k.bits))) [] rd tm0 hp0 := by
  refine OpSnd.look fun n K S tm hp a w hr' hxx _ => ?_
  have hX := VR_int (hx ▸ hxx x (by rw [ho]; simp [Op.operands]))
  have hY := VR_int (hy ▸ hxx y (by rw [ho]; simp [Op.operands]))
  refine ⟨_, ?_, (PR.int _ _).vr⟩
  rw [execOp_eq ho]; unfold execOp
  simp [hX, hY, eqGuard, binOp, Op.shift, show ¬ j < 0 from by omega]

theorem snd_not {t : TypeId} {x : Operand} {b : Bool} (ho : o.op = .unOp .not t x) (hx : evA tm0 x = .bool b) : OpSnd P nG G0 n0 o (.bool (!b)) [] rd tm0 hp0 := by
  refine OpSnd.look fun n K S tm hp a w hr' hxx _ => ?_
  have hX := VR_bool (hx ▸ hxx x (by rw [ho]; simp [Op.operands]))
  refine ⟨_, ?_, (PR.bool _).vr⟩
  rw [execOp_eq ho]; unfold execOp
  simp [hX, Op.unary]
end ops
end Go.Ab

namespace Go.Ab

section ops
variable {P : Program} {tab : Tab} {nG : Nat} {G0 : Nat → Option Obj} {n0 : Nat} {o : Oper} {rd : List Nat} {tm0 : Nat → AV} {hp0 : Nat → Option Blk}

theorem size_str (s : List UInt8) : (⟨s.toArray⟩ : ByteArray).size = s.length := by simp [ByteArray.size]

theorem snd_concat {xt yt : TypeId} {x y : Operand} {s r : List UInt8} (ho : o.op = .binOp .add xt x y yt) (hx : evA tm0 x = .str s) (hy : evA tm0 y = .str r) (hl : s.length + r.length ≤ 9223372036854775807) :
    OpSnd P nG G0 n0 o (.str (s ++ r)) [] rd tm0 hp0 := by
  refine OpSnd.look fun n K S tm hp a w hr' hxx _ => ?_
  have hX := VR_str (hx ▸ hxx x (by rw [ho]; simp [Op.operands]))
  have hY := VR_str (hy ▸ hxx y (by rw [ho]; simp [Op.operands]))
  refine ⟨.string ((⟨s.toArray⟩ : ByteArray) ++ ⟨r.toArray⟩), ?_, ?_⟩
  · rw [execOp_eq ho]; unfold execOp
    simp [hX, hY, eqGuard, binOp, Op.stringOp, size_str]
    omega
  · have e : ((⟨s.toArray⟩ : ByteArray) ++ ⟨r.toArray⟩) = ⟨(s ++ r).toArray⟩ := by
      apply ByteArray.ext
      simp [ByteArray.data_append]
    rw [e]
    exact (PR.str _).vr

theorem snd_streq {op : BinOp} {xt yt : TypeId} {x y : Operand} {s r : List UInt8} (ho : o.op = .binOp op xt x y yt) (hx : evA tm0 x = .str s) (hy : evA tm0 y = .str r) (hop : op = .eql ∨ op = .neq) :
    OpSnd P nG G0 n0 o (.bool (if op matches .eql then s == r else !(s == r))) [] rd tm0 hp0 := by
  refine OpSnd.look fun n K S tm hp a w hr' hxx _ => ?_
  have hX := VR_str (hx ▸ hxx x (by rw [ho]; simp [Op.operands]))
  have hY := VR_str (hy ▸ hxx y (by rw [ho]; simp [Op.operands]))
  refine ⟨_, ?_, (PR.bool _).vr⟩
  rw [execOp_eq ho]; unfold execOp
  rcases hop with rfl | rfl <;> simp [hX, hY, eqGuard, binOp, Op.stringOp]

theorem run_eql_any (P : Program) (w : World) (t : TypeId) (u v : Value) (b : Bool) (hu : match u with | .bool _ => True | .slice _ _ _ => True | .nilIface => True | .iface _ _ => True | .agg _ => True | _ => False)
    (h : (Op.equalIn (9999 + 1) t u v).run P w = .ok b w) (hv : match u, v with | .bool _, .bool _ => True | .slice _ _ _, .slice _ _ _ => True | .nilIface, .nilIface => True | .iface _ _, .nilIface => True | .agg _, .agg _ => True | _, _ => False) :
    (binOp .eql t u v).run P w = .ok (.bool b) w ∧ (binOp .neq t u v).run P w = .ok (.bool (!b)) w := by
  have h' : (Op.equal t u v).run P w = .ok b w := h
  cases u <;> simp only at hu <;> cases v <;> simp only at hv <;> constructor <;> simp only [binOp, Sem.run_bind, h', Result.andThen_ok, Sem.run_pure]

theorem snd_booleq {op : BinOp} {xt yt : TypeId} {ti : TI} {x y : Operand} {s r : Bool} (ht : TIok P xt ti) (hk : ti.kind = .scalar .bool) (ho : o.op = .binOp op xt x y yt) (hx : evA tm0 x = .bool s) (hy : evA tm0 y = .bool r) (hop : op = .eql ∨ op = .neq) :
    OpSnd P nG G0 n0 o (.bool (if op matches .eql then s == r else !(s == r))) [] rd tm0 hp0 := by
  refine OpSnd.look fun n K S tm hp a w hr' hxx _ => ?_
  have hX := VR_bool (hx ▸ hxx x (by rw [ho]; simp [Op.operands]))
  have hY := VR_bool (hy ▸ hxx y (by rw [ho]; simp [Op.operands]))
  have hkk := ht.kind
  rw [hk] at hkk
  obtain ⟨d, hd, hs⟩ := hkk
  cases d <;> simp [scalarDesc] at hs
  have hq : ∀ d, (Op.equalIn (d + 1) xt (.bool s) (.bool r)).run P w = .ok (s == r) w := fun d => by simp only [Op.equalIn, Sem.run_bind, run_under hd, Result.andThen_ok, Sem.run_pure]
  obtain ⟨k1, k2⟩ := run_eql_any P w xt (.bool s) (.bool r) _ trivial (hq _) trivial
  refine ⟨_, ?_, (PR.bool _).vr⟩
  rw [execOp_eq ho]; unfold execOp
  rcases hop with rfl | rfl <;> simp [hX, hY, eqGuard, k1, k2]

theorem snd_nileq {op : BinOp} {xt e yt : TypeId} {ti : TI} {x y : Operand} {sz : Nat} {nil : Bool} {tok : Option Nat} {xs : List (List AV)} (ht : TIok P xt ti) (hk : ti.kind = .slice e) (ho : o.op = .binOp op xt x y yt) (hx : evA tm0 x = .sl sz nil tok xs) (hy : evA tm0 y = .nils) (hop : op = .eql ∨ op = .neq) :
    OpSnd P nG G0 n0 o (.bool (if op matches .eql then nil else !nil)) [] rd tm0 hp0 := by
  refine OpSnd.look fun n K S tm hp a w hr' hxx _ => ?_
  have hX := VR_sl (hx ▸ hxx x (by rw [ho]; simp [Op.operands]))
  have hY := VR_nils (hy ▸ hxx y (by rw [ho]; simp [Op.operands]))
  have hkk := ht.kind
  rw [hk] at hkk
  have hq : ∀ d (b : Option Addr) l c, (Op.equalIn (d + 1) xt (.slice b l c) (.slice none 0 0)).run P w = .ok b.isNone w := by
    intro d b l c
    cases b <;> simp only [Op.equalIn, Sem.run_bind, run_under hkk, Result.andThen_ok, Sem.run_pure] <;> rfl
  refine ⟨_, ?_, (PR.bool _).vr⟩
  generalize hu : a.eval x = u at hX
  rw [execOp_eq ho]; unfold execOp
  have k := fun b l c => run_eql_any P w xt (.slice b l c) (.slice none 0 0) _ trivial (hq _ b l c) trivial
  cases hX <;> rcases hop with rfl | rfl <;> simp [hu, hY, eqGuard, k]

theorem snd_ifaceeq {op : BinOp} {xt yt : TypeId} {ti : TI} {x : Operand} (ht : TIok P xt ti) (hk : ti.kind = .scalar .iface) (ho : o.op = .binOp op xt x (.const .nilIface) yt) {b : Bool} (hx : evA tm0 x = if b then .iface else .nilIface) (hop : op = .eql ∨ op = .neq) :
    OpSnd P nG G0 n0 o (.bool (if op matches .eql then !b else b)) [] rd tm0 hp0 := by
  refine OpSnd.look fun n K S tm hp a w hr' hxx _ => ?_
  have hX := hxx x (by rw [ho]; simp [Op.operands])
  rw [hx] at hX
  have hkk := ht.kind
  rw [hk] at hkk
  obtain ⟨d, hd, hs⟩ := hkk
  cases d <;> simp [scalarDesc] at hs
  have q1 : ∀ d, (Op.equalIn (d + 1) xt .nilIface .nilIface).run P w = .ok true w := fun d => by simp only [Op.equalIn, Sem.run_bind, run_under hd, Result.andThen_ok, Sem.run_pure]
  have q2 : ∀ d t v, (Op.equalIn (d + 1) xt (.iface t v) .nilIface).run P w = .ok false w := fun d t v => by simp only [Op.equalIn, Sem.run_bind, run_under hd, Result.andThen_ok, Sem.run_pure]
  have hc : a.eval (.const .nilIface) = .nilIface := rfl
  have k1 := run_eql_any P w xt .nilIface .nilIface _ trivial (q1 _) trivial
  have k2 := fun t v => run_eql_any P w xt (.iface t v) .nilIface _ trivial (q2 _ t v) trivial
  refine ⟨_, ?_, (PR.bool _).vr⟩
  generalize hu : a.eval x = u at hX
  rw [execOp_eq ho]; unfold execOp
  cases b
  · simp only [VR, VRa, VRc, VR0, Bool.false_eq_true, if_false] at hX
    cases hX
    rcases hop with rfl | rfl <;> simp [hu, hc, eqGuard, k1]
  · simp only [VR, VRa, VRc, VR0, if_true] at hX
    cases hX
    rcases hop with rfl | rfl <;> simp [hu, hc, eqGuard, k2]

/-- Equality of structs whose cells are numbers, bools and texts. -/
def eqC : AV → AV → Bool
  | .bool a, .bool b => a == b
  | .int _ a, .int _ b => a == b
  | .str a, .str b => a == b
  | _, _ => false

def eqFit : CK → AV → Bool
  | .bool, .bool _ => true
  | .int k, .int k' _ => k == k'
  | .str, .str _ => true
  | _, _ => false

/-- The scalar cells of a struct, field by field. -/
def eqFs (rc : TypeId → Option (List CK)) : Nat → List (Nat × Nat) → Option (List CK)
  | _, [] => some []
  | off, (fo, ft) :: r =>
    if fo = off then
      match rc ft with
      | some a => match eqFs rc (off + a.length) r with | some b => some (a ++ b) | none => none
      | none => none
    else none

/-- The scalar cells of a type, by the table. -/
def eqPlan (tab : Tab) : Nat → TypeId → Option (List CK)
  | 0, _ => none
  | d + 1, t =>
    match tab t with
    | some ti =>
      match ti.kind with
      | .scalar c => match c with | .bool => some [.bool] | .int k => some [.int k] | .str => some [.str] | _ => none
      | .struct fs => match eqFs (eqPlan tab d) 0 fs with | some p => if p.length = ti.size then some p else none | none => none
      | _ => none
    | none => none

def eqAll : List AV → List AV → Bool
  | [], [] => true
  | a :: r, b :: s => eqC a b && eqAll r s
  | _, _ => false

theorem eqAll_append : ∀ (a b c d : List AV), a.length = b.length → eqAll (a ++ c) (b ++ d) = (eqAll a b && eqAll c d)
  | [], [], _, _, _ => by simp [eqAll]
  | x :: a, y :: b, c, d, h => by
    simp only [List.cons_append, eqAll]
    rw [eqAll_append a b c d (by simpa using h), Bool.and_assoc]
  | [], _ :: _, _, _, h => by simp at h
  | _ :: _, [], _, _, h => by simp at h

def eqFits : List CK → List AV → Bool
  | [], [] => true
  | c :: r, y :: s => eqFit c y && eqFits r s
  | _, _ => false

theorem eqFits_length : ∀ {cs : List CK} {ys : List AV}, eqFits cs ys = true → ys.length = cs.length
  | [], [], _ => rfl
  | c :: r, y :: s, h => by simp [eqFits] at h; simp [eqFits_length h.2]
  | [], _ :: _, h => by simp [eqFits] at h
  | _ :: _, [], h => by simp [eqFits] at h

theorem eqFits_append : ∀ {cs ds : List CK} {ys : List AV}, eqFits (cs ++ ds) ys = true → eqFits cs (ys.take cs.length) = true ∧ eqFits ds (ys.drop cs.length) = true
  | [], ds, ys, h => by simpa [eqFits] using h
  | c :: r, ds, [], h => by simp [eqFits] at h
  | c :: r, ds, y :: s, h => by
    simp [eqFits] at h
    have := eqFits_append h.2
    simp [eqFits, h.1, this.1, this.2]

/-- What one reads of two values, cell by cell. -/
structure CellsAre (K : KM) (S : Stb) (w : World) (ys : List AV) (vs : Array Value) : Prop where
  size : vs.size = ys.length
  cell : ∀ (j : Nat) (y : AV) (v : Value), ys[j]? = some y → vs[j]? = some v → VRc K S w y v

theorem eqC_run {K : KM} {S : Stb} {w w' : World} {P : Program} {t : TypeId} {ti : TI} {c : CK} (ht : TIok P t ti) (hk : ti.kind = .scalar c) {d : Nat} {y z : AV} {u v : Value} (hy : VRc K S w' y u) (hz : VRc K S w' z v) (f1 : eqFit c y = true) (f2 : eqFit c z = true) :
    (Op.equalIn (d + 1) t u v).run P w = .ok (eqC y z) w := by
  have hkk := ht.kind
  rw [hk] at hkk
  obtain ⟨dd, hd, hs⟩ := hkk
  cases c <;> cases y <;> simp [eqFit] at f1 <;> cases z <;> simp [eqFit] at f2
  · simp only [VRc, VR0] at hy hz
    cases hy; cases hz
    cases dd <;> simp [scalarDesc] at hs
    simp [Op.equalIn, run_under hd, eqC]
  · simp only [VRc, VR0] at hy hz
    cases hy; cases hz
    cases dd <;> simp [scalarDesc] at hs
    subst f1; subst f2
    simp [Op.equalIn, run_under hd, eqC]
  · simp only [VRc, VR0] at hy hz
    cases hy; cases hz
    cases dd <;> simp [scalarDesc] at hs
    rw [run_equalIn_string w d t _ _ hd]
    simp [eqC]

theorem eqPlan_sound (htab : TabOk P tab) {K : KM} {S : Stb} {w w' : World} : ∀ (d : Nat) (t : TypeId) (ti : TI) (plan : List CK), tab t = some ti → eqPlan tab d t = some plan → ti.size = plan.length ∧
    ∀ (e : Nat) (ys zs : List AV) (us vs : Array Value), d ≤ e → CellsAre K S w' ys us → CellsAre K S w' zs vs → eqFits plan ys = true → eqFits plan zs = true →
      (Op.equalIn e t (if ti.kind.isAgg then .agg us else us.getD 0 undef) (if ti.kind.isAgg then .agg vs else vs.getD 0 undef)).run P w = .ok (eqAll ys zs) w := by
  intro d
  induction d with
  | zero => intro t ti plan _ h; simp [eqPlan] at h
  | succ d ih =>
    intro t ti plan htt hp
    have ht := htab t ti htt
    simp only [eqPlan, htt] at hp
    cases hk : ti.kind with
    | scalar c =>
      rw [hk] at hp
      have h1 := ht.one (by rw [hk]; rfl)
      have key : plan = [c] ∧ True := by
        cases c <;> simp at hp <;> exact ⟨hp.symm, trivial⟩
      obtain ⟨rfl, _⟩ := key
      refine ⟨by simp [h1], fun e ys zs us vs he hys hzs f1 f2 => ?_⟩
      obtain ⟨e, rfl⟩ : ∃ e', e = e' + 1 := ⟨e - 1, by omega⟩
      match ys, zs, f1, f2 with
      | [y], [z], f1, f2 =>
        simp [eqFits] at f1 f2
        have hu : us[0]? = some (us.getD 0 undef) := by
          have := hys.size; simp at this
          simp [this]
        have hv : vs[0]? = some (vs.getD 0 undef) := by
          have := hzs.size; simp at this
          simp [this]
        have := eqC_run (w := w) (d := e) ht hk (hys.cell 0 y _ rfl hu) (hzs.cell 0 z _ rfl hv) f1 f2
        simpa [TK.isAgg, eqAll] using this
      | [], _, f1, _ => simp [eqFits] at f1
      | _ :: _ :: _, _, f1, _ => simp [eqFits] at f1
      | [_], [], _, f2 => simp [eqFits] at f2
      | [_], _ :: _ :: _, _, f2 => simp [eqFits] at f2
    | struct fs =>
      rw [hk] at hp
      have hkk := ht.kind
      rw [hk] at hkk
      obtain ⟨fields, hd, hm, hn, hheld⟩ := hkk
      cases hfs : eqFs (eqPlan tab d) 0 fs with
      | none => simp [hfs] at hp
      | some p =>
      simp only [hfs] at hp
      split at hp
      rotate_left
      · cases hp
      rename_i hpl
      cases hp
      refine ⟨hpl.symm, fun e ys zs us vs he hys hzs f1 f2 => ?_⟩
      obtain ⟨e, rfl⟩ : ∃ e', e = e' + 1 := ⟨e - 1, by omega⟩
      simp only [TK.isAgg, if_true]
      have hfo : P.fieldsOf t = fields := by simp [Program.fieldsOf, hd]
      rw [run_equalIn_struct w e t us vs (by rw [hfo]; exact hd) hheld, hfo]
      have hn' : ∀ f ∈ fields.toList, f.name ≠ "_" := fun f hf => hn f (by simpa using hf)
      generalize fields.toList = fl at hm hn'
      have key : ∀ (fl : List Field) (off : Nat) (p : List CK), (∀ f ∈ fl, f.name ≠ "_") → eqFs (eqPlan tab d) off (fl.map fun f => (f.offset, f.type)) = some p →
          eqFits p (ys.drop off) = true → eqFits p (zs.drop off) = true → (∀ f ∈ fl, (tab f.type).isSome) → (Op.eqFields e us vs fl).run P w = .ok (eqAll (ys.drop off) (zs.drop off)) w := by
        intro fl
        induction fl with
        | nil =>
          intro off p _ h g1 g2 _
          simp [eqFs] at h
          subst h
          have e1 := eqFits_length g1
          have e2 := eqFits_length g2
          have e1' : ys.drop off = [] := List.eq_nil_of_length_eq_zero (by simpa using e1)
          have e2' : zs.drop off = [] := List.eq_nil_of_length_eq_zero (by simpa using e2)
          rw [e1', e2']
          simp [Op.eqFields, eqAll]
        | cons f fl ihf =>
          intro off p hnn h g1 g2 hts
          simp only [List.map_cons, eqFs] at h
          split at h
          rotate_left
          · cases h
          rename_i hoff
          cases ha : eqPlan tab d f.type with
          | none => rw [ha] at h; simp at h
          | some a =>
          rw [ha] at h
          simp only at h
          cases hb : eqFs (eqPlan tab d) (off + a.length) (fl.map fun f => (f.offset, f.type)) with
          | none => rw [hb] at h; simp at h
          | some b =>
          rw [hb] at h
          cases h
          obtain ⟨fti, hft⟩ := Option.isSome_iff_exists.1 (hts f (by simp))
          obtain ⟨hsz, hrun⟩ := ih f.type fti a hft ha
          obtain ⟨g1a, g1b⟩ := eqFits_append g1
          obtain ⟨g2a, g2b⟩ := eqFits_append g2
          have l1 := eqFits_length g1
          have l2 := eqFits_length g2
          simp only [List.length_drop, List.length_append] at l1 l2
          have hus := hys.size
          have hvs := hzs.size
          have htf := htab f.type fti hft
          rcases Nat.eq_zero_or_pos a.length with hz | hpos
          · -- an empty struct is none of ours
            have hag : fti.kind.isAgg = true := by
              cases hc : fti.kind.isAgg with
              | true => rfl
              | false => have := htf.one hc; omega
            have hpart : ∀ x : Array Value, (part f.type x f.offset).run P w = .ok (.agg #[]) w := by
              intro x
              simp [part, htf.run_isAgg, hag, htf.run_size, hsz, hz]
              omega
            have hq := hrun e [] [] #[] #[] (by omega) ⟨rfl, fun j y v hy => by simp at hy⟩ ⟨rfl, fun j y v hy => by simp at hy⟩ (by rw [List.eq_nil_of_length_eq_zero hz]; rfl) (by rw [List.eq_nil_of_length_eq_zero hz]; rfl)
            rw [hag] at hq
            simp only [if_true] at hq
            simp only [Op.eqFields, ne_eq, hnn f (by simp), not_false_eq_true, if_true, Sem.run_bind, hpart, Result.andThen_ok, hq, eqAll, Bool.not_true, Bool.false_eq_true, if_false]
            have := ihf (off + a.length) b (fun f hf => hnn f (by simp [hf])) hb (by rw [← List.drop_drop]; exact g1b) (by rw [← List.drop_drop]; exact g2b) (fun f hf => hts f (by simp [hf]))
            rw [hz, Nat.add_zero] at this
            exact this
          · have hpart : ∀ (x : Array Value) (xs : List AV), x.size = xs.length → off + a.length ≤ xs.length → (part f.type x f.offset).run P w = .ok (if fti.kind.isAgg then .agg ((List.range fti.size).map fun j => x[off + j]?.getD undef).toArray else ((List.range fti.size).map fun j => x[off + j]?.getD undef).toArray.getD 0 undef) w := by
              intro x xs hx hle
              rw [run_part htf w x f.offset (by omega) (fun j => x[off + j]?.getD undef) (fun j hj => by
                have : off + j < x.size := by omega
                rw [hoff]
                simp [this])]
              congr 2
              have : 0 < fti.size := by omega
              simp [this]
            have hcells : ∀ (x : Array Value) (xs : List AV), CellsAre K S w' xs x → off + a.length ≤ xs.length → CellsAre K S w' ((xs.drop off).take a.length) ((List.range fti.size).map fun j => x[off + j]?.getD undef).toArray := by
              intro x xs hx hle
              refine ⟨by simp [hsz]; omega, fun j y v hy hv => ?_⟩
              have hj : j < a.length := by
                have := (List.getElem?_eq_some_iff.1 hy).1
                simp at this; omega
              rw [List.getElem?_take, if_pos hj, List.getElem?_drop] at hy
              have h2 : off + j < x.size := by rw [hx.size]; exact (List.getElem?_eq_some_iff.1 hy).1
              simp [hsz, hj] at hv
              subst hv
              exact hx.cell _ y _ hy (by simp [h2])
            have hq := hrun e _ _ _ _ (by omega) (hcells us ys hys (by omega)) (hcells vs zs hzs (by omega)) g1a g2a
            simp only [Op.eqFields, ne_eq, hnn f (by simp), not_false_eq_true, if_true, Sem.run_bind, hpart us ys hus (by omega), hpart vs zs hvs (by omega), Result.andThen_ok, hq]
            have hrest := ihf (off + a.length) b (fun f hf => hnn f (by simp [hf])) hb (by rw [← List.drop_drop]; exact g1b) (by rw [← List.drop_drop]; exact g2b) (fun f hf => hts f (by simp [hf]))
            have hsplit : eqAll (ys.drop off) (zs.drop off) = (eqAll ((ys.drop off).take a.length) ((zs.drop off).take a.length) && eqAll (ys.drop (off + a.length)) (zs.drop (off + a.length))) := by
              rw [← List.drop_drop, ← List.drop_drop, ← eqAll_append _ _ _ _ (by simp; omega), List.take_append_drop, List.take_append_drop]
            rw [hsplit]
            cases heq : eqAll ((ys.drop off).take a.length) ((zs.drop off).take a.length)
            · simp
            · simp [hrest]
      have hts : ∀ (fl : List Field) (off : Nat) (p : List CK), eqFs (eqPlan tab d) off (fl.map fun f => (f.offset, f.type)) = some p → ∀ f ∈ fl, (tab f.type).isSome := by
        intro fl
        induction fl with
        | nil => intro _ _ _ f hf; simp at hf
        | cons g fl ihg =>
          intro off p h f hf
          simp only [List.map_cons, eqFs] at h
          split at h
          rotate_left
          · cases h
          cases ha : eqPlan tab d g.type with
          | none => rw [ha] at h; simp at h
          | some a =>
          rw [ha] at h
          simp only at h
          cases hb : eqFs (eqPlan tab d) (off + a.length) (fl.map fun f => (f.offset, f.type)) with
          | none => rw [hb] at h; simp at h
          | some b =>
          rcases List.mem_cons.1 hf with rfl | hf
          · cases d with
            | zero => simp [eqPlan] at ha
            | succ d =>
              simp only [eqPlan] at ha
              cases htt' : tab f.type with
              | none => rw [htt'] at ha; simp at ha
              | some x => rfl
          · exact ihg _ b hb f hf
      rw [← hm] at hfs
      have := key fl 0 plan hn' hfs (by simpa using f1) (by simpa using f2) (hts fl 0 plan hfs)
      simpa using this
    | _ => rw [hk] at hp; simp at hp
end ops
end Go.Ab

namespace Go.Ab

/-- What is asked of a program. -/
structure ProgOk (P : Program) (tab : Tab) : Prop where
  tab : TabOk P tab
  depth : 20 ≤ P.depth
  mixed : P.follows .mixedOrders = true

section ops
variable {P : Program} {tab : Tab} {nG : Nat} {G0 : Nat → Option Obj} {n0 : Nat} {o : Oper} {rd : List Nat} {tm0 : Nat → AV} {hp0 : Nat → Option Blk}

theorem eqPlan_guard (htab : TabOk P tab) : ∀ (d : Nat) (t : TypeId) (plan : List CK), eqPlan tab d t = some plan → ∀ e, d ≤ e → P.eqGuardType e t = false := by
  intro d
  induction d with
  | zero => intro t plan h; simp [eqPlan] at h
  | succ d ih =>
    intro t plan hp e he
    obtain ⟨e, rfl⟩ : ∃ e', e = e' + 1 := ⟨e - 1, by omega⟩
    simp only [eqPlan] at hp
    cases htt : tab t with
    | none => simp [htt] at hp
    | some ti =>
    have ht := htab t ti htt
    simp only [htt] at hp
    cases hk : ti.kind with
    | scalar c =>
      have hkk := ht.kind
      rw [hk] at hkk
      obtain ⟨dd, hd, hs⟩ := hkk
      rw [hk] at hp
      cases c <;> simp at hp <;> cases dd <;> simp [scalarDesc] at hs <;> simp [Program.eqGuardType, hd]
    | struct fs =>
      have hkk := ht.kind
      rw [hk] at hkk
      obtain ⟨fields, hd, hm, hn, hheld⟩ := hkk
      rw [hk] at hp
      cases hfs : eqFs (eqPlan tab d) 0 fs with
      | none => simp [hfs] at hp
      | some p =>
      simp only [Program.eqGuardType, hd]
      rw [Array.any_eq_false']
      intro f hf
      have key : ∀ (fl : List Field) (off : Nat) (p : List CK), eqFs (eqPlan tab d) off (fl.map fun f => (f.offset, f.type)) = some p → ∀ f ∈ fl, ∃ q, eqPlan tab d f.type = some q := by
        intro fl
        induction fl with
        | nil => intro _ _ _ f hf; simp at hf
        | cons g fl ihg =>
          intro off p h f hf
          simp only [List.map_cons, eqFs] at h
          split at h
          rotate_left
          · cases h
          cases ha : eqPlan tab d g.type with
          | none => rw [ha] at h; simp at h
          | some a =>
          rw [ha] at h
          simp only at h
          cases hb : eqFs (eqPlan tab d) (off + a.length) (fl.map fun f => (f.offset, f.type)) with
          | none => rw [hb] at h; simp at h
          | some b =>
          rcases List.mem_cons.1 hf with rfl | hf
          · exact ⟨a, ha⟩
          · exact ihg _ b hb f hf
      rw [← hm] at hfs
      obtain ⟨q, hq⟩ := key fields.toList 0 p hfs f (by simpa using hf)
      simp [ih f.type q hq e (by omega)]
    | _ => simp [hk] at hp

theorem snd_aggeq {op : BinOp} {xt yt : TypeId} {ti : TI} {x y : Operand} {ys zs : List AV} {plan : List CK} (hP : ProgOk P tab) (htt : tab xt = some ti) (hag : ti.kind.isAgg = true) (hplan : eqPlan tab 20 xt = some plan)
    (ho : o.op = .binOp op xt x y yt) (hx : evA tm0 x = .agg ys) (hy : evA tm0 y = .agg zs) (f1 : eqFits plan ys = true) (f2 : eqFits plan zs = true) (hop : op = .eql ∨ op = .neq) :
    OpSnd P nG G0 n0 o (.bool (if op matches .eql then eqAll ys zs else !(eqAll ys zs))) [] rd tm0 hp0 := by
  refine OpSnd.look fun n K S tm hp a w hr' hxx _ => ?_
  obtain ⟨us, hu, hul, huv⟩ := VR_agg (hx ▸ hxx x (by rw [ho]; simp [Op.operands]))
  obtain ⟨vs, hv, hvl, hvv⟩ := VR_agg (hy ▸ hxx y (by rw [ho]; simp [Op.operands]))
  have hq := (eqPlan_sound (P := P) (w := w) hP.tab (K := K) (S := S) (w' := w) 20 xt ti plan htt hplan).2 10000 ys zs us vs (by omega) ⟨hul, huv⟩ ⟨hvl, hvv⟩ f1 f2
  rw [hag] at hq
  simp only [if_true] at hq
  have hg := eqPlan_guard hP.tab 20 xt plan hplan P.depth hP.depth
  refine ⟨_, ?_, (PR.bool _).vr⟩
  rw [execOp_eq ho]; unfold execOp
  rcases hop with rfl | rfl
  · simp only [hu, hv, Sem.run_bind, run_eqGuard_agg w .eql xt x y us vs hg, Result.andThen_ok, run_eql_struct, hq, Sem.run_pure]; simp
  · simp only [hu, hv, Sem.run_bind, run_eqGuard_agg w .neq xt x y us vs hg, Result.andThen_ok, run_neq_struct, hq, Sem.run_pure]; simp

/-- The length of a value. -/
def lenA : AV → Option Nat
  | .str s => some s.length
  | .sl _ _ _ xs => some xs.length
  | .rsl _ _ _ len => some len
  | .nils => some 0
  | .mp _ es => some es.length
  | _ => none

theorem run_builtin {b : Builtin} {args : Array Operand} {ts : Array TypeId} {ρ : Operand → Value} (ho : o.op = .call { callee := .builtin b, args := args, argTypes := ts }) (w : World) :
    (execOp ρ o).run P w = (builtin b ts o.type (args.map fun | .const _ => true | _ => false) (args.map ρ)).run P w := by
  rw [execOp_eq ho]; unfold execOp
  simp [resolve, invoke]
  rfl

theorem snd_len {t : TypeId} {ti : TI} {x : Operand} {l : Nat} (ht : TIok P t ti) (ho : o.op = .call { callee := .builtin .len, args := #[x], argTypes := #[t] })
    (hk : match ti.kind, evA tm0 x with | .scalar .str, .str s => l = s.length | .slice _, .sl _ _ _ xs => l = xs.length | .slice _, .rsl _ _ _ n => l = n | .slice _, .nils => l = 0 | .map _ _, .mp _ es => l = es.length | .arr n _, _ => l = n | _, _ => False) :
    OpSnd P nG G0 n0 o (.int .i64 l) [] rd tm0 hp0 := by
  refine OpSnd.look fun n K S tm hp a w hr' hxx _ => ?_
  have hX := hxx x (by rw [ho]; simp [Op.operands, Call.operands])
  refine ⟨.int .i64 l, ?_, (PR.int _ _).vr⟩
  rw [run_builtin ho]
  have hkk := ht.kind
  generalize he : evA tm0 x = y at hk hX
  generalize hu : a.eval x = u at hX
  cases hkd : ti.kind with
  | scalar c =>
    rw [hkd] at hk hkk
    cases c <;> cases y <;> simp at hk
    obtain ⟨d, hd, hs⟩ := hkk
    cases d <;> simp [scalarDesc] at hs
    have := VR_str hX
    subst this
    subst hk
    simp [builtin, Builtin.len_, run_under hd, hu, size_str, goInt]
  | slice e =>
    rw [hkd] at hk hkk
    cases y <;> simp at hk
    · have h := VR_sl hX
      subst hk
      cases h <;> simp [builtin, Builtin.len_, run_under hkk, hu, goInt]
    · obtain ⟨b, m, cap, _, _, _, rfl⟩ := VR_rsl hX
      subst hk
      simp [builtin, Builtin.len_, run_under hkk, hu, goInt]
    · have := VR_nils hX
      subst this
      subst hk
      simp [builtin, Builtin.len_, run_under hkk, hu, goInt]
  | arr m e =>
    rw [hkd] at hk hkk
    have hk' : l = m := by cases y <;> exact hk
    subst hk'
    simp [builtin, Builtin.len_, run_under hkk, goInt]
  | struct fs => rw [hkd] at hk; cases y <;> simp at hk
  | map k e =>
    rw [hkd] at hk hkk
    cases y <;> simp at hk
    have h := VR_mp hX
    subst hk
    cases h with
    | mpNil => simp [builtin, Builtin.len_, run_under hkk, hu, goInt]
    | mp b es ents clock hb hh hok _ _ => simp [builtin, Builtin.len_, run_under hkk, hu, getObj, Sem.run, hh, hok.size, goInt]

theorem snd_min {x y : Operand} {ts : Array TypeId} {k k' : IntKind} {i j : Int} {b : Builtin} (hb : b = .min ∨ b = .max) (ho : o.op = .call { callee := .builtin b, args := #[x, y], argTypes := ts }) (hx : evA tm0 x = .int k i) (hy : evA tm0 y = .int k' j) :
    OpSnd P nG G0 n0 o (.int k (if b matches .min then (if j < i then j else i) else (if j > i then j else i))) [] rd tm0 hp0 := by
  refine OpSnd.look fun n K S tm hp a w hr' hxx _ => ?_
  have hX := VR_int (hx ▸ hxx x (by rw [ho]; simp [Op.operands, Call.operands]))
  have hY := VR_int (hy ▸ hxx y (by rw [ho]; simp [Op.operands, Call.operands]))
  refine ⟨_, ?_, (PR.int _ _).vr⟩
  rw [run_builtin ho]
  rcases hb with rfl | rfl
  · simp [builtin, Builtin.min_, Builtin.min2, hX, hY]
  · simp [builtin, Builtin.max_, Builtin.max2, hX, hY]

theorem snd_convert {s t : TypeId} {si ti : TI} {x : Operand} {k k' : IntKind} {i : Int} (hs : TIok P s si) (ht : TIok P t ti) (hsk : si.kind = .scalar (.int k)) (htk : ti.kind = .scalar (.int k')) (ho : o.op = .convert s t x) (hx : evA tm0 x = .int k i) :
    OpSnd P nG G0 n0 o (.int k' (k'.wrap i)) [] rd tm0 hp0 := by
  refine OpSnd.look fun n K S tm hp a w hr' hxx _ => ?_
  have hX := VR_int (hx ▸ hxx x (by rw [ho]; simp [Op.operands]))
  have h1 := hs.kind
  have h2 := ht.kind
  rw [hsk] at h1
  rw [htk] at h2
  obtain ⟨d, hd, hds⟩ := h1
  obtain ⟨d', hd', hds'⟩ := h2
  cases d <;> simp [scalarDesc] at hds
  cases d' <;> simp [scalarDesc] at hds'
  subst hds; subst hds'
  refine ⟨_, ?_, (PR.int _ _).vr⟩
  rw [execOp_eq ho]; unfold execOp
  simp [convert, run_under hd, run_under hd', hX, Conv.intToInt]

/-- Filling the parts of a struct or an array. -/
def fillA (place : Nat → Option (Nat × Nat)) (cells : List AV) : List (Nat × AV) → Option (List AV)
  | [] => some cells
  | (i, v) :: rest =>
    match place i with
    | none => none
    | some (off, size) =>
      if v.cells.length ≠ size || off + v.cells.length > cells.length || !v.solid then none
      else fillA place (setR cells off v.cells) rest

theorem foldl_set (vs : List Value) : ∀ (i off : Nat) (cs : Array Value), (∀ (j : Nat), ((vs.zipIdx i).foldl (fun cs (c, j) => cs.setIfInBounds (off + j) c) cs)[j]? =
    if off + i ≤ j ∧ j < off + i + vs.length ∧ j < cs.size then vs[j - (off + i)]? else cs[j]?) ∧ ((vs.zipIdx i).foldl (fun cs (c, j) => cs.setIfInBounds (off + j) c) cs).size = cs.size := by
  induction vs with
  | nil => intro i off cs; simp; intro j h1 h2; omega
  | cons v vs ih =>
    intro i off cs
    simp only [List.zipIdx_cons, List.foldl_cons, List.length_cons]
    obtain ⟨h1, h2⟩ := ih (i + 1) off (cs.setIfInBounds (off + i) v)
    refine ⟨fun j => ?_, by rw [h2]; simp⟩
    rw [h1 j]
    simp only [Array.size_setIfInBounds]
    by_cases hj : j = off + i
    · subst hj
      rw [if_neg (by omega)]
      by_cases hlt : off + i < cs.size
      · rw [if_pos (by omega)]; simp [hlt]
      · rw [if_neg (by omega)]; simp [hlt]
    · by_cases hc : off + (i + 1) ≤ j ∧ j < off + (i + 1) + vs.length ∧ j < cs.size
      · rw [if_pos hc, if_pos (by omega), show j - (off + i) = (j - (off + (i + 1))) + 1 from by omega]
        simp
      · rw [if_neg hc, if_neg (by omega), Array.getElem?_setIfInBounds_ne (by omega)]

theorem fill_sound {K : KM} {S : Stb} {w : World} {place : Nat → Option (Nat × Nat)} : ∀ (ps : List (Nat × AV)) (qs : List (Nat × Value)) (cells : List AV) (cs : Array Value) (res : List AV), ps.length = qs.length →
    (∀ (j : Nat) (p : Nat × AV) (q : Nat × Value), ps[j]? = some p → qs[j]? = some q → p.1 = q.1 ∧ VR K S w p.2 q.2) → CellsAre K S w cells cs → fillA place cells ps = some res →
    ∃ rs, Instr.fill place cs qs = some rs ∧ CellsAre K S w res rs ∧ res.length = cells.length := by
  intro ps
  induction ps with
  | nil =>
    intro qs cells cs res hl _ hc hf
    cases qs with
    | nil => simp [fillA] at hf; subst hf; exact ⟨cs, rfl, hc, rfl⟩
    | cons => simp at hl
  | cons p ps ih =>
    intro qs cells cs res hl hpq hc hf
    cases qs with
    | nil => simp at hl
    | cons q qs =>
    obtain ⟨i, v⟩ := p
    obtain ⟨i', u⟩ := q
    obtain ⟨rfl, hv'⟩ := hpq 0 (i, v) (i', u) rfl rfl
    have hv : VR K S w v u := hv'
    simp only [fillA] at hf
    cases hp : place i with
    | none => simp [hp] at hf
    | some os =>
    obtain ⟨off, size⟩ := os
    simp only [hp] at hf
    split at hf
    · cases hf
    rename_i hcond
    simp at hcond
    obtain ⟨⟨h1, h2⟩, h3⟩ := hcond
    obtain ⟨hs, hcv⟩ := hv.cells h3
    obtain ⟨g1, g2⟩ := foldl_set u.cells.toList 0 off cs
    have hnew : CellsAre K S w (setR cells off v.cells) ((u.cells.toList.zipIdx 0).foldl (fun cs (c, j) => cs.setIfInBounds (off + j) c) cs) := by
      refine ⟨by rw [g2, setR_length (by omega)]; exact hc.size, fun j y z hy hz => ?_⟩
      rw [setR_get (by omega)] at hy
      rw [g1 j] at hz
      split at hy
      · rename_i hh
        rw [if_pos (by simp; have := hc.size; omega)] at hz
        exact (hcv _ y z hy (by simpa using hz)).1
      · rename_i hh
        rw [if_neg (by simp; have := hc.size; omega)] at hz
        exact hc.cell j y z hy hz
    obtain ⟨rs, k1, k2, k3⟩ := ih qs _ _ res (by simpa using hl) (fun j p q hp hq => hpq (j + 1) p q (by simpa using hp) (by simpa using hq)) hnew hf
    refine ⟨rs, ?_, k2, by rw [k3, setR_length (by omega)]⟩
    simp only [Instr.fill, hp]
    have hsz : ¬ (u.cells.size ≠ size ∨ off + u.cells.size > cs.size) := by
      have := hc.size
      omega
    simp only [ne_eq, Bool.or_eq_true, decide_eq_true_eq, not_or] at hsz ⊢
    rw [if_neg (by simpa using hsz)]
    have e : u.cells.zipIdx.foldl (fun cs (c, j) => cs.setIfInBounds (off + j) c) cs = (u.cells.toList.zipIdx 0).foldl (fun cs (c, j) => cs.setIfInBounds (off + j) c) cs := by
      rw [← Array.foldl_toList, Array.toList_zipIdx]
    rw [e]
    exact k1

theorem zero_cells {K : KM} {S : Stb} {w : World} {t : TypeId} {ti : TI} (ht : TIok P t ti) : CellsAre K S w (ti.cells.map zeroA) ti.zeroV.cells ∧ ti.zeroV.cells.size = ti.size := by
  have hz : ti.zeroV.cells = (ti.cells.map zeroC).toArray := by
    unfold TI.zeroV
    cases hk : ti.kind.isAgg with
    | true => rfl
    | false =>
      have h1 := ht.one hk
      have h2 := ht.len
      match hc : ti.cells, h2 with
      | [c], _ => cases c <;> rfl
      | [], h2 => exact absurd h2 (by simp [h1])
      | _ :: _ :: _, h2 => exact absurd h2 (by simp [h1])
  rw [hz]
  refine ⟨⟨by simp, fun j y u hy hu => ?_⟩, by simp [ht.len]⟩
  simp at hy hu
  obtain ⟨c, hc, rfl⟩ := hy
  obtain ⟨c', hc', rfl⟩ := hu
  rw [hc] at hc'; cases hc'
  cases c <;> simp only [zeroA, zeroC, VRc, VR0]
  · exact .bool _
  · exact .int _ _
  · exact .str []
  · exact .slNil _
  · exact .mpNil
  · exact .nilFunc
  · exact .nilIface

theorem snd_build_struct {t : TypeId} {ti : TI} {fs : List (Nat × Nat)} {parts : Array (Nat × Operand)} {res : List AV} (htab : TabOk P tab) (ht : TIok P t ti) (hk : ti.kind = .struct fs) (hag : (fs.all fun f => (tab f.2).isSome) = true) (ho : o.op = .build t parts)
    (hf : fillA (fun i => match fs[i]? with | some f => some (f.1, ((tab f.2).map (·.size)).getD 0) | none => none) (ti.cells.map zeroA) (parts.toList.map fun p => (p.1, evA tm0 p.2)) = some res) :
    OpSnd P nG G0 n0 o (.agg res) [] rd tm0 hp0 := by
  refine OpSnd.look fun n K S tm hp a w hr' hxx _ => ?_
  have hkk := ht.kind
  rw [hk] at hkk
  obtain ⟨fields, hd, hm, _, _⟩ := hkk
  obtain ⟨hz1, hz2⟩ := zero_cells (K := K) (S := S) (w := w) ht
  have hpl : (fields.mapM fun f => do pure (f.offset, ← sizeOf f.type) : Sem (Array (Nat × Nat))).run P w = .ok (fs.map fun f : Nat × Nat => (f.1, ((tab f.2).map fun x : TI => x.size).getD 0)).toArray w := by
    have key : ∀ (fl : List Field), (∀ f ∈ fl, (tab f.type).isSome = true) → (fl.mapM fun f => do pure (f.offset, ← sizeOf f.type) : Sem (List (Nat × Nat))).run P w = .ok (fl.map fun f => (f.offset, ((tab f.type).map (·.size)).getD 0)) w := by
      intro fl
      induction fl with
      | nil => intro _; simp
      | cons f fl ih =>
        intro hs
        obtain ⟨fi, hfi⟩ := Option.isSome_iff_exists.1 (hs f (by simp))
        have ih' := ih (fun g hg => hs g (by simp [hg]))
        simp only [List.mapM_cons, Sem.run_bind, (htab _ _ hfi).run_size, Result.andThen_ok, Sem.run_pure, ih', List.map_cons, hfi]
        rfl
    have hs : ∀ f ∈ fields.toList, (tab f.type).isSome = true := by
      intro f hf'
      have := List.all_eq_true.1 hag (f.offset, f.type) (by rw [← hm]; exact List.mem_map.2 ⟨f, hf', rfl⟩)
      exact this
    rw [Array.mapM_eq_mapM_toList]
    simp only [Sem.run_map, key fields.toList hs, Result.andThen_ok]
    rw [← hm]
    simp
  obtain ⟨rs, k1, k2, k3⟩ := fill_sound (K := K) (S := S) (w := w) (parts.toList.map fun p => (p.1, evA tm0 p.2)) (parts.toList.map fun p => (p.1, a.eval p.2)) _ ti.zeroV.cells res (by simp) (fun j p q hp' hq => by
    rw [List.getElem?_map] at hp' hq
    cases hj : parts.toList[j]? with
    | none => rw [hj] at hp'; cases hp'
    | some z =>
      rw [hj] at hp' hq
      simp at hp' hq
      subst hp'; subst hq
      refine ⟨rfl, hxx z.2 ?_⟩
      rw [ho]
      simp only [Op.operands, List.mem_toArray, List.mem_map]
      exact ⟨z, List.mem_of_getElem? hj, rfl⟩) hz1 hf
  refine ⟨.agg rs, ?_, ?_⟩
  · rw [execOp_eq ho]; unfold execOp
    have e1 : (fun i : Nat => ((fs.map fun f : Nat × Nat => (f.1, ((tab f.2).map fun x : TI => x.size).getD 0)).toArray)[i]?) = (fun i : Nat => match fs[i]? with | some f => some (f.1, ((tab f.2).map (·.size)).getD 0) | none => none) := by
      funext i
      simp only [List.getElem?_toArray, List.getElem?_map]
      cases fs[i]? <;> rfl
    have e2 : (parts.map fun (i, x) => (i, a.eval x)).toList = parts.toList.map fun p => (p.1, a.eval p.2) := by simp
    simp only [Instr.build, Sem.run_bind, ht.run_zero, Result.andThen_ok, run_under hd, hpl, e1, e2, k1, Sem.run_pure]
  · simp only [VR, VRa]
    exact ⟨rs, rfl, k2.size, k2.cell⟩

theorem snd_build_arr {t e m : TypeId} {ti ei : TI} {parts : Array (Nat × Operand)} {res : List AV} (ht : TIok P t ti) (hk : ti.kind = .arr m e) (he : TIok P e ei) (ho : o.op = .build t parts)
    (hf : fillA (fun i => some (i * ei.size, ei.size)) (ti.cells.map zeroA) (parts.toList.map fun p => (p.1, evA tm0 p.2)) = some res) :
    OpSnd P nG G0 n0 o (.agg res) [] rd tm0 hp0 := by
  refine OpSnd.look fun n K S tm hp a w hr' hxx _ => ?_
  have hkk := ht.kind
  rw [hk] at hkk
  obtain ⟨hz1, hz2⟩ := zero_cells (K := K) (S := S) (w := w) ht
  obtain ⟨rs, k1, k2, k3⟩ := fill_sound (K := K) (S := S) (w := w) (parts.toList.map fun p => (p.1, evA tm0 p.2)) (parts.toList.map fun p => (p.1, a.eval p.2)) _ ti.zeroV.cells res (by simp) (fun j p q hp' hq => by
    rw [List.getElem?_map] at hp' hq
    cases hj : parts.toList[j]? with
    | none => rw [hj] at hp'; cases hp'
    | some z =>
      rw [hj] at hp' hq
      simp at hp' hq
      subst hp'; subst hq
      refine ⟨rfl, hxx z.2 ?_⟩
      rw [ho]
      simp only [Op.operands, List.mem_toArray, List.mem_map]
      exact ⟨z, List.mem_of_getElem? hj, rfl⟩) hz1 hf
  refine ⟨.agg rs, ?_, ?_⟩
  · rw [execOp_eq ho]; unfold execOp
    have e2 : (parts.map fun (i, x) => (i, a.eval x)).toList = parts.toList.map fun p => (p.1, a.eval p.2) := by simp
    simp only [Instr.build, Sem.run_bind, ht.run_zero, Result.andThen_ok, run_under hkk, he.run_size, e2, k1, Sem.run_pure]
  · simp only [VR, VRa]
    exact ⟨rs, rfl, k2.size, k2.cell⟩
end ops
end Go.Ab

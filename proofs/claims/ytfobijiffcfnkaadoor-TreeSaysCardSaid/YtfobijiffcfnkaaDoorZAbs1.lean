/- The abstract values, blocks, and their relation to the model's worlds; no condition. -/
import Derived.Calls
import Derived.Laws.World
import Derived.Laws.Sem
namespace Go.Ab

inductive AV where
  | bool (b : Bool)
  | int (k : IntKind) (n : Int)
  | str (s : List UInt8)
  | sl (sz : Nat) (nil : Bool) (tok : Option Nat) (xs : List (List AV))
  | rsl (sz id off len : Nat)
  | mp (nil : Bool) (es : List (AV × AV))
  | rmp (id : Nat)
  | ref (id off : Nat)
  | eref (sz id i off : Nat)
  | rptr (cells : List AV)
  | func (f : Nat) (cap : List AV)
  | nilFunc
  | iface
  | nilIface
  | nils
  | agg (cells : List AV)
  | tup (vs : List AV)
  | iter (id : Nat)
  | dead
  deriving Inhabited

def AV.cells : AV → List AV
  | .agg cs => cs
  | v => [v]

/-- A block of the abstract heap. -/
inductive Blk where
  | var (cs : List AV)
  | arr (sz : Nat) (xs : List (List AV))
  | grow (sz n : Nat)
  | mp (es : List (AV × AV))
  | iter (es : List (AV × AV)) (cur : Option (AV × AV))
  deriving Inhabited

/-- Where a block of the abstract heap lies. -/
inductive KI where
  | var (b : Nat)
  | arr (b sz n : Nat)
  | grow (loc : Option (Nat × Nat)) (sz n : Nat)
  | mp (b : Nat)
  | iter (b : Nat)

def KI.blk : KI → Option Nat
  | .var b => some b
  | .arr b _ _ => some b
  | .grow l _ _ => l.map (·.1)
  | .mp b => some b
  | .iter b => some b

abbrev Stb := Nat → Nat → Prop
abbrev KM := Nat → Option KI

def ad (b off : Nat) : Addr := ⟨b, off, none⟩

/-- The entries of a map of the model, as the abstract ones. -/
structure EntsOk (es : List (AV × AV)) (ents : Array MapEntry) (clock : Nat) : Prop where
  size : ents.size = es.length
  born : ∀ (i : Nat) (e : MapEntry), ents[i]? = some e → e.born < clock
  inj : ∀ (i j : Nat) (e e' : MapEntry), ents[i]? = some e → ents[j]? = some e' → e.born = e'.born → i = j

/-- A pure value of the abstract side is the model's, read through stable cells. -/
inductive PR (S : Stb) (w : World) : AV → Value → Prop
  | bool (b : Bool) : PR S w (.bool b) (.bool b)
  | int (k : IntKind) (n : Int) : PR S w (.int k n) (.int k n)
  | str (s : List UInt8) : PR S w (.str s) (.string ⟨s.toArray⟩)
  | slNil (sz : Nat) : PR S w (.sl sz true none []) (.slice none 0 0)
  | slEmpty (sz : Nat) (a : Addr) (cap : Nat) : PR S w (.sl sz false none []) (.slice (some a) 0 cap)
  | sl (sz b off cap : Nat) (xs : List (List AV)) (f : Nat → Nat → Value) (hcap : xs.length ≤ cap)
      (hsz : ∀ (i : Nat) (x : List AV), xs[i]? = some x → x.length = sz)
      (hc : ∀ (i : Nat) (x : List AV) (j : Nat) (y : AV), xs[i]? = some x → x[j]? = some y → S b (off + (i * sz + j)) ∧ w.cell? (ad b (off + (i * sz + j))) = some (f i j))
      (hv : ∀ (i : Nat) (x : List AV) (j : Nat) (y : AV), xs[i]? = some x → x[j]? = some y → PR S w y (f i j)) :
      PR S w (.sl sz false none xs) (.slice (some (ad b off)) xs.length cap)
  | mpNil : PR S w (.mp true []) (.map none)
  | mp (b : Nat) (es : List (AV × AV)) (ents : Array MapEntry) (clock : Nat) (hb : ∀ off, S b off) (hh : w.heap[b]? = some (.map ents clock)) (ho : EntsOk es ents clock)
      (hk : ∀ (i : Nat) (p : AV × AV) (e : MapEntry), es[i]? = some p → ents[i]? = some e → PR S w p.1 e.key) (hv : ∀ (i : Nat) (p : AV × AV) (e : MapEntry), es[i]? = some p → ents[i]? = some e → PR S w p.2 e.val) :
      PR S w (.mp false es) (.map (some b))
  | rptr (b off : Nat) (cells : List AV) (f : Nat → Value)
      (hc : ∀ (j : Nat) (y : AV), cells[j]? = some y → S b (off + j) ∧ w.cell? (ad b (off + j)) = some (f j))
      (hv : ∀ (j : Nat) (y : AV), cells[j]? = some y → PR S w y (f j)) :
      PR S w (.rptr cells) (.pointer (some (ad b off)))
  | iface (t : TypeId) (v : Value) : PR S w .iface (.iface t v)
  | nilIface : PR S w .nilIface .nilIface
  | nilFunc : PR S w .nilFunc .nilFunc
  | nils : PR S w .nils (.slice none 0 0)

/-- Nothing that a pure reading sees has turned. -/
structure Kept (S : Stb) (w : World) (S' : Stb) (w' : World) : Prop where
  sub : ∀ b off, S b off → S' b off
  cell : ∀ b off, S b off → w'.cell? (ad b off) = w.cell? (ad b off)
  whole : ∀ b, (∀ off, S b off) → w'.heap[b]? = w.heap[b]?

theorem Kept.refl (S : Stb) (w : World) : Kept S w S w := ⟨fun _ _ h => h, fun _ _ _ => rfl, fun _ _ => rfl⟩

theorem Kept.trans {S S' S'' : Stb} {w w' w'' : World} (h : Kept S w S' w') (k : Kept S' w' S'' w'') : Kept S w S'' w'' :=
  ⟨fun b off s => k.sub b off (h.sub b off s), fun b off s => (k.cell b off (h.sub b off s)).trans (h.cell b off s),
   fun b s => (k.whole b fun off => h.sub b off (s off)).trans (h.whole b s)⟩

theorem PR.mono {S S' : Stb} {w w' : World} (h : Kept S w S' w') {y : AV} {u : Value} (p : PR S w y u) : PR S' w' y u := by
  induction p with
  | bool b => exact .bool b
  | int k n => exact .int k n
  | str s => exact .str s
  | slNil sz => exact .slNil sz
  | slEmpty sz a cap => exact .slEmpty sz a cap
  | sl sz b off cap xs f hcap hsz hc _ ih =>
    exact .sl sz b off cap xs f hcap hsz (fun i x j y hx hy => ⟨h.sub _ _ (hc i x j y hx hy).1, (h.cell _ _ (hc i x j y hx hy).1).trans (hc i x j y hx hy).2⟩) ih
  | mpNil => exact .mpNil
  | mp b es ents clock hb hh ho _ _ ihk ihv => exact .mp b es ents clock (fun off => h.sub _ _ (hb off)) ((h.whole b hb).trans hh) ho ihk ihv
  | rptr b off cells f hc _ ih => exact .rptr b off cells f (fun j y hy => ⟨h.sub _ _ (hc j y hy).1, (h.cell _ _ (hc j y hy).1).trans (hc j y hy).2⟩) ih
  | iface t v => exact .iface t v
  | nilIface => exact .nilIface
  | nilFunc => exact .nilFunc
  | nils => exact .nils

def locMatch : Option (Nat × Nat) → Value → Prop
  | none, .slice none 0 0 => True
  | some (b, cap), .slice (some a) _ cap' => a = ad b 0 ∧ cap' = cap
  | _, _ => False

/-- A value that may be captured: a reference, or a pure one. -/
def VR0 (K : KM) (S : Stb) (w : World) : AV → Value → Prop
  | .dead, _ => True
  | .ref id off, u => ∃ b, K id = some (.var b) ∧ u = .pointer (some (ad b off))
  | .eref sz id i off, u => ∃ b n, K id = some (.arr b sz n) ∧ i < n ∧ u = .pointer (some (ad b (i * sz + off)))
  | .rsl sz id off len, u => ∃ b n cap, K id = some (.arr b sz n) ∧ off + len ≤ n ∧ len ≤ cap ∧ u = .slice (some (ad b (off * sz))) len cap
  | .rmp id, u => ∃ b, K id = some (.mp b) ∧ u = .map (some b)
  | .iter id, u => ∃ b, K id = some (.iter b) ∧ u = .pointer (some (ad b 0))
  | .sl sz nil (some τ) xs, u => PR S w (.sl sz nil none xs) u ∧ ∃ loc n, K τ = some (.grow loc sz n) ∧ xs.length ≤ n ∧ (xs.length = n → locMatch loc u)
  | .func _ _, _ => False
  | .agg _, _ => False
  | .tup _, _ => False
  | y, u => PR S w y u

/-- A value of one cell. -/
def VRc (K : KM) (S : Stb) (w : World) : AV → Value → Prop
  | .func f cap, u => ∃ cs : List Value, u = .func (.func f) #[] cs.toArray ∧ cs.length = cap.length ∧ ∀ (j : Nat) (y : AV) (c : Value), cap[j]? = some y → cs[j]? = some c → VR0 K S w y c
  | y, u => VR0 K S w y u

/-- A value of one cell, or a struct. -/
def VRa (K : KM) (S : Stb) (w : World) : AV → Value → Prop
  | .agg ys, u => ∃ vs : Array Value, u = .agg vs ∧ vs.size = ys.length ∧ ∀ (j : Nat) (y : AV) (v : Value), ys[j]? = some y → vs[j]? = some v → VRc K S w y v
  | y, u => VRc K S w y u

/-- Any value. -/
def VR (K : KM) (S : Stb) (w : World) : AV → Value → Prop
  | .tup ys, u => ∃ vs : Array Value, u = .tuple vs ∧ vs.size = ys.length ∧ ∀ (j : Nat) (y : AV) (v : Value), ys[j]? = some y → vs[j]? = some v → VRa K S w y v
  | y, u => VRa K S w y u

def kle : KI → KI → Prop
  | .var b, .var b' => b = b'
  | .arr b sz n, .arr b' sz' n' => b = b' ∧ sz = sz' ∧ n = n'
  | .mp b, .mp b' => b = b'
  | .iter b, .iter b' => b = b'
  | .grow l sz n, .grow l' sz' n' => sz = sz' ∧ ((n = n' ∧ l = l') ∨ n < n')
  | _, _ => False

theorem kle.refl (k : KI) : kle k k := by cases k <;> simp [kle]

theorem kle.trans {a b c : KI} (h : kle a b) (k : kle b c) : kle a c := by
  cases a <;> cases b <;> simp [kle] at h <;> cases c <;> simp [kle] at k ⊢
  · exact h.trans k
  · exact ⟨h.1.trans k.1, h.2.1.trans k.2.1, h.2.2.trans k.2.2⟩
  · refine ⟨h.1.trans k.1, ?_⟩
    rcases h.2 with ⟨h1, h2⟩ | h1
    · rcases k.2 with ⟨k1, k2⟩ | k1
      · exact .inl ⟨h1.trans k1, h2.trans k2⟩
      · exact .inr (by omega)
    · rcases k.2 with ⟨k1, k2⟩ | k1
      · exact .inr (by omega)
      · exact .inr (by omega)
  · exact h.trans k
  · exact h.trans k

def KLe (K K' : KM) : Prop := ∀ id ki, K id = some ki → ∃ ki', K' id = some ki' ∧ kle ki ki'

theorem KLe.refl (K : KM) : KLe K K := fun _ ki h => ⟨ki, h, kle.refl ki⟩
theorem KLe.trans {K K' K'' : KM} (h : KLe K K') (k : KLe K' K'') : KLe K K'' := fun id ki hk =>
  let ⟨k1, h1, l1⟩ := h id ki hk; let ⟨k2, h2, l2⟩ := k id k1 h1; ⟨k2, h2, l1.trans l2⟩

section
variable {K K' : KM} {S S' : Stb} {w w' : World}

theorem VR0.mono (hk : KLe K K') (h : Kept S w S' w') {y : AV} {u : Value} (p : VR0 K S w y u) : VR0 K' S' w' y u := by
  cases y <;> simp only [VR0] at p ⊢ <;> try exact p.mono h
  case sl sz nil tok xs =>
    cases tok with
    | none => exact PR.mono h p
    | some τ =>
      obtain ⟨p, loc, n, hK, hn, hl⟩ := p
      refine ⟨PR.mono h p, ?_⟩
      obtain ⟨ki', h1, h2⟩ := hk τ _ hK
      cases ki' <;> simp [kle] at h2
      rename_i l' sz' n'
      obtain ⟨rfl, ⟨rfl, rfl⟩ | hlt⟩ := h2
      · exact ⟨_, _, h1, hn, hl⟩
      · exact ⟨_, _, h1, by omega, fun e => by omega⟩
  case rsl sz id off len =>
    obtain ⟨b, n, cap, hK, h1, h2, rfl⟩ := p
    obtain ⟨ki', k1, k2⟩ := hk id _ hK
    cases ki' <;> simp [kle] at k2
    obtain ⟨rfl, rfl, rfl⟩ := k2
    exact ⟨_, _, _, k1, h1, h2, rfl⟩
  case rmp id =>
    obtain ⟨b, hK, rfl⟩ := p
    obtain ⟨ki', k1, k2⟩ := hk id _ hK
    cases ki' <;> simp [kle] at k2
    subst k2; exact ⟨_, k1, rfl⟩
  case ref id off =>
    obtain ⟨b, hK, rfl⟩ := p
    obtain ⟨ki', k1, k2⟩ := hk id _ hK
    cases ki' <;> simp [kle] at k2
    subst k2; exact ⟨_, k1, rfl⟩
  case eref sz id i off =>
    obtain ⟨b, n, hK, h1, rfl⟩ := p
    obtain ⟨ki', k1, k2⟩ := hk id _ hK
    cases ki' <;> simp [kle] at k2
    obtain ⟨rfl, rfl, rfl⟩ := k2
    exact ⟨_, _, k1, h1, rfl⟩
  case iter id =>
    obtain ⟨b, hK, rfl⟩ := p
    obtain ⟨ki', k1, k2⟩ := hk id _ hK
    cases ki' <;> simp [kle] at k2
    subst k2; exact ⟨_, k1, rfl⟩

theorem VRc.mono (hk : KLe K K') (h : Kept S w S' w') {y : AV} {u : Value} (p : VRc K S w y u) : VRc K' S' w' y u := by
  cases y
  case func f cap =>
    obtain ⟨cs, h1, h2, h3⟩ := p
    exact ⟨cs, h1, h2, fun j y c hy hc => (h3 j y c hy hc).mono hk h⟩
  all_goals (simp only [VRc] at p ⊢; exact VR0.mono hk h p)

theorem VRa.mono (hk : KLe K K') (h : Kept S w S' w') {y : AV} {u : Value} (p : VRa K S w y u) : VRa K' S' w' y u := by
  cases y
  case agg ys =>
    obtain ⟨cs, h1, h2, h3⟩ := p
    exact ⟨cs, h1, h2, fun j y c hy hc => (h3 j y c hy hc).mono hk h⟩
  all_goals (simp only [VRa] at p ⊢; exact VRc.mono hk h p)

theorem VR.mono (hk : KLe K K') (h : Kept S w S' w') {y : AV} {u : Value} (p : VR K S w y u) : VR K' S' w' y u := by
  cases y
  case tup ys =>
    obtain ⟨cs, h1, h2, h3⟩ := p
    exact ⟨cs, h1, h2, fun j y c hy hc => (h3 j y c hy hc).mono hk h⟩
  all_goals (simp only [VR] at p ⊢; exact VRa.mono hk h p)
end

/-- What a walk over a map has before it. -/
def IterOk (S : Stb) (w : World) (es : List (AV × AV)) (cur : Option (AV × AV)) (m : Option Nat) (since : Nat) (seen : Array Nat) (stepped : Nat) : Prop :=
  match m with
  | none => es = [] ∧ cur = none
  | some mb => ∃ ents clock, (∀ off, S mb off) ∧ w.heap[mb]? = some (.map ents clock) ∧ since = clock ∧ stepped = clock ∧
      (∀ (i : Nat) (e : MapEntry), ents[i]? = some e → e.born < clock) ∧ (∀ (i j : Nat) (e e' : MapEntry), ents[i]? = some e → ents[j]? = some e' → e.born = e'.born → i = j) ∧
      (ents.toList.filter fun e => !seen.contains e.born).length = es.length ∧
      (∀ (i : Nat) (p : AV × AV) (e : MapEntry), es[i]? = some p → (ents.toList.filter fun e => !seen.contains e.born)[i]? = some e → PR S w p.1 e.key) ∧
      (∀ (i : Nat) (p : AV × AV) (e : MapEntry), es[i]? = some p → (ents.toList.filter fun e => !seen.contains e.born)[i]? = some e → PR S w p.2 e.val) ∧
      (∀ p, cur = some p → ∃ e ∈ ents.toList, seen.back? = some e.born ∧ PR S w p.1 e.key ∧ PR S w p.2 e.val)

theorem IterOk.mono {S S' : Stb} {w w' : World} (h : Kept S w S' w') {es : List (AV × AV)} {cur : Option (AV × AV)} {m : Option Nat} {since : Nat} {seen : Array Nat} {stepped : Nat}
    (p : IterOk S w es cur m since seen stepped) : IterOk S' w' es cur m since seen stepped := by
  cases m with
  | none => exact p
  | some mb =>
    obtain ⟨ents, clock, h1, h2, h3, h4, h5, h6, h7, h8, h9, h10⟩ := p
    refine ⟨ents, clock, fun off => h.sub _ _ (h1 off), (h.whole mb h1).trans h2, h3, h4, h5, h6, h7, fun i p e a b => (h8 i p e a b).mono h, fun i p e a b => (h9 i p e a b).mono h, fun p hp => ?_⟩
    obtain ⟨e, e1, e2, e3, e4⟩ := h10 p hp
    exact ⟨e, e1, e2, e3.mono h, e4.mono h⟩

/-- The contents of a block. -/
def BR (K : KM) (S : Stb) (w : World) : Blk → KI → Prop
  | .var cs, .var b => ∃ arr e, w.heap[b]? = some (.cells arr e (0, 0)) ∧ arr.size = cs.length ∧ ∀ (j : Nat) (y : AV) (u : Value), cs[j]? = some y → arr[j]? = some u → VRc K S w y u
  | .arr sz xs, .arr b sz' n => sz = sz' ∧ n = xs.length ∧ (∀ (i : Nat) (x : List AV), xs[i]? = some x → x.length = sz) ∧ ∃ arr e, w.heap[b]? = some (.cells arr e (0, 0)) ∧ xs.length * sz ≤ arr.size ∧
      ∀ (i : Nat) (x : List AV) (j : Nat) (y : AV) (u : Value), xs[i]? = some x → x[j]? = some y → arr[i * sz + j]? = some u → PR S w y u
  | .grow sz n, .grow loc sz' n' => sz = sz' ∧ n = n' ∧ match loc with
      | none => n = 0
      | some (b, cap) => n ≤ cap ∧ ∃ arr e, w.heap[b]? = some (.cells arr e (0, 0)) ∧ arr.size = cap * sz
  | .mp es, .mp b => ∃ ents clock, w.heap[b]? = some (.map ents clock) ∧ EntsOk es ents clock ∧
      (∀ (i : Nat) (p : AV × AV) (e : MapEntry), es[i]? = some p → ents[i]? = some e → PR S w p.1 e.key) ∧ (∀ (i : Nat) (p : AV × AV) (e : MapEntry), es[i]? = some p → ents[i]? = some e → PR S w p.2 e.val)
  | .iter es cur, .iter b => ∃ m since seen stepped, w.heap[b]? = some (.mapIter m since seen stepped) ∧ IterOk S w es cur m since seen stepped
  | _, _ => False

/-- The abstract heap lies in the world. -/
structure HRel (nG : Nat) (G0 : Nat → Option Obj) (K : KM) (S : Stb) (hp : Nat → Option Blk) (w : World) : Prop where
  dom : ∀ id, (K id).isSome = (hp id).isSome
  blk : ∀ id bl ki, hp id = some bl → K id = some ki → BR K S w bl ki
  inj : ∀ id id' ki ki' b, K id = some ki → K id' = some ki' → ki.blk = some b → ki'.blk = some b → id = id'
  lt : ∀ b off, S b off → b < w.heap.size
  apart : ∀ b off id ki, S b off → K id = some ki → ki.blk = some b → ∃ l sz n, ki = .grow l sz n ∧ off < n * sz
  glob : ∀ id ki b, K id = some ki → ki.blk = some b → nG ≤ b
  fix : ∀ b, b < nG → w.heap[b]? = G0 b
  nG : nG ≤ w.heap.size

/-- From one world to a later one. -/
structure Ext (n0 : Nat) (K : KM) (S : Stb) (w : World) (K' : KM) (S' : Stb) (w' : World) : Prop where
  os : w'.os = w.os
  tape : w'.tape = w.tape
  output : w'.output = w.output
  size : w.heap.size ≤ w'.heap.size
  frame : ∀ b, b < w.heap.size → (∀ id ki, K id = some ki → ki.blk ≠ some b) → w'.heap[b]? = w.heap[b]?
  new : ∀ id ki b, K' id = some ki → ki.blk = some b → (∃ id0 ki0, K id0 = some ki0 ∧ ki0.blk = some b) ∨ w.heap.size ≤ b
  kept : Kept S w S' w'
  snew : ∀ b off, S' b off → S b off ∨ w.heap.size ≤ b ∨ ∃ id ki, K id = some ki ∧ ki.blk = some b
  base : ∀ id ki, id < n0 → K id = some ki → ∃ ki', K' id = some ki' ∧ kle ki ki'

theorem Ext.refl (n0 : Nat) (K : KM) (S : Stb) (w : World) : Ext n0 K S w K S w :=
  ⟨rfl, rfl, rfl, Nat.le_refl _, fun _ _ _ => rfl, fun id ki _ h hb => .inl ⟨id, ki, h, hb⟩, Kept.refl S w, fun _ _ h => .inl h, fun _ ki _ h => ⟨ki, h, kle.refl ki⟩⟩

theorem Ext.trans {n0 : Nat} {K K' K'' : KM} {S S' S'' : Stb} {w w' w'' : World} (h : Ext n0 K S w K' S' w') (k : Ext n0 K' S' w' K'' S'' w'') : Ext n0 K S w K'' S'' w'' where
  os := k.os.trans h.os
  tape := k.tape.trans h.tape
  output := k.output.trans h.output
  size := Nat.le_trans h.size k.size
  frame b hb hn := by
    refine (k.frame b (Nat.lt_of_lt_of_le hb h.size) fun id ki hi he => ?_).trans (h.frame b hb hn)
    rcases h.new id ki b hi he with ⟨id0, ki0, h1, h2⟩ | h1
    · exact hn id0 ki0 h1 h2
    · omega
  new id ki b hi hb := by
    rcases k.new id ki b hi hb with ⟨id0, ki0, h1, h2⟩ | h1
    · exact h.new id0 ki0 b h1 h2
    · exact .inr (Nat.le_trans h.size h1)
  kept := h.kept.trans k.kept
  snew b off hs := by
    rcases k.snew b off hs with h1 | h1 | ⟨id, ki, h1, h2⟩
    · exact h.snew b off h1
    · exact .inr (.inl (Nat.le_trans h.size h1))
    · rcases h.new id ki b h1 h2 with h3 | h3
      · exact .inr (.inr h3)
      · exact .inr (.inl h3)
  base id ki hid hk := by
    obtain ⟨k1, h1, h2⟩ := h.base id ki hid hk
    obtain ⟨k2, h4, h5⟩ := k.base id k1 hid h1
    exact ⟨k2, h4, h2.trans h5⟩

end Go.Ab

/- The types' table, the frame's relation, what it is that an operation is sound; no condition. -/
import Derived.Test.YtfobijiffcfnkaaDoorZAbs1
namespace Go.Ab

inductive CK where
  | bool | int (k : IntKind) | str | sl (sz : Nat) | mp | func | iface | ptr
  deriving Inhabited

inductive TK where
  | scalar (c : CK)
  | slice (elem : Nat)
  | arr (n elem : Nat)
  | struct (fs : List (Nat × Nat))
  | map (key elem : Nat)
  deriving Inhabited

def TK.isAgg : TK → Bool
  | .arr _ _ => true
  | .struct _ => true
  | _ => false

structure TI where
  kind : TK
  size : Nat
  bytes : Nat
  cells : List CK
  deriving Inhabited

abbrev Tab := Nat → Option TI

def zeroC : CK → Value
  | .bool => .bool false
  | .int k => .int k 0
  | .str => .string .empty
  | .sl _ => .slice none 0 0
  | .mp => .map none
  | .func => .nilFunc
  | .iface => .nilIface
  | .ptr => .pointer none

def zeroA : CK → AV
  | .bool => .bool false
  | .int k => .int k 0
  | .str => .str []
  | .sl sz => .sl sz true none []
  | .mp => .mp true []
  | .func => .nilFunc
  | .iface => .nilIface
  | .ptr => .dead

def TI.zeroV (ti : TI) : Value := if ti.kind.isAgg then .agg (ti.cells.map zeroC).toArray else zeroC (ti.cells.headD .bool)

def scalarDesc : CK → TypeDesc → Prop
  | .bool, .bool => True
  | .int k, .int k' => k = k'
  | .str, .string => True
  | .func, .func _ _ _ => True
  | .iface, .interface _ => True
  | .ptr, .pointer _ => True
  | _, _ => False

def kindOk (P : Program) (t : TypeId) : TK → Prop
  | .scalar c => ∃ d, P.underlying t = some d ∧ scalarDesc c d
  | .slice e => P.underlying t = some (.slice e)
  | .arr n e => P.underlying t = some (.array n e)
  | .struct fs => ∃ fields : Array Field, P.underlying t = some (.struct fields) ∧ fields.toList.map (fun f => (f.offset, f.type)) = fs ∧ (∀ f ∈ fields, f.name ≠ "_") ∧ P.stoodInHeld t = false
  | .map k e => P.underlying t = some (.map k e)

structure TIok (P : Program) (t : TypeId) (ti : TI) : Prop where
  info : ∃ i, P.info? t = some i ∧ i.size = ti.size ∧ i.bytes = ti.bytes ∧ i.zero = some ti.zeroV
  kind : kindOk P t ti.kind
  len : ti.cells.length = ti.size
  one : ti.kind.isAgg = false → ti.size = 1

def TabOk (P : Program) (tab : Tab) : Prop := ∀ t ti, tab t = some ti → TIok P t ti

section
variable {P : Program} {t : TypeId} {ti : TI}

theorem TIok.run_info (h : TIok P t ti) (w : World) : ∃ i, (typeInfo t).run P w = .ok i w ∧ i.size = ti.size ∧ i.bytes = ti.bytes ∧ i.zero = some ti.zeroV := by
  obtain ⟨i, h1, h2⟩ := h.info
  exact ⟨i, by simp [typeInfo, h1], h2⟩

theorem TIok.run_size (h : TIok P t ti) (w : World) : (sizeOf t).run P w = .ok ti.size w := by
  obtain ⟨i, h1, h2, _⟩ := h.run_info w
  simp [sizeOf, h1, h2]

theorem TIok.run_zero (h : TIok P t ti) (w : World) : (zeroValue t).run P w = .ok ti.zeroV w := by
  obtain ⟨i, h1, _, _, h2⟩ := h.run_info w
  simp [zeroValue, h1, h2]

theorem run_under {d : TypeDesc} (h : P.underlying t = some d) (w : World) : (underlying t).run P w = .ok d w := by
  simp [underlying, h]

theorem TIok.run_isAgg (h : TIok P t ti) (w : World) : (isAgg t).run P w = .ok ti.kind.isAgg w := by
  have hk := h.kind
  cases hc : ti.kind with
  | scalar c =>
    rw [hc] at hk
    obtain ⟨d, hd, hs⟩ := hk
    cases c <;> cases d <;> simp [scalarDesc] at hs <;> simp [isAgg, run_under hd, TK.isAgg]
  | slice e => rw [hc] at hk; simp [isAgg, run_under hk, TK.isAgg]
  | arr n e => rw [hc] at hk; simp [isAgg, run_under hk, TK.isAgg]
  | struct fs => rw [hc] at hk; obtain ⟨fields, hd, _⟩ := hk; simp [isAgg, run_under hd, TK.isAgg]
  | map k e => rw [hc] at hk; simp [isAgg, run_under hk, TK.isAgg]
end

/-- The frame and the heap. -/
def upd (n : Nat) (tm : Nat → AV) (d : Option Nat) (v : AV) : Nat → AV :=
  match d with
  | some d => fun t => if t = d ∧ d < n then v else tm t
  | none => tm

def updH (hp : Nat → Option Blk) : List (Nat × Blk) → Nat → Option Blk
  | [] => hp
  | (id, b) :: r => updH (fun i => if i = id then some b else hp i) r

structure RelF (nG : Nat) (G0 : Nat → Option Obj) (n : Nat) (K : KM) (S : Stb) (tm : Nat → AV) (hp : Nat → Option Blk) (a : Act) (w : World) : Prop where
  defers : a.defers = []
  size : a.tmps.size = n
  tmp : ∀ t, VR K S w (tm t) (a.tmps.getD t undef)
  heap : HRel nG G0 K S hp w

def constA : Value → AV
  | .bool b => .bool b
  | .int k n => .int k n
  | .string s => .str s.data.toList
  | .slice none 0 0 => .nils
  | .map none => .mp true []
  | .nilIface => .nilIface
  | .nilFunc => .nilFunc
  | _ => .dead

def evA (tm : Nat → AV) : Operand → AV
  | .tmp t => tm t
  | .const v => constA v
  | .global _ => .dead
  | .func f => .func f []

theorem VR_dead (K : KM) (S : Stb) (w : World) (u : Value) : VR K S w .dead u := by simp [VR, VRa, VRc, VR0]

theorem VR_constA (K : KM) (S : Stb) (w : World) (v : Value) : VR K S w (constA v) v := by
  unfold constA
  split <;> try exact VR_dead _ _ _ _
  · exact .bool _
  · exact .int _ _
  · rename_i s
    have := PR.str (S := S) (w := w) s.data.toList
    simpa [VR, VRa, VRc, VR0] using this
  · exact .nils
  · exact .mpNil
  · exact .nilIface
  · exact .nilFunc

theorem RelF.ev {nG : Nat} {G0 : Nat → Option Obj} {n : Nat} {K : KM} {S : Stb} {tm : Nat → AV} {hp : Nat → Option Blk} {a : Act} {w : World} (h : RelF nG G0 n K S tm hp a w) (x : Operand) :
    VR K S w (evA tm x) (a.eval x) := by
  cases x with
  | tmp t => exact h.tmp t
  | const v => exact VR_constA _ _ _ v
  | global g => exact VR_dead _ _ _ _
  | func f => exact ⟨[], rfl, rfl, fun j y c hy _ => by simp at hy⟩

/-- That an operation, wherever its operands and the blocks 'rd' are as told, gives v and writes ws. -/
def OpSnd (P : Program) (nG : Nat) (G0 : Nat → Option Obj) (n0 : Nat) (o : Oper) (v : AV) (ws : List (Nat × Blk)) (rd : List Nat) (tm0 : Nat → AV) (hp0 : Nat → Option Blk) : Prop :=
  ∀ n K S tm hp a w, RelF nG G0 n K S tm hp a w → (∀ x ∈ o.op.operands, evA tm x = evA tm0 x) → (∀ id ∈ rd, hp id = hp0 id) → (∀ p ∈ ws, p.1 ∈ rd ∨ (hp p.1 = none ∧ n0 ≤ p.1)) →
    ∀ (next : Act → World → Prop) (QC : Exit → Act → World → Prop),
      (∀ u w' K' S', VR K' S' w' v u → HRel nG G0 K' S' (updH hp ws) w' → Ext n0 K S w K' S' w' → KLe K K' → next (a.put o.dst u) w') →
      o.wp P a w next QC

section
variable {P : Program} {nG : Nat} {G0 : Nat → Option Obj} {n0 : Nat} {o : Oper} {v : AV} {rd : List Nat} {tm0 : Nat → AV} {hp0 : Nat → Option Blk}

/-- An operation that only looks. -/
theorem OpSnd.look (h : ∀ n K S tm hp a w, RelF nG G0 n K S tm hp a w → (∀ x ∈ o.op.operands, VR K S w (evA tm0 x) (a.eval x)) → (∀ id ∈ rd, hp id = hp0 id) →
    ∃ u, (execOp a.eval o).run P w = .ok (.value u) w ∧ VR K S w v u) : OpSnd P nG G0 n0 o v [] rd tm0 hp0 := by
  intro n K S tm hp a w hr hx hh _ next QC hn
  obtain ⟨u, hu, hv⟩ := h n K S tm hp a w hr (fun x hm => hx x hm ▸ hr.ev x) hh
  unfold Oper.wp
  rw [hu, Oper.upon_value]
  exact hn u w K S hv hr.heap (Ext.refl _ _ _ _) (KLe.refl _)

/-- A new block. -/
def updK (K : KM) (id : Nat) (ki : KI) : KM := fun i => if i = id then some ki else K i

theorem KLe.new {K : KM} {id : Nat} {ki : KI} (h : K id = none) : KLe K (updK K id ki) := by
  intro i k hk
  refine ⟨k, ?_, kle.refl k⟩
  unfold updK
  rw [if_neg]
  · exact hk
  · rintro rfl; rw [h] at hk; cases hk
end

/-- A world with one object more. -/
theorem heap_alloc_lt (w : World) (ob : Obj) (b : Nat) (h : b < w.heap.size) : (w.alloc ob).heap[b]? = w.heap[b]? := by
  show (w.heap.push ob)[b]? = _
  rw [Array.getElem?_push, if_neg (by omega)]

theorem heap_alloc_eq (w : World) (ob : Obj) : (w.alloc ob).heap[w.heap.size]? = some ob := by
  show (w.heap.push ob)[w.heap.size]? = _
  rw [Array.getElem?_push, if_pos rfl]

theorem cell_of_heap {w w' : World} {b off : Nat} (h : w'.heap[b]? = w.heap[b]?) : w'.cell? (ad b off) = w.cell? (ad b off) := by
  simp [World.cell?, ad, h]

theorem HRel.dom_none {nG : Nat} {G0 : Nat → Option Obj} {K : KM} {S : Stb} {hp : Nat → Option Blk} {w : World} (h : HRel nG G0 K S hp w) {id : Nat} (hn : hp id = none) : K id = none := by
  have := h.dom id
  rw [hn] at this
  cases hk : K id <;> simp_all

/-- Which blocks of the heap a K names lie below its size. -/
theorem BR.lt {K : KM} {S : Stb} {w : World} {bl : Blk} {ki : KI} (h : BR K S w bl ki) {b : Nat} (hb : ki.blk = some b) : b < w.heap.size := by
  have key : ∀ {o : Obj}, w.heap[b]? = some o → b < w.heap.size := fun h => (Array.getElem?_eq_some_iff.1 h).1
  cases bl <;> cases ki <;> simp only [BR] at h <;> simp only [KI.blk, Option.some.injEq, Option.map_eq_some_iff] at hb
  · subst hb; obtain ⟨arr, e, h1, _⟩ := h; exact key h1
  · subst hb; obtain ⟨_, _, _, arr, e, h1, _⟩ := h; exact key h1
  · obtain ⟨⟨b', cap⟩, rfl, rfl⟩ := hb
    obtain ⟨_, _, _, arr, e, h1, _⟩ := h; exact key h1
  · subst hb; obtain ⟨ents, clock, h1, _⟩ := h; exact key h1
  · subst hb; obtain ⟨m, since, seen, stepped, h1, _⟩ := h; exact key h1

end Go.Ab

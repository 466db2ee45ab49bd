/- What a function's contract is, and how a call keeps it; no condition. -/
import Derived.Test.YtfobijiffcfnkaaDoorZAbs9
namespace Go.Ab

/-- Renaming of the blocks that a value names. -/
def renR (ρ : Nat → Option Nat) : AV → AV
  | .ref id off => match ρ id with | some i => .ref i off | none => .dead
  | .eref sz id j off => match ρ id with | some i => .eref sz i j off | none => .dead
  | .rsl sz id off len => match ρ id with | some i => .rsl sz i off len | none => .dead
  | .rmp id => match ρ id with | some i => .rmp i | none => .dead
  | .iter id => match ρ id with | some i => .iter i | none => .dead
  | .sl sz nil tok xs => match tok with | some τ => .sl sz nil (ρ τ) xs | none => .sl sz nil none xs
  | .func _ _ => .dead
  | .agg _ => .dead
  | .tup _ => .dead
  | v => v

def renC (ρ : Nat → Option Nat) : AV → AV
  | .func f cap => .func f (cap.map (renR ρ))
  | v => renR ρ v

def renA (ρ : Nat → Option Nat) : AV → AV
  | .agg cs => .agg (cs.map (renC ρ))
  | v => renC ρ v

def renV (ρ : Nat → Option Nat) : AV → AV
  | .tup vs => .tup (vs.map (renA ρ))
  | v => renA ρ v

def renB (ρ : Nat → Option Nat) : Blk → Blk
  | .var cs => .var (cs.map (renC ρ))
  | b => b

section
variable {K K2 : KM} {S S2 : Stb} {w w2 : World} {ρ : Nat → Option Nat}

theorem VR0.ren (hρ : ∀ id i ki, ρ id = some i → K id = some ki → K2 i = some ki) (h : Kept S w S2 w2) {y : AV} {u : Value} (p : VR0 K S w y u) : VR0 K2 S2 w2 (renR ρ y) u := by
  cases y <;> simp only [VR0] at p <;> simp only [renR] <;> try (simp only [VR0]; exact p.mono h)
  case sl sz nil tok xs =>
    cases tok with
    | none => simp only [VR0] at p ⊢; exact p.mono h
    | some τ =>
      simp only
      obtain ⟨p, loc, n, hK, hn, hl⟩ := p
      cases hr : ρ τ with
      | none => simp only [VR0]; exact p.mono h
      | some i => simp only [VR0]; exact ⟨p.mono h, loc, n, hρ τ i _ hr hK, hn, hl⟩
  case ref id off =>
    obtain ⟨b, hK, hu⟩ := p
    cases hr : ρ id with
    | none => simp only [VR0]
    | some i => simp only [VR0]; exact ⟨b, hρ id i _ hr hK, hu⟩
  case eref sz id j off =>
    obtain ⟨b, n, hK, h1, hu⟩ := p
    cases hr : ρ id with
    | none => simp only [VR0]
    | some i => simp only [VR0]; exact ⟨b, n, hρ id i _ hr hK, h1, hu⟩
  case rsl sz id off len =>
    obtain ⟨b, n, cap, hK, h1, h2, hu⟩ := p
    cases hr : ρ id with
    | none => simp only [VR0]
    | some i => simp only [VR0]; exact ⟨b, n, cap, hρ id i _ hr hK, h1, h2, hu⟩
  case rmp id =>
    obtain ⟨b, hK, hu⟩ := p
    cases hr : ρ id with
    | none => simp only [VR0]
    | some i => simp only [VR0]; exact ⟨b, hρ id i _ hr hK, hu⟩
  case iter id =>
    obtain ⟨b, hK, hu⟩ := p
    cases hr : ρ id with
    | none => simp only [VR0]
    | some i => simp only [VR0]; exact ⟨b, hρ id i _ hr hK, hu⟩
  case dead => simp only [VR0]

theorem VRc.ren (hρ : ∀ id i ki, ρ id = some i → K id = some ki → K2 i = some ki) (h : Kept S w S2 w2) {y : AV} {u : Value} (p : VRc K S w y u) : VRc K2 S2 w2 (renC ρ y) u := by
  cases y
  case func f cap =>
    obtain ⟨cs, h1, h2, h3⟩ := p
    simp only [renC, VRc]
    refine ⟨cs, h1, by simpa using h2, fun j y c hy hc => ?_⟩
    rw [List.getElem?_map] at hy
    cases hq : cap[j]? with
    | none => rw [hq] at hy; cases hy
    | some q => rw [hq] at hy; cases hy; exact (h3 j q c hq hc).ren hρ h
  all_goals
    simp only [VRc] at p
    have q := VR0.ren hρ h p
    simp only [renC]
    revert q
    simp only [renR]
    (repeat' split) <;> (intro q; simpa only [VRc] using q)

theorem VRc.vra {y : AV} {u : Value} (h : VRc K S w y u) : VRa K S w y u := by
  cases y
  case agg => simp only [VRc, VR0] at h
  all_goals simpa only [VRa] using h

theorem VRc.vr {y : AV} {u : Value} (h : VRc K S w y u) : VR K S w y u := by
  cases y
  case agg => simp only [VRc, VR0] at h
  case tup => simp only [VRc, VR0] at h
  all_goals simpa only [VR, VRa] using h

theorem VRa.vr {y : AV} {u : Value} (h : VRa K S w y u) : VR K S w y u := by
  cases y
  case tup => simp only [VRa, VRc, VR0] at h
  all_goals simpa only [VR] using h

theorem VRa.ren (hρ : ∀ id i ki, ρ id = some i → K id = some ki → K2 i = some ki) (h : Kept S w S2 w2) {y : AV} {u : Value} (p : VRa K S w y u) : VRa K2 S2 w2 (renA ρ y) u := by
  cases y
  case agg ys =>
    obtain ⟨vs, h1, h2, h3⟩ := p
    simp only [renA, VRa]
    refine ⟨vs, h1, by simpa using h2, fun j y c hy hc => ?_⟩
    rw [List.getElem?_map] at hy
    cases hq : ys[j]? with
    | none => rw [hq] at hy; cases hy
    | some q => rw [hq] at hy; cases hy; exact (h3 j q c hq hc).ren hρ h
  case tup zs => simp only [VRa, VRc, VR0] at p
  all_goals
    simp only [VRa] at p
    have q := VRc.ren hρ h p
    simpa only [renA] using q.vra

theorem VR.ren (hρ : ∀ id i ki, ρ id = some i → K id = some ki → K2 i = some ki) (h : Kept S w S2 w2) {y : AV} {u : Value} (p : VR K S w y u) : VR K2 S2 w2 (renV ρ y) u := by
  cases y
  case tup ys =>
    obtain ⟨vs, h1, h2, h3⟩ := p
    simp only [renV, VR]
    refine ⟨vs, h1, by simpa using h2, fun j y c hy hc => ?_⟩
    rw [List.getElem?_map] at hy
    cases hq : ys[j]? with
    | none => rw [hq] at hy; cases hy
    | some q => rw [hq] at hy; cases hy; exact (h3 j q c hq hc).ren hρ h
  all_goals
    simp only [VR] at p
    have q := VRa.ren hρ h p
    simpa only [renV] using q.vr

theorem BR.ren (hρ : ∀ id i ki, ρ id = some i → K id = some ki → K2 i = some ki) (h : Kept S w S2 w2) {bl : Blk} {ki : KI} (hb : ∀ b, ki.blk = some b → w2.heap[b]? = w.heap[b]?) (p : BR K S w bl ki) : BR K2 S2 w2 (renB ρ bl) ki := by
  cases bl <;> cases ki <;> simp only [BR, renB] at p ⊢
  case var.var cs b =>
    obtain ⟨arr, e, h1, h2, h3⟩ := p
    refine ⟨arr, e, (hb b rfl).trans h1, by simpa using h2, fun j y u hy hu => ?_⟩
    rw [List.getElem?_map] at hy
    cases hq : cs[j]? with
    | none => rw [hq] at hy; cases hy
    | some q => rw [hq] at hy; cases hy; exact (h3 j q u hq hu).ren hρ h
  case arr.arr sz xs b sz' n =>
    obtain ⟨h1, h2, h3, arr, e, h4, h5, h6⟩ := p
    exact ⟨h1, h2, h3, arr, e, (hb b rfl).trans h4, h5, fun i x j y u hx hy hu => (h6 i x j y u hx hy hu).mono h⟩
  case grow.grow sz n loc sz' n' =>
    obtain ⟨h1, h2, h3⟩ := p
    refine ⟨h1, h2, ?_⟩
    cases loc with
    | none => exact h3
    | some l =>
      obtain ⟨h4, arr, e, h5, h6⟩ := h3
      exact ⟨h4, arr, e, (hb l.1 rfl).trans h5, h6⟩
  case mp.mp es b =>
    obtain ⟨ents, clock, h1, h2, h3, h4⟩ := p
    exact ⟨ents, clock, (hb b rfl).trans h1, h2, fun i p e hp he => (h3 i p e hp he).mono h, fun i p e hp he => (h4 i p e hp he).mono h⟩
  case iter.iter es cur b =>
    obtain ⟨m, since, seen, stepped, h1, h2⟩ := p
    exact ⟨m, since, seen, stepped, (hb b rfl).trans h1, h2.mono h⟩
end

def hpF (hp : List (Option Blk)) (id : Nat) : Option Blk := hp.getD id none
def tmF (tm : List AV) (t : Nat) : AV := tm.getD t .dead

/-- Argument for argument. -/
def VRs (K : KM) (S : Stb) (w : World) (ys : List AV) (us : List Value) : Prop :=
  us.length = ys.length ∧ ∀ (j : Nat) (y : AV) (u : Value), ys[j]? = some y → us[j]? = some u → VR K S w y u

/-- THE CONTRACT: f, called with args over the heap H, returns r and leaves H'. -/
structure Good (P : Program) (nG : Nat) (G0 : Nat → Option Obj) (f : FuncId) (args : List AV) (H : List (Option Blk)) (r : AV) (H' : List (Option Blk)) : Prop where
  body : ∃ fn, P.funcs[f]? = some fn ∧ fn.body.isSome = true ∧ (fn.name == "runtime.NumGoroutine") = false
  calls : ∀ (w : World) (K : KM) (S : Stb) (us : List Value), HRel nG G0 K S (hpF H) w → VRs K S w args us →
    Calls P f us.toArray w fun e w' => ∃ v K' S', e = .returned v ∧ HRel nG G0 K' S' (hpF H') w' ∧ VR K' S' w' r v ∧ Ext H.length K S w K' S' w'

/-- A call of a named function. -/
theorem exec_call {P : Program} {o : Oper} {ρ : Operand → Value} {g : Operand} {args : Array Operand} {ts : Array TypeId} {f : FuncId} {cap : Array Value} (ho : o.op = .call { callee := .value g, args := args, argTypes := ts })
    (hg : ρ g = .func (.func f) #[] cap) {fn : Func} (hf : P.funcs[f]? = some fn) (hb : fn.body.isSome = true) (hn : (fn.name == "runtime.NumGoroutine") = false) (w : World) :
    (execOp ρ o).run P w = .ok (.enter f (args.map ρ ++ cap)) w := by
  rw [execOp_eq ho]; unfold execOp
  have hb' : ¬ fn.body = none := by cases h : fn.body <;> simp_all
  have hn' : ¬ fn.name = "runtime.NumGoroutine" := by simpa using hn
  simp [resolve, hg, Deferred.ofValue, invoke, callFunc, hf, hb', hn']

/-- All of a value is plain: no reading goes through a cell. -/
def AV.plainC : AV → Bool
  | .bool _ => true
  | .int _ _ => true
  | .str _ => true
  | .iface => true
  | .nilIface => true
  | _ => false

def AV.plain : AV → Bool
  | .tup vs => vs.all fun v => match v with | .agg cs => cs.all AV.plainC | v => v.plainC
  | .agg cs => cs.all AV.plainC
  | v => v.plainC

theorem VRc.plain {K K2 : KM} {S S2 : Stb} {w w2 : World} {y : AV} {u : Value} (h : VRc K S w y u) (hp : y.plainC = true) : VRc K2 S2 w2 y u := by
  cases y <;> simp [AV.plainC] at hp <;> simp only [VRc, VR0] at h ⊢ <;> cases h <;> constructor

theorem VRa.plain {K K2 : KM} {S S2 : Stb} {w w2 : World} {y : AV} {u : Value} (h : VRa K S w y u) (hp : (match y with | .agg cs => cs.all AV.plainC | v => v.plainC) = true) : VRa K2 S2 w2 y u := by
  cases y
  case agg ys =>
    obtain ⟨vs, h1, h2, h3⟩ := h
    exact ⟨vs, h1, h2, fun j y v hy hv => (h3 j y v hy hv).plain (List.all_eq_true.1 hp y (List.mem_of_getElem? hy))⟩
  all_goals (simp only [VRa] at h ⊢; exact VRc.plain h hp)

theorem VR.plain {K K2 : KM} {S S2 : Stb} {w w2 : World} {y : AV} {u : Value} (h : VR K S w y u) (hp : y.plain = true) : VR K2 S2 w2 y u := by
  cases y
  case tup ys =>
    obtain ⟨vs, h1, h2, h3⟩ := h
    refine ⟨vs, h1, h2, fun j y v hy hv => (h3 j y v hy hv).plain ?_⟩
    have := List.all_eq_true.1 hp y (List.mem_of_getElem? hy)
    cases y <;> exact this
  case agg ys =>
    simp only [VR] at h ⊢
    exact VRa.plain h hp
  all_goals (simp only [VR] at h ⊢; exact VRa.plain h hp)

/-- A value as it is handed to a function that is called alone: slices and maps over memory of one's own are seen as they read now. -/
def viewC (hp : Nat → Option Blk) : AV → AV
  | .sl sz nil _ xs => .sl sz nil none xs
  | .rsl sz id off len => match hp id with | some (.arr _ xs) => .sl sz false none ((xs.drop off).take len) | _ => .dead
  | .rmp id => match hp id with | some (.mp es) => .mp false es | _ => .dead
  | .func f cap => match cap with | [] => .func f [] | _ => .dead
  | .ref _ _ => .dead
  | .eref _ _ _ _ => .dead
  | .iter _ => .dead
  | .agg _ => .dead
  | .tup _ => .dead
  | v => v

def viewA (hp : Nat → Option Blk) : AV → AV
  | .agg cs => .agg (cs.map (viewC hp))
  | v => viewC hp v

/-- The blocks that a view reads. -/
def viewIdsC : AV → List Nat
  | .rsl _ id _ _ => [id]
  | .rmp id => [id]
  | _ => []

def viewIds : AV → List Nat
  | .agg cs => cs.flatMap viewIdsC
  | v => viewIdsC v

/-- The cells of the viewed blocks are stable for the call. -/
def viewS (K : KM) (S : Stb) (ids : List Nat) : Stb := fun b off => S b off ∨ ∃ id ∈ ids, (∃ ki, K id = some ki ∧ (match ki with | .arr b' _ _ => b' = b | .mp b' => b' = b | _ => False))

theorem viewS_sub (K : KM) (S : Stb) (w : World) (ids : List Nat) : Kept S w (viewS K S ids) w := ⟨fun _ _ h => .inl h, fun _ _ _ => rfl, fun _ _ => rfl⟩

theorem VRc.view {nG : Nat} {G0 : Nat → Option Obj} {K : KM} {S : Stb} {hp : Nat → Option Blk} {w : World} (hr : HRel nG G0 K S hp w) {ids : List Nat} {y : AV} {u : Value} (h : VRc K S w y u) (hi : ∀ id ∈ viewIdsC y, id ∈ ids) :
    VRc (fun _ => none) (viewS K S ids) w (viewC hp y) u := by
  have hkept := viewS_sub K S w ids
  cases y <;> simp only [viewC] <;> try (simp only [VRc, VR0] at h ⊢; exact h.mono hkept)
  case ref => simp only [VRc, VR0]
  case eref => simp only [VRc, VR0]
  case iter => simp only [VRc, VR0]
  case agg => simp only [VRc, VR0]
  case tup => simp only [VRc, VR0]
  case dead => simp only [VRc, VR0]
  case sl sz nil tok xs =>
    cases tok with
    | none => simp only [VRc, VR0] at h ⊢; exact h.mono hkept
    | some τ => simp only [VRc, VR0] at h ⊢; exact h.1.mono hkept
  case rsl sz id off len =>
    simp only [VRc, VR0] at h
    obtain ⟨b, n, cap, hK, h1, h2, rfl⟩ := h
    cases hb : hp id with
    | none => simp only [VRc, VR0]
    | some bl =>
      have hbr := hr.blk id bl _ hb hK
      cases bl <;> simp only [BR] at hbr
      rename_i sz2 xs
      obtain ⟨e1, rfl, hxl, arr, e, hheap, hsz, hv⟩ := hbr
      subst e1
      simp only [VRc, VR0]
      have hl : ((xs.drop off).take len).length = len := by simp; omega
      have key := PR.sl (S := viewS K S ids) (w := w) sz2 b (off * sz2) cap ((xs.drop off).take len) (fun i j => arr[(off + i) * sz2 + j]?.getD undef) (by rw [hl]; exact h2) (fun i x hx => ?_) (fun i x j y hx hy => ?_) (fun i x j y hx hy => ?_)
      · rw [hl] at key; exact key
      all_goals
        rw [List.getElem?_take] at hx
        split at hx
        rotate_left
        · cases hx
        rw [List.getElem?_drop] at hx
      · exact hxl _ x hx
      all_goals
        have hj : j < sz2 := by rw [← hxl _ x hx]; exact (List.getElem?_eq_some_iff.1 hy).1
        have hi' : off + i < xs.length := (List.getElem?_eq_some_iff.1 hx).1
        have hlt := idx_lt hi' hj
        have hs : (off + i) * sz2 + j < arr.size := by omega
      · refine ⟨.inr ⟨id, hi id (by simp [viewIdsC]), _, hK, rfl⟩, ?_⟩
        rw [cell_arr hheap, show off * sz2 + (i * sz2 + j) = (off + i) * sz2 + j from by rw [Nat.add_mul]; omega]
        simp [hs]
      · exact (hv _ x j y _ hx hy (by simp [hs])).mono hkept
  case rmp id =>
    simp only [VRc, VR0] at h
    obtain ⟨b, hK, rfl⟩ := h
    cases hb : hp id with
    | none => simp only [VRc, VR0]
    | some bl =>
      have hbr := hr.blk id bl _ hb hK
      cases bl <;> simp only [BR] at hbr
      obtain ⟨ents, clock, hheap, hok, hk, hv⟩ := hbr
      simp only [VRc, VR0]
      exact .mp b _ ents clock (fun off => .inr ⟨id, hi id (by simp [viewIdsC]), _, hK, rfl⟩) hheap hok (fun i p e hp he => (hk i p e hp he).mono hkept) (fun i p e hp he => (hv i p e hp he).mono hkept)
  case func f cap =>
    cases cap with
    | nil =>
      obtain ⟨cs, h1, h2, h3⟩ := h
      exact ⟨cs, h1, h2, fun j y c hy hc => by simp at hy⟩
    | cons => simp only [VRc, VR0]

theorem VR.view {nG : Nat} {G0 : Nat → Option Obj} {K : KM} {S : Stb} {hp : Nat → Option Blk} {w : World} (hr : HRel nG G0 K S hp w) {ids : List Nat} {y : AV} {u : Value} (h : VR K S w y u) (hi : ∀ id ∈ viewIds y, id ∈ ids) (ht : ∀ zs, y ≠ .tup zs) :
    VR (fun _ => none) (viewS K S ids) w (viewA hp y) u := by
  cases y
  case tup zs => exact absurd rfl (ht zs)
  case agg cs =>
    obtain ⟨vs, h1, h2, h3⟩ := VR_agg h
    simp only [viewA, VR, VRa]
    refine ⟨vs, h1, by simpa using h2, fun j y c hy hc => ?_⟩
    rw [List.getElem?_map] at hy
    cases hq : cs[j]? with
    | none => rw [hq] at hy; cases hy
    | some q =>
      rw [hq] at hy; cases hy
      exact (h3 j q c hq hc).view hr fun id hid => hi id (by simp only [viewIds, List.mem_flatMap]; exact ⟨q, List.mem_of_getElem? hq, hid⟩)
  all_goals
    simp only [VR, VRa] at h
    exact (VRc.view hr h hi).vr
end Go.Ab

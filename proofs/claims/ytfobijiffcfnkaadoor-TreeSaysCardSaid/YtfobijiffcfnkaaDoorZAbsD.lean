/- A call keeps the heap's relation; no condition. -/
import Derived.Test.YtfobijiffcfnkaaDoorZAbsC
namespace Go.Ab

def fixN : Option Nat → AV → AV
  | some sz, .nils => .sl sz true none []
  | _, v => v

theorem VR.fixN {K : KM} {S : Stb} {w : World} {y : AV} {u : Value} (h : VR K S w y u) (s : Option Nat) : VR K S w (fixN s y) u := by
  cases s with
  | none => exact h
  | some sz =>
    cases y <;> try exact h
    have := VR_nils h
    subst this
    exact (PR.slNil sz).vr

theorem viewA_congr {hp hp0 : Nat → Option Blk} {y : AV} (h : ∀ id ∈ viewIds y, hp id = hp0 id) : viewA hp y = viewA hp0 y := by
  have key : ∀ z : AV, (∀ id ∈ viewIdsC z, hp id = hp0 id) → viewC hp z = viewC hp0 z := by
    intro z hz
    cases z <;> simp only [viewC]
    · rw [hz _ (by simp [viewIdsC])]
    · rw [hz _ (by simp [viewIdsC])]
  cases y <;> simp only [viewA] <;> try exact key _ h
  congr 1
  apply List.map_congr_left
  intro z hz
  exact key z fun id hid => h id (by simp only [viewIds, List.mem_flatMap]; exact ⟨z, hz, hid⟩)

section
variable {nG : Nat} {G0 : Nat → Option Obj} {n0 : Nat} {K : KM} {S S' : Stb} {hp : Nat → Option Blk} {w w' : World}

theorem HRel.klt (h : HRel nG G0 K S hp w) {id : Nat} {ki : KI} {b : Nat} (hi : K id = some ki) (hb : ki.blk = some b) : b < w.heap.size := by
  have hd := h.dom id
  rw [hi] at hd
  obtain ⟨bl', hbl'⟩ := Option.isSome_iff_exists.1 hd.symm
  exact (h.blk id bl' ki hbl' hi).lt hb

/-- Nothing that was there has turned; cells of new blocks have become stable. -/
theorem HRel.ext (h : HRel nG G0 K S hp w) (hos : w'.os = w.os) (htape : w'.tape = w.tape) (hout : w'.output = w.output) (hsz : w.heap.size ≤ w'.heap.size)
    (hf : ∀ b, b < w.heap.size → w'.heap[b]? = w.heap[b]?) (hS : ∀ b off, S' b off → b < w'.heap.size) :
    HRel nG G0 K (fun b off => S b off ∨ (w.heap.size ≤ b ∧ S' b off)) hp w' ∧ Ext n0 K S w K (fun b off => S b off ∨ (w.heap.size ≤ b ∧ S' b off)) w' := by
  have hkept : Kept S w (fun b off => S b off ∨ (w.heap.size ≤ b ∧ S' b off)) w' :=
    ⟨fun _ _ h => .inl h, fun b off hs => cell_of_heap (hf b (h.lt b off hs)), fun b hs => hf b (h.lt b 0 (hs 0))⟩
  refine ⟨⟨h.dom, fun id bl ki hb hk => (h.blk id bl ki hb hk).mono (KLe.refl _) hkept fun b hbk => hf b (h.klt hk hbk), h.inj, ?_, ?_, h.glob, ?_, Nat.le_trans h.nG hsz⟩, hos, htape, hout, hsz, fun b hb _ => hf b hb, fun id ki b hk hb => .inl ⟨id, ki, hk, hb⟩, hkept, ?_, fun id ki _ hk => ⟨ki, hk, kle.refl ki⟩⟩
  · rintro b off (hs | ⟨_, hs⟩)
    · exact Nat.lt_of_lt_of_le (h.lt b off hs) hsz
    · exact hS b off hs
  · rintro b off id ki (hs | ⟨hge, _⟩) hk hb
    · exact h.apart b off id ki hs hk hb
    · have := h.klt hk hb; omega
  · intro b hb
    rw [hf b (Nat.lt_of_lt_of_le hb h.nG)]
    exact h.fix b hb
  · rintro b off (hs | ⟨hge, _⟩)
    · exact .inl hs
    · exact .inr (.inl hge)
end

section ops
variable {P : Program} {nG : Nat} {G0 : Nat → Option Obj} {n0 : Nat} {o : Oper} {rd : List Nat} {tm0 : Nat → AV} {hp0 : Nat → Option Blk}

theorem zipWith_get {α β γ : Type} (f : α → β → γ) (xs : List α) (ys : List β) (_hl : ys.length = xs.length) (j : Nat) : (List.zipWith f xs ys)[j]? = match xs[j]?, ys[j]? with | some a, some b => some (f a b) | _, _ => none := by
  rw [List.getElem?_zipWith]
  cases xs[j]? <;> cases ys[j]? <;> rfl

/-- A function without references is called. -/
theorem snd_call_pure {g : Operand} {args : Array Operand} {ts : Array TypeId} {f : FuncId} {szs : List (Option Nat)} {r : AV} (ho : o.op = .call { callee := .value g, args := args, argTypes := ts }) (hg : evA tm0 g = .func f [])
    (hl : szs.length = args.size) (hflat : (args.toList.all fun x => match evA tm0 x with | .tup _ => false | _ => true) = true)
    (hgood : Good P nG G0 f (List.zipWith (fun x s => viewA hp0 (fixN s (evA tm0 x))) args.toList szs) [] r []) (hrd : ∀ x ∈ args.toList, ∀ id ∈ viewIds (evA tm0 x), id ∈ rd)
    (hpl : r.plain = true ∨ ∀ x ∈ args.toList, viewIds (evA tm0 x) = []) : OpSnd P nG G0 n0 o r [] rd tm0 hp0 := by
  intro n K S tm hp a w hr hx hh _ next QC hn
  have hops : ∀ x ∈ args.toList, x ∈ o.op.operands := fun x hm => by rw [ho]; simp [Op.operands, Call.operands]; right; simpa using hm
  obtain ⟨⟨fn, hf, hb, hnn⟩, hcall⟩ := hgood
  obtain ⟨cs, hgv, hcl, _⟩ := VR_func (hg ▸ hx g (by rw [ho]; simp [Op.operands, Call.operands]) ▸ hr.ev g)
  obtain rfl : cs = [] := List.eq_nil_of_length_eq_zero (by simpa using hcl)
  unfold Oper.wp
  rw [exec_call ho hgv hf hb hnn w, Oper.upon_enter]
  let ids := args.toList.flatMap fun x => viewIds (evA tm0 x)
  have hvl : ∀ b off, viewS K S ids b off → b < w.heap.size := by
    rintro b off (hs | ⟨id, _, ki, hk, hb'⟩)
    · exact hr.heap.lt b off hs
    · refine hr.heap.klt hk (b := b) ?_
      cases ki <;> simp at hb' <;> simp [KI.blk, hb']
  have hrel : HRel nG G0 (fun _ => none) (viewS K S ids) (hpF []) w :=
    ⟨fun _ => rfl, fun id bl ki _ hk => (by cases hk), fun id id' ki ki' b hk => (by cases hk), hvl, fun b off id ki _ hk => (by cases hk), fun id ki b hk => (by cases hk), hr.heap.fix, hr.heap.nG⟩
  have hargs : VRs (fun _ => none) (viewS K S ids) w (List.zipWith (fun x s => viewA hp0 (fixN s (evA tm0 x))) args.toList szs) (args.map a.eval ++ (#[] : Array Value)).toList := by
    refine ⟨by simp [hl], fun j y u hy hu => ?_⟩
    rw [zipWith_get _ _ _ (by simpa using hl)] at hy
    simp only [Array.append_empty, Array.toList_map, List.getElem?_map] at hu
    cases hq : args.toList[j]? with
    | none => rw [hq] at hy; cases hy
    | some x =>
      rw [hq] at hy hu
      cases hs : szs[j]? with
      | none => rw [hs] at hy; cases hy
      | some s =>
        rw [hs] at hy
        cases hy
        cases hu
        have hm := List.mem_of_getElem? hq
        have hv := (hx x (hops x hm) ▸ hr.ev x).fixN s
        have hvi : ∀ id ∈ viewIds (fixN s (evA tm0 x)), id ∈ viewIds (evA tm0 x) := by
          intro id hid
          cases s with
          | none => exact hid
          | some sz => generalize evA tm0 x = y at hid ⊢; cases y <;> first | exact hid | (simp [fixN, viewIds, viewIdsC] at hid)
        rw [← viewA_congr (hp := hp) (fun id hid => hh id (hrd x hm id (hvi id hid)))]
        refine VR.view hr.heap hv (fun id hid => List.mem_flatMap.2 ⟨x, hm, hvi id hid⟩) fun zs he => ?_
        have := List.all_eq_true.1 hflat x hm
        cases s with
        | none => simp only [fixN] at he; rw [he] at this; simp at this
        | some sz => generalize evA tm0 x = y at he this; cases y <;> simp [fixN] at he this
  have hc := hcall w _ _ _ hrel hargs
  rw [Array.toArray_toList] at hc
  refine Calls.mono hc fun e w' he => ?_
  obtain ⟨v, K', S', rfl, hrel', hv, hext⟩ := he
  have hK' : ∀ id, K' id = none := fun id => by
    have := hrel'.dom id
    cases h : K' id with
    | none => rfl
    | some => rw [h] at this; simp [hpF] at this
  have hKle : KLe K' K := fun id ki hk => by rw [hK' id] at hk; cases hk
  obtain ⟨g1, g2⟩ := hr.heap.ext (n0 := n0) (S' := S') hext.os hext.tape hext.output hext.size (fun b hb' => hext.frame b hb' fun id ki hk => by cases hk) (fun b off hs => hrel'.lt b off hs)
  refine hn v w' K _ ?_ g1 g2 (KLe.refl _)
  rcases hpl with hpl | hpl
  · exact hv.plain hpl
  · refine hv.mono hKle ⟨fun b off hs => ?_, fun _ _ _ => rfl, fun _ _ => rfl⟩
    rcases hext.snew b off hs with h1 | h1 | ⟨id, ki, h1, _⟩
    · rcases h1 with h1 | ⟨id, hid, _⟩
      · exact .inl h1
      · obtain ⟨x, hm, hid⟩ := List.mem_flatMap.1 hid
        rw [hpl x hm] at hid
        cases hid
    · exact .inr ⟨h1, hs⟩
    · cases h1

/-- Where a number stands in a list. -/
def pos : List Nat → Nat → Option Nat
  | [], _ => none
  | x :: r, id => if x == id then some 0 else (pos r id).map (· + 1)

theorem pos_get : ∀ {L : List Nat} {id i : Nat}, pos L id = some i → L[i]? = some id
  | x :: r, id, i, h => by
    simp only [pos] at h
    split at h
    · rename_i he
      cases h
      simpa using he
    · cases hq : pos r id with
      | none => rw [hq] at h; cases h
      | some k => rw [hq] at h; cases h; simpa using pos_get hq

theorem get_pos : ∀ {L : List Nat} {id i : Nat}, L.Nodup → L[i]? = some id → pos L id = some i
  | [], _, _, _, h => by simp at h
  | x :: r, id, 0, _, h => by simp at h; subst h; simp [pos]
  | x :: r, id, i + 1, hn, h => by
    simp at h hn
    have hne : x ≠ id := by rintro rfl; exact hn.1 (List.mem_of_getElem? h)
    simp [pos, hne, get_pos hn.2 h]

theorem pos_none {L : List Nat} {id : Nat} (h : pos L id = none) : id ∉ L := by
  induction L with
  | nil => simp
  | cons x r ih =>
    simp only [pos] at h
    split at h
    · cases h
    · rename_i hne
      simp at h hne
      simp only [List.mem_cons, not_or]
      exact ⟨fun e => hne e.symm, ih h⟩

/-- What a call writes: the blocks 'ids', as the callee left them. -/
def wsOf (ρ : Nat → Option Nat) : List Nat → List (Option Blk) → List (Nat × Blk)
  | id :: r, some b :: s => (id, renB ρ b) :: wsOf ρ r s
  | _ :: r, none :: s => wsOf ρ r s
  | _, _ => []

theorem wsOf_upd (ρ : Nat → Option Nat) : ∀ (ids : List Nat) (H : List (Option Blk)) (hp : Nat → Option Blk), ids.Nodup → ids.length = H.length → (∀ (i id : Nat), ids[i]? = some id → H[i]? = some none → hp id = none) →
    ∀ id, updH hp (wsOf ρ ids H) id = match pos ids id with | some i => (H.getD i none).map (renB ρ) | none => hp id
  | [], [], hp, _, _, _, id => by simp [wsOf, updH, pos]
  | x :: r, b :: s, hp, hnd, hl, hno, id => by
    have hnd' := List.nodup_cons.1 hnd
    cases b with
    | none =>
      simp only [wsOf]
      rw [wsOf_upd ρ r s hp hnd'.2 (by simpa using hl) (fun i id h1 h2 => hno (i + 1) id (by simpa using h1) (by simpa using h2))]
      by_cases he : x = id
      · subst he
        have : pos r x = none := by
          cases hq : pos r x with
          | none => rfl
          | some k => exact absurd (List.mem_of_getElem? (pos_get hq)) hnd'.1
        simp [this, pos]
        exact hno 0 x rfl rfl
      · simp only [pos, beq_iff_eq, he, if_false]
        cases hq : pos r id <;> simp
    | some b =>
      simp only [wsOf, updH]
      rw [wsOf_upd ρ r s _ hnd'.2 (by simpa using hl) (fun i id h1 h2 => by
        have hne : id ≠ x := by rintro rfl; exact hnd'.1 (List.mem_of_getElem? h1)
        rw [if_neg hne]
        exact hno (i + 1) id (by simpa using h1) (by simpa using h2))]
      by_cases he : x = id
      · subst he
        have : pos r x = none := by
          cases hq : pos r x with
          | none => rfl
          | some k => exact absurd (List.mem_of_getElem? (pos_get hq)) hnd'.1
        simp [this, pos]
      · have he' : id ≠ x := fun h => he h.symm
        simp only [pos, beq_iff_eq, he, if_false]
        cases hq : pos r id <;> simp [he']
  | [], _ :: _, _, _, hl, _, _ => by simp at hl
  | _ :: _, [], _, _, hl, _, _ => by simp at hl

theorem wsOf_mem (ρ : Nat → Option Nat) : ∀ (ids : List Nat) (H : List (Option Blk)) (i : Nat) (id : Nat) (b : Blk), ids[i]? = some id → H[i]? = some (some b) → (id, renB ρ b) ∈ wsOf ρ ids H
  | x :: r, c :: s, 0, id, b, h1, h2 => by
    simp at h1 h2
    subst h1; subst h2
    simp [wsOf]
  | x :: r, c :: s, i + 1, id, b, h1, h2 => by
    have := wsOf_mem ρ r s i id b (by simpa using h1) (by simpa using h2)
    cases c <;> simp [wsOf, this]
  | [], _, _, _, _, h1, _ => by simp at h1
  | _ :: _, [], _, _, _, _, h2 => by simp at h2

/-- A function is called that may write the blocks L of its caller; it leaves new blocks, which come to be 'nw'. -/
theorem snd_call_gen {g : Operand} {args : Array Operand} {ts : Array TypeId} {f : FuncId} {szs : List (Option Nat)} {cap : List AV} {L nw : List Nat} {r : AV} {H' : List (Option Blk)}
    (ho : o.op = .call { callee := .value g, args := args, argTypes := ts }) (hg : evA tm0 g = .func f cap) (hl : szs.length = args.size)
    (hnd : (L ++ nw).Nodup) (hlen : (L ++ nw).length = H'.length) (hLrd : ∀ id ∈ L, id ∈ rd) (hnrd : ∀ id ∈ nw, id ∉ rd)
    (hL : ∀ id ∈ L, match hp0 id with | some (.grow _ _) => False | some _ => True | none => False)
    (hgood : Good P nG G0 f (List.zipWith (fun x s => renV (pos L) (fixN s (evA tm0 x))) args.toList szs ++ cap.map (renR (pos L))) (L.map fun id => (hp0 id).map (renB (pos L))) r H')
    (hnw : ∀ id ∈ nw, ∀ (i : Nat), (L ++ nw)[i]? = some id → H'[i]? ≠ some none) :
    OpSnd P nG G0 n0 o (renV (fun i => (L ++ nw)[i]?) r) (wsOf (fun i => (L ++ nw)[i]?) (L ++ nw) H') rd tm0 hp0 := by
  intro n K S tm hp a w hr hx hh hws next QC hn
  have hops : ∀ x ∈ args.toList, x ∈ o.op.operands := fun x hm => by rw [ho]; simp [Op.operands, Call.operands]; right; simpa using hm
  obtain ⟨⟨fn, hf, hb, hnn⟩, hcall⟩ := hgood
  obtain ⟨cs, hgv, hcl, hcv⟩ := VR_func (hg ▸ hx g (by rw [ho]; simp [Op.operands, Call.operands]) ▸ hr.ev g)
  unfold Oper.wp
  rw [exec_call ho hgv hf hb hnn w, Oper.upon_enter]
  have hndL : L.Nodup := (List.nodup_append.1 hnd).1
  -- the callee's heap
  have hLhp : ∀ id ∈ L, ∃ bl, hp id = some bl ∧ hp0 id = some bl ∧ ∀ sz m, bl ≠ .grow sz m := by
    intro id hid
    have h1 := hL id hid
    rw [hh id (hLrd id hid)]
    cases hb' : hp0 id with
    | none => rw [hb'] at h1; exact h1.elim
    | some bl => rw [hb'] at h1; exact ⟨bl, rfl, rfl, fun sz m e => by subst e; exact h1⟩
  have hLK : ∀ id ∈ L, ∃ ki, K id = some ki ∧ (∀ l sz m, ki ≠ .grow l sz m) ∧ ∃ b, ki.blk = some b := by
    intro id hid
    obtain ⟨bl, h1, _, h2⟩ := hLhp id hid
    have hd := hr.heap.dom id
    rw [h1] at hd
    obtain ⟨ki, hki⟩ := Option.isSome_iff_exists.1 hd
    have hbr := hr.heap.blk id bl ki h1 hki
    refine ⟨ki, hki, fun l sz m e => ?_, ?_⟩
    · subst e
      cases bl <;> simp only [BR] at hbr
      exact h2 _ _ rfl
    · cases bl <;> cases ki <;> simp only [BR] at hbr <;> first | exact ⟨_, rfl⟩ | exact absurd rfl (h2 _ _)
  let Kc : KM := fun i => match L[i]? with | some id => K id | none => none
  have hKc : ∀ i id, L[i]? = some id → Kc i = K id := fun i id h => by simp [Kc, h]
  have hKcs : ∀ i ki, Kc i = some ki → ∃ id, L[i]? = some id ∧ K id = some ki := by
    intro i ki h
    cases hq : L[i]? with
    | none => simp [Kc, hq] at h
    | some id => exact ⟨id, rfl, by rw [← hKc i id hq]; exact h⟩
  have hρ : ∀ id i ki, pos L id = some i → K id = some ki → Kc i = some ki := fun id i ki h1 h2 => by rw [hKc i id (pos_get h1)]; exact h2
  have hpfc : ∀ i bl, hpF (L.map fun id => (hp0 id).map (renB (pos L))) i = some bl → ∃ id bl0, L[i]? = some id ∧ hp id = some bl0 ∧ bl = renB (pos L) bl0 := by
    intro i bl h
    simp only [hpF, List.getD_eq_getElem?_getD, List.getElem?_map] at h
    cases hq : L[i]? with
    | none => rw [hq] at h; simp at h
    | some id =>
      rw [hq] at h
      obtain ⟨bl0, h1, h2, _⟩ := hLhp id (List.mem_of_getElem? hq)
      simp [h2] at h
      exact ⟨id, bl0, rfl, h1, h.symm⟩
  have hrel : HRel nG G0 Kc S (hpF (L.map fun id => (hp0 id).map (renB (pos L)))) w := by
    refine ⟨fun i => ?_, fun i bl ki hb' hk => ?_, fun i j ki kj b hi hj hbi hbj => ?_, hr.heap.lt, fun b off i ki hs hk hbk => ?_, fun i ki b hk hbk => ?_, hr.heap.fix, hr.heap.nG⟩
    · simp only [hpF, List.getD_eq_getElem?_getD, List.getElem?_map]
      cases hq : L[i]? with
      | none => simp [Kc, hq]
      | some id =>
        obtain ⟨bl0, h1, h2, _⟩ := hLhp id (List.mem_of_getElem? hq)
        obtain ⟨ki, h3, _⟩ := hLK id (List.mem_of_getElem? hq)
        simp [Kc, hq, h2, h3]
    · obtain ⟨id, bl0, h1, h2, rfl⟩ := hpfc i bl hb'
      obtain ⟨id', h3, h4⟩ := hKcs i ki hk
      rw [h1] at h3; cases h3
      exact (hr.heap.blk id bl0 ki h2 h4).ren hρ (Kept.refl S w) fun _ _ => rfl
    · obtain ⟨id, h1, h2⟩ := hKcs i ki hi
      obtain ⟨id', h3, h4⟩ := hKcs j kj hj
      have := hr.heap.inj id id' ki kj b h2 h4 hbi hbj
      subst this
      have e1 := get_pos hndL h1
      have e2 := get_pos hndL h3
      rw [e1] at e2; cases e2; rfl
    · obtain ⟨id, h1, h2⟩ := hKcs i ki hk
      exact hr.heap.apart b off id ki hs h2 hbk
    · obtain ⟨id, h1, h2⟩ := hKcs i ki hk
      exact hr.heap.glob id ki b h2 hbk
  have hargs : VRs Kc S w (List.zipWith (fun x s => renV (pos L) (fixN s (evA tm0 x))) args.toList szs ++ cap.map (renR (pos L))) (args.map a.eval ++ cs.toArray).toList := by
    have hzl : (List.zipWith (fun x s => renV (pos L) (fixN s (evA tm0 x))) args.toList szs).length = args.size := by simp [hl]
    refine ⟨by simp [hl, hcl], fun j y u hy hu => ?_⟩
    simp only [Array.toList_append, Array.toList_map] at hu
    by_cases hj : j < args.size
    · rw [List.getElem?_append_left (by omega)] at hy
      rw [List.getElem?_append_left (by simpa using hj), List.getElem?_map] at hu
      rw [zipWith_get _ _ _ (by simpa using hl)] at hy
      cases hq : args.toList[j]? with
      | none => rw [hq] at hy; cases hy
      | some x =>
        rw [hq] at hy hu
        cases hs : szs[j]? with
        | none => rw [hs] at hy; cases hy
        | some s =>
          rw [hs] at hy
          cases hy
          cases hu
          exact ((hx x (hops x (List.mem_of_getElem? hq)) ▸ hr.ev x).fixN s).ren hρ (Kept.refl S w)
    · rw [List.getElem?_append_right (by omega), hzl, List.getElem?_map] at hy
      rw [List.getElem?_append_right (by simpa using hj)] at hu
      simp only [List.length_map, Array.length_toList] at hu
      cases hq : cap[j - args.size]? with
      | none => rw [hq] at hy; cases hy
      | some c =>
        rw [hq] at hy; cases hy
        have := (hcv _ c u hq (by simpa using hu)).ren hρ (Kept.refl S w)
        generalize renR (pos L) c = z at this ⊢
        cases z <;> simp only [VR0] at this <;> simp only [VR, VRa, VRc, VR0] <;> exact this
  have hc := hcall w _ _ _ hrel hargs
  rw [Array.toArray_toList] at hc
  refine Calls.mono hc fun e w' he => ?_
  obtain ⟨v, K', S', rfl, hrel', hv, hext⟩ := he
  have hHL : (L.map fun id => (hp0 id).map (renB (pos L))).length = L.length := by simp
  rw [hHL] at hext
  -- the caller's heap behind the call
  let ids := L ++ nw
  have hids : ids = L ++ nw := rfl
  have hposL : ∀ i id, L[i]? = some id → ids[i]? = some id := fun i id h => by rw [hids, List.getElem?_append_left (List.getElem?_eq_some_iff.1 h).1]; exact h
  let K2 : KM := fun id => match pos ids id with | some i => K' i | none => K id
  have hK2 : ∀ i id, ids[i]? = some id → K2 id = K' i := fun i id h => by simp only [K2]; rw [show pos ids id = some i from get_pos hnd h]
  have hK2o : ∀ id, pos ids id = none → K2 id = K id := fun id h => by simp [K2, h]
  have hnwfresh : ∀ id ∈ nw, hp id = none ∧ n0 ≤ id := by
    intro id hid
    obtain ⟨i, hi⟩ := List.mem_iff_getElem?.1 (show id ∈ ids from List.mem_append_right _ hid)
    have hlt : i < H'.length := by rw [← hlen]; exact (List.getElem?_eq_some_iff.1 hi).1
    cases hq : H'[i] with
    | none => exact absurd (by rw [List.getElem?_eq_getElem hlt, hq]) (hnw id hid i hi)
    | some bl =>
      have hm := wsOf_mem (fun i => ids[i]?) ids H' i id bl hi (by rw [List.getElem?_eq_getElem hlt, hq])
      exact (hws _ hm).resolve_left (hnrd id hid)
  have hS2 : ∀ b off, S' b off → S b off ∨ w.heap.size ≤ b := by
    intro b off hs
    rcases hext.snew b off hs with h1 | h1 | ⟨i, ki, h1, h2⟩
    · exact .inl h1
    · exact .inr h1
    · obtain ⟨id, h3, h4⟩ := hKcs i ki h1
      obtain ⟨ki', h5, h6⟩ := hext.base i ki (List.getElem?_eq_some_iff.1 h3).1 h1
      obtain ⟨ki2, h7, h8, _⟩ := hLK id (List.mem_of_getElem? h3)
      rw [h4] at h7; cases h7
      have hb' : ki'.blk = some b := by
        cases ki <;> cases ki' <;> simp [kle] at h6 <;> simp_all [KI.blk]
      obtain ⟨l, sz, m, he, _⟩ := hrel'.apart b off i ki' hs h5 hb'
      subst he
      cases ki <;> simp [kle] at h6
      exact absurd rfl (h8 _ _ _)
  have hKle : KLe K K2 := by
    intro id ki hk
    cases hq : pos ids id with
    | none => exact ⟨ki, by rw [hK2o id hq]; exact hk, kle.refl ki⟩
    | some i =>
      have hi := pos_get hq
      by_cases hiL : i < L.length
      · have hL2 : L[i]? = some id := by rw [hids, List.getElem?_append_left hiL] at hi; exact hi
        obtain ⟨ki', h1, h2⟩ := hext.base i ki hiL (by rw [hKc i id hL2]; exact hk)
        exact ⟨ki', by rw [hK2 i id hi]; exact h1, h2⟩
      · have hmem : id ∈ nw := by
          rw [hids, List.getElem?_append_right (by omega)] at hi
          exact List.mem_of_getElem? hi
        rw [hr.heap.dom_none (hnwfresh id hmem).1] at hk
        cases hk
  have hframe : ∀ b, b < w.heap.size → (∀ id ∈ L, ∀ ki, K id = some ki → ki.blk ≠ some b) → w'.heap[b]? = w.heap[b]? := by
    intro b hb' hne
    refine hext.frame b hb' fun i ki hk => ?_
    obtain ⟨id, h1, h2⟩ := hKcs i ki hk
    exact hne id (List.mem_of_getElem? h1) ki h2
  have hρ' : ∀ i id ki, ids[i]? = some id → K' i = some ki → K2 id = some ki := fun i id ki h1 h2 => by rw [hK2 i id h1]; exact h2
  have hnewblk : ∀ i ki b, L.length ≤ i → K' i = some ki → ki.blk = some b → w.heap.size ≤ b := by
    intro i ki b hi hk hbk
    rcases hext.new i ki b hk hbk with ⟨j, kj, h1, h2⟩ | h1
    · obtain ⟨id, h3, h4⟩ := hKcs j kj h1
      obtain ⟨kj', h5, h6⟩ := hext.base j kj (List.getElem?_eq_some_iff.1 h3).1 h1
      obtain ⟨ki2, h7, h8, _⟩ := hLK id (List.mem_of_getElem? h3)
      rw [h4] at h7; cases h7
      have hb' : kj'.blk = some b := by
        cases kj <;> cases kj' <;> simp [kle] at h6 <;> first | (simp_all [KI.blk]; done) | exact absurd rfl (h8 _ _ _)
      have := hrel'.inj i j ki kj' b hk h5 hbk hb'
      have := (List.getElem?_eq_some_iff.1 h3).1
      omega
    · exact h1
  have hLblk : ∀ i ki b, i < L.length → K' i = some ki → ki.blk = some b → ∃ id ki0, L[i]? = some id ∧ K id = some ki0 ∧ ki0.blk = some b := by
    intro i ki b hi hk hbk
    obtain ⟨id, hid⟩ : ∃ id, L[i]? = some id := ⟨_, List.getElem?_eq_getElem hi⟩
    obtain ⟨ki0, h1, h2, b0, h3⟩ := hLK id (List.mem_of_getElem? hid)
    obtain ⟨ki', h5, h6⟩ := hext.base i ki0 hi (by rw [hKc i id hid]; exact h1)
    rw [hk] at h5; cases h5
    refine ⟨id, ki0, hid, h1, ?_⟩
    cases ki0 <;> cases ki <;> simp [kle] at h6 <;> first | (simp_all [KI.blk]; done) | exact absurd rfl (h2 _ _ _)
  have hkept2 : Kept S w S' w' := hext.kept
  have hupd := wsOf_upd (fun i => ids[i]?) ids H' hp hnd hlen (fun i id h1 h2 => by
    by_cases hiL : i < L.length
    · exfalso
      have hL2 : L[i]? = some id := by rw [hids, List.getElem?_append_left hiL] at h1; exact h1
      obtain ⟨ki, h3, _⟩ := hLK id (List.mem_of_getElem? hL2)
      obtain ⟨ki', h5, _⟩ := hext.base i ki hiL (by rw [hKc i id hL2]; exact h3)
      have := hrel'.dom i
      rw [h5] at this
      simp [hpF, h2] at this
    · rw [hids, List.getElem?_append_right (by omega)] at h1
      exact (hnwfresh id (List.mem_of_getElem? h1)).1)
  have hold : ∀ id, pos ids id = none → ∀ ki b, K id = some ki → ki.blk = some b → w'.heap[b]? = w.heap[b]? := by
    intro id hq ki b hk hbk
    refine hframe b (hr.heap.klt hk hbk) fun id' hid' ki' hk' hb' => ?_
    have := hr.heap.inj id id' ki ki' b hk hk' hbk hb'
    subst this
    exact pos_none hq (List.mem_append_left _ hid')
  refine hn v w' K2 S' (hv.ren hρ' (Kept.refl S' w')) ⟨fun id => ?_, fun id bl ki hb' hk => ?_, fun id id' ki ki' b hi hj hbi hbj => ?_, hrel'.lt, fun b off id ki hs hk hbk => ?_, fun id ki b hk hbk => ?_, hrel'.fix, hrel'.nG⟩
    ⟨hext.os, hext.tape, hext.output, hext.size, fun b hb' hne => hframe b hb' fun id _ ki hk => hne id ki hk, fun id ki b hk hbk => ?_, hkept2, fun b off hs => ?_, fun id ki _ hk => hKle id ki hk⟩ hKle
  · rw [hupd id]
    cases hq : pos ids id with
    | none => rw [hK2o id hq]; exact hr.heap.dom id
    | some i =>
      rw [hK2 i id (pos_get hq)]
      have := hrel'.dom i
      simp only [hpF] at this
      simp [this]
  · rw [hupd id] at hb'
    cases hq : pos ids id with
    | none =>
      rw [hq] at hb'
      rw [hK2o id hq] at hk
      exact (hr.heap.blk id bl ki hb' hk).mono hKle hkept2 fun b hbk => hold id hq ki b hk hbk
    | some i =>
      rw [hq] at hb'
      rw [hK2 i id (pos_get hq)] at hk
      simp only [Option.map_eq_some_iff] at hb'
      obtain ⟨bl0, h1, rfl⟩ := hb'
      exact (hrel'.blk i bl0 ki h1 hk).ren hρ' (Kept.refl S' w') fun _ _ => rfl
  · have side : ∀ id ki b, K2 id = some ki → ki.blk = some b → (∃ i, pos ids id = some i ∧ K' i = some ki) ∨ (pos ids id = none ∧ K id = some ki) := by
      intro id ki b hk _
      cases hq : pos ids id with
      | none => exact .inr ⟨rfl, by rw [← hK2o id hq]; exact hk⟩
      | some i => exact .inl ⟨i, rfl, by rw [← hK2 i id (pos_get hq)]; exact hk⟩
    rcases side id ki b hi hbi with ⟨i, p1, k1⟩ | ⟨p1, k1⟩ <;> rcases side id' ki' b hj hbj with ⟨j, p2, k2⟩ | ⟨p2, k2⟩
    · have := hrel'.inj i j ki ki' b k1 k2 hbi hbj
      subst this
      have e1 := pos_get p1
      have e2 := pos_get p2
      rw [e1] at e2; cases e2; rfl
    · exfalso
      by_cases hiL : i < L.length
      · obtain ⟨id2, ki0, h1, h2, h3⟩ := hLblk i ki b hiL k1 hbi
        have := hr.heap.inj id2 id' ki0 ki' b h2 k2 h3 hbj
        subst this
        exact pos_none p2 (List.mem_append_left _ (List.mem_of_getElem? h1))
      · have := hnewblk i ki b (by omega) k1 hbi
        have := hr.heap.klt k2 hbj
        omega
    · exfalso
      by_cases hiL : j < L.length
      · obtain ⟨id2, ki0, h1, h2, h3⟩ := hLblk j ki' b hiL k2 hbj
        have := hr.heap.inj id2 id ki0 ki b h2 k1 h3 hbi
        subst this
        exact pos_none p1 (List.mem_append_left _ (List.mem_of_getElem? h1))
      · have := hnewblk j ki' b (by omega) k2 hbj
        have := hr.heap.klt k1 hbi
        omega
    · exact hr.heap.inj id id' ki ki' b k1 k2 hbi hbj
  · cases hq : pos ids id with
    | none =>
      rw [hK2o id hq] at hk
      rcases hS2 b off hs with h1 | h1
      · exact hr.heap.apart b off id ki h1 hk hbk
      · have := hr.heap.klt hk hbk; omega
    | some i =>
      rw [hK2 i id (pos_get hq)] at hk
      exact hrel'.apart b off i ki hs hk hbk
  · cases hq : pos ids id with
    | none => rw [hK2o id hq] at hk; exact hr.heap.glob id ki b hk hbk
    | some i => rw [hK2 i id (pos_get hq)] at hk; exact hrel'.glob i ki b hk hbk
  · cases hq : pos ids id with
    | none => rw [hK2o id hq] at hk; exact .inl ⟨id, ki, hk, hbk⟩
    | some i =>
      rw [hK2 i id (pos_get hq)] at hk
      by_cases hiL : i < L.length
      · obtain ⟨id2, ki0, h1, h2, h3⟩ := hLblk i ki b hiL hk hbk
        exact .inl ⟨id2, ki0, h2, h3⟩
      · exact .inr (hnewblk i ki b (by omega) hk hbk)
  · rcases hS2 b off hs with h1 | h1
    · exact .inl h1
    · exact .inr (.inl h1)
end ops
end Go.Ab

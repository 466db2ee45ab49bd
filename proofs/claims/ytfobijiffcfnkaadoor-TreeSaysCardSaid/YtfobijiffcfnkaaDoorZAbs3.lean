/- How the heap's relation is kept when one block turns; no condition. -/
import Derived.Test.YtfobijiffcfnkaaDoorZAbs2
namespace Go.Ab

theorem BR.mono {K K' : KM} {S S' : Stb} {w w' : World} (hk : KLe K K') (h : Kept S w S' w') {bl : Blk} {ki : KI} (hb : ∀ b, ki.blk = some b → w'.heap[b]? = w.heap[b]?)
    (p : BR K S w bl ki) : BR K' S' w' bl ki := by
  cases bl <;> cases ki <;> simp only [BR] at p ⊢
  case var.var cs b =>
    obtain ⟨arr, e, h1, h2, h3⟩ := p
    exact ⟨arr, e, (hb b rfl).trans h1, h2, fun j y u hy hu => (h3 j y u hy hu).mono hk h⟩
  case arr.arr sz xs b sz' n =>
    obtain ⟨h1, h2, h3, arr, e, h4, h5, h6⟩ := p
    exact ⟨h1, h2, h3, arr, e, (hb b rfl).trans h4, h5, fun i x j y u hx hy hu => (h6 i x j y u hx hy hu).mono h⟩
  case grow.grow sz n loc sz' n' =>
    obtain ⟨h1, h2, h3⟩ := p
    refine ⟨h1, h2, ?_⟩
    cases loc with
    | none => exact h3
    | some l =>
      obtain ⟨h4, arr, e, h5, h6⟩ := h3
      exact ⟨h4, arr, e, (hb l.1 rfl).trans h5, h6⟩
  case mp.mp es b =>
    obtain ⟨ents, clock, h1, h2, h3, h4⟩ := p
    exact ⟨ents, clock, (hb b rfl).trans h1, h2, fun i p e hp he => (h3 i p e hp he).mono h, fun i p e hp he => (h4 i p e hp he).mono h⟩
  case iter.iter es cur b =>
    obtain ⟨m, since, seen, stepped, h1, h2⟩ := p
    exact ⟨m, since, seen, stepped, (hb b rfl).trans h1, h2.mono h⟩

section
variable {nG : Nat} {G0 : Nat → Option Obj} {n0 : Nat} {K : KM} {S S' : Stb} {hp : Nat → Option Blk} {w w' : World} {id : Nat} {ki' : KI} {bl : Blk}

/-- A block of the abstract heap that is whole stable is none that turns. -/
theorem HRel.whole_apart (h : HRel nG G0 K S hp w) {b : Nat} (hb : ∀ off, S b off) {i : Nat} {ki : KI} (hi : K i = some ki) : ki.blk ≠ some b := by
  intro hk
  obtain ⟨l, sz, n, rfl, hlt⟩ := h.apart b _ i ki (hb 0) hi hk
  obtain ⟨l', sz', n', he, hlt'⟩ := h.apart b _ i _ (hb (n * sz)) hi hk
  cases he
  omega

/-- ONE BLOCK TURNS, OR COMES. -/
theorem HRel.gen (h : HRel nG G0 K S hp w) (hos : w'.os = w.os) (htape : w'.tape = w.tape) (hout : w'.output = w.output) (hsz : w.heap.size ≤ w'.heap.size)
    (hblk : ∀ b, b < w.heap.size → (∀ ki, K id = some ki → ki.blk ≠ some b) → w'.heap[b]? = w.heap[b]?)
    (hki : ∀ b, ki'.blk = some b → (∃ ki, K id = some ki ∧ ki.blk = some b) ∨ w.heap.size ≤ b)
    (hcell : ∀ b off, S b off → w'.cell? (ad b off) = w.cell? (ad b off))
    (hsub : ∀ b off, S b off → S' b off)
    (hnew : ∀ b off, S' b off → S b off ∨ (ki'.blk = some b ∧ ∃ l sz n, ki' = .grow l sz n ∧ off < n * sz))
    (hkle : ∀ ki, K id = some ki → kle ki ki')
    (hid : K id = none → n0 ≤ id)
    (hbr : BR (updK K id ki') S' w' bl ki') :
    HRel nG G0 (updK K id ki') S' (updH hp [(id, bl)]) w' ∧ Ext n0 K S w (updK K id ki') S' w' ∧ KLe K (updK K id ki') := by
  have hK : KLe K (updK K id ki') := by
    intro i k hk
    by_cases e : i = id
    · subst e; exact ⟨ki', by simp [updK], hkle k hk⟩
    · exact ⟨k, by simp [updK, e, hk], kle.refl k⟩
  have hkept : Kept S w S' w' := by
    refine ⟨hsub, hcell, fun b hb => ?_⟩
    exact hblk b (h.lt b 0 (hb 0)) fun ki hi => h.whole_apart hb hi
  have hltK : ∀ i ki b, K i = some ki → ki.blk = some b → b < w.heap.size := by
    intro i ki b hi hb
    have hd := h.dom i
    rw [hi] at hd
    obtain ⟨bl', hbl'⟩ := Option.isSome_iff_exists.1 hd.symm
    exact (h.blk i bl' ki hbl' hi).lt hb
  refine ⟨⟨?_, ?_, ?_, ?_, ?_, ?_, ?_, Nat.le_trans h.nG hsz⟩, ⟨hos, htape, hout, hsz, ?_, ?_, hkept, ?_, ?_⟩, hK⟩
  · intro i
    by_cases e : i = id <;> simp [updK, updH, e, h.dom i]
  · intro i b' ki hb' hi
    by_cases e : i = id
    · subst e
      simp [updK] at hi
      simp [updH] at hb'
      subst hi; subst hb'; exact hbr
    · simp [updK, e] at hi
      simp [updH, e] at hb'
      refine (h.blk i b' ki hb' hi).mono hK hkept fun b hb => hblk b (hltK i ki b hi hb) fun k hk hb2 => e (h.inj i id ki k b hi hk hb hb2)
  · intro i j ki kj b hi hj hbi hbj
    by_cases ei : i = id <;> by_cases ej : j = id
    · rw [ei, ej]
    · subst ei
      simp [updK] at hi
      simp [updK, ej] at hj
      subst hi
      rcases hki b hbi with ⟨k, hk, hb⟩ | hge
      · exact (h.inj _ _ _ _ b hk hj hb hbj)
      · have := hltK j kj b hj hbj; omega
    · subst ej
      simp [updK] at hj
      simp [updK, ei] at hi
      subst hj
      rcases hki b hbj with ⟨k, hk, hb⟩ | hge
      · exact (h.inj _ _ _ _ b hi hk hbi hb)
      · have := hltK i ki b hi hbi; omega
    · simp [updK, ei] at hi
      simp [updK, ej] at hj
      exact h.inj i j ki kj b hi hj hbi hbj
  · intro b off hs
    rcases hnew b off hs with h1 | ⟨h1, _⟩
    · exact Nat.lt_of_lt_of_le (h.lt b off h1) hsz
    · exact hbr.lt h1
  · intro b off i ki hs hi hb
    by_cases e : i = id
    · subst e
      simp [updK] at hi
      subst hi
      rcases hnew b off hs with h1 | ⟨_, h2⟩
      · rcases hki b hb with ⟨k, hk, hbk⟩ | hge
        · obtain ⟨l, sz, n, rfl, hlt⟩ := h.apart b off _ k h1 hk hbk
          have hl := hkle _ hk
          cases ki' <;> simp [kle] at hl
          rename_i l' sz' n'
          refine ⟨l', sz', n', rfl, ?_⟩
          obtain ⟨rfl, ⟨rfl, _⟩ | hn⟩ := hl
          · exact hlt
          · exact Nat.lt_of_lt_of_le hlt (Nat.mul_le_mul_right _ (Nat.le_of_lt hn))
        · have := h.lt b off h1; omega
      · exact h2
    · simp [updK, e] at hi
      rcases hnew b off hs with h1 | ⟨h1, _⟩
      · exact h.apart b off i ki h1 hi hb
      · rcases hki b h1 with ⟨k, hk, hbk⟩ | hge
        · exact absurd (h.inj i id ki k b hi hk hb hbk) e
        · have := hltK i ki b hi hb; omega
  · intro i ki b hi hb
    by_cases e : i = id
    · subst e
      simp [updK] at hi
      subst hi
      rcases hki b hb with ⟨k, hk, hbk⟩ | hge
      · exact h.glob _ k b hk hbk
      · exact Nat.le_trans h.nG hge
    · simp [updK, e] at hi
      exact h.glob i ki b hi hb
  · intro b hb
    rw [← h.fix b hb]
    refine hblk b (Nat.lt_of_lt_of_le hb h.nG) fun ki hi hbk => ?_
    have := h.glob id ki b hi hbk
    omega
  · intro b hb hn
    exact hblk b hb fun ki hi => hn id ki hi
  · intro i ki b hi hb
    by_cases e : i = id
    · subst e
      simp [updK] at hi
      subst hi
      rcases hki b hb with ⟨k, hk, hbk⟩ | hge
      · exact .inl ⟨_, k, hk, hbk⟩
      · exact .inr hge
    · simp [updK, e] at hi
      exact .inl ⟨i, ki, hi, hb⟩
  · intro b off hs
    rcases hnew b off hs with h1 | ⟨h1, _⟩
    · exact .inl h1
    · rcases hki b h1 with ⟨k, hk, hbk⟩ | hge
      · exact .inr (.inr ⟨id, k, hk, hbk⟩)
      · exact .inr (.inl hge)
  · intro i ki hi hk
    by_cases e : i = id
    · subst e; exact ⟨ki', by simp [updK], hkle ki hk⟩
    · exact ⟨ki, by simp [updK, e, hk], kle.refl ki⟩
end

section
variable {P : Program} {nG : Nat} {G0 : Nat → Option Obj} {n0 : Nat} {o : Oper} {v : AV} {rd : List Nat} {tm0 : Nat → AV} {hp0 : Nat → Option Blk} {id : Nat} {bl : Blk}

/-- A new block is laid: the object 'ob'. -/
theorem OpSnd.new (hrd : id ∉ rd)
    (h : ∀ n K S tm hp a w, RelF nG G0 n K S tm hp a w → (∀ x ∈ o.op.operands, VR K S w (evA tm0 x) (a.eval x)) → (∀ id ∈ rd, hp id = hp0 id) →
      ∃ u ob ki m, (execOp a.eval o).run P w = .ok (.value u) (w.alloc ob) ∧ ki.blk = some w.heap.size ∧ (m = 0 ∨ ∃ l sz n, ki = .grow l sz n ∧ m ≤ n * sz) ∧
        (KLe K (updK K id ki) → Kept S w (fun b off => S b off ∨ (b = w.heap.size ∧ off < m)) (w.alloc ob) →
          BR (updK K id ki) (fun b off => S b off ∨ (b = w.heap.size ∧ off < m)) (w.alloc ob) bl ki ∧
          VR (updK K id ki) (fun b off => S b off ∨ (b = w.heap.size ∧ off < m)) (w.alloc ob) v u)) :
    OpSnd P nG G0 n0 o v [(id, bl)] rd tm0 hp0 := by
  intro n K S tm hp a w hr hx hh hws next QC hn
  obtain ⟨hid, hn0⟩ : hp id = none ∧ n0 ≤ id := (hws (id, bl) (by simp)).resolve_left hrd
  have hKn := hr.heap.dom_none hid
  obtain ⟨u, ob, ki, m, hrun, hki, hm, hrest⟩ := h n K S tm hp a w hr (fun x hm => hx x hm ▸ hr.ev x) hh
  have hkept : Kept S w (fun b off => S b off ∨ (b = w.heap.size ∧ off < m)) (w.alloc ob) := by
    refine ⟨fun _ _ h => .inl h, fun b off hs => cell_of_heap (heap_alloc_lt w ob b (hr.heap.lt b off hs)), fun b hs => heap_alloc_lt w ob b (hr.heap.lt b 0 (hs 0))⟩
  obtain ⟨hbr, hv⟩ := hrest (KLe.new hKn) hkept
  obtain ⟨h1, h2, h3⟩ := hr.heap.gen (n0 := n0) (w' := w.alloc ob) (id := id) (ki' := ki) (bl := bl) (S' := fun b off => S b off ∨ (b = w.heap.size ∧ off < m)) rfl rfl rfl (by simp)
    (fun b hb _ => heap_alloc_lt w ob b hb) (fun b hb => by rw [hki] at hb; cases hb; exact .inr (Nat.le_refl _))
    (fun b off hs => cell_of_heap (heap_alloc_lt w ob b (hr.heap.lt b off hs))) (fun _ _ h => .inl h)
    (fun b off hs => by
      rcases hs with hs | ⟨rfl, hlt⟩
      · exact .inl hs
      · rcases hm with rfl | ⟨l, sz, n, rfl, hle⟩
        · omega
        · exact .inr ⟨hki, l, sz, n, rfl, by omega⟩)
    (fun ki hk => by rw [hKn] at hk; cases hk) (fun _ => hn0) hbr
  unfold Oper.wp
  rw [hrun, Oper.upon_value]
  exact hn u _ _ _ hv h1 h2 h3

/-- A block that is not appended to turns in place. -/
theorem OpSnd.set (hrd : id ∈ rd)
    (h : ∀ n K S tm hp a w, RelF nG G0 n K S tm hp a w → (∀ x ∈ o.op.operands, VR K S w (evA tm0 x) (a.eval x)) → (∀ id ∈ rd, hp id = hp0 id) →
      ∃ u w' ki b, ((execOp a.eval o).run P w = .ok (.value u) w' ∨ ((execOp a.eval o).run P w = .ok .skip w' ∧ u = undef)) ∧ K id = some ki ∧ ki.blk = some b ∧ (∀ l sz n, ki ≠ .grow l sz n) ∧
        w'.os = w.os ∧ w'.tape = w.tape ∧ w'.output = w.output ∧ w'.heap.size = w.heap.size ∧ (∀ b', b' ≠ b → w'.heap[b']? = w.heap[b']?) ∧
        (Kept S w S w' → BR K S w' bl ki ∧ VR K S w' v u)) :
    OpSnd P nG G0 n0 o v [(id, bl)] rd tm0 hp0 := by
  intro n K S tm hp a w hr hx hh hws next QC hn
  obtain ⟨u, w', ki, b, hrun, hK, hb, hng, e1, e2, e3, e4, e5, hrest⟩ := h n K S tm hp a w hr (fun x hm => hx x hm ▸ hr.ev x) hh
  have hne : ∀ b' off, S b' off → b' ≠ b := by
    rintro b' off hs rfl
    obtain ⟨l, sz, n, rfl, _⟩ := hr.heap.apart b' off id ki hs hK hb
    exact hng _ _ _ rfl
  have hkept : Kept S w S w' := ⟨fun _ _ h => h, fun b' off hs => cell_of_heap (e5 b' (hne b' off hs)), fun b' hs => e5 b' (hne b' 0 (hs 0))⟩
  obtain ⟨hbr, hv⟩ := hrest hkept
  have hupd : updK K id ki = K := by
    funext i
    by_cases e : i = id
    · subst e; simp [updK, hK]
    · simp [updK, e]
  obtain ⟨h1, h2, h3⟩ := hr.heap.gen (n0 := n0) (w' := w') (id := id) (ki' := ki) (bl := bl) (S' := S) e1 e2 e3 (by omega)
    (fun b' _ hn' => e5 b' fun e => hn' ki hK (e ▸ hb)) (fun b' hb' => .inl ⟨ki, hK, hb'⟩)
    (fun b' off hs => cell_of_heap (e5 b' (hne b' off hs))) (fun _ _ h => h) (fun _ _ h => .inl h)
    (fun k hk => by rw [hK] at hk; cases hk; exact kle.refl _) (fun hk => by rw [hK] at hk; cases hk) (by rw [hupd]; exact hbr)
  rw [hupd] at h1 h2 h3
  unfold Oper.wp
  rcases hrun with hrun | ⟨hrun, rfl⟩
  · rw [hrun, Oper.upon_value]
    exact hn u _ _ _ hv h1 h2 h3
  · rw [hrun, Oper.upon_skip]
    exact hn _ _ _ _ hv h1 h2 h3
end
end Go.Ab

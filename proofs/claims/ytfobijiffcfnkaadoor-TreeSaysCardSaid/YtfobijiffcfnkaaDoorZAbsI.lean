/- The step of a region, what it is that a rest of a function's code ends well; no condition. -/
import Derived.Test.YtfobijiffcfnkaaDoorZAbsH
namespace Go.Ab

structure FAnn where
  calls : List (Nat × Nat × Ann)
  loops : List (Nat × List Nat × List Nat)
  out : Option (List Nat)

def FAnn.call (an : FAnn) (rid i : Nat) : Option Ann := go an.calls
  where go : List (Nat × Nat × Ann) → Option Ann
  | [] => none
  | (r, j, a) :: l => bif r == rid && j == i then some a else go l

def FAnn.loop (an : FAnn) (id : Nat) : List Nat × List Nat := go an.loops
  where go : List (Nat × List Nat × List Nat) → List Nat × List Nat
  | [] => ([], [])
  | (r, a) :: l => bif r == id then a else go l

section
variable (P : Program) (tab : Tab) (nG : Nat) (G0 : Nat → Option Obj)

def putK (tm : List AV) (d : Option Tmp) (v : AV) (k : List AV → Prop) : Prop :=
  match d with
  | none => k tm
  | some d => setK tm d v k

/-- One operation, and then. -/
def oneK (tm : List AV) (hp : List (Option Blk)) (o : Oper) (ann : Option Ann) (k : List AV → List (Option Blk) → Prop) : Prop :=
  opK P tab nG G0 tm hp o ann fun v ws _ => putK tm o.dst v fun tm' => writeK ws hp fun hp' => k tm' hp'

/-- All keys are numbers, all values texts. -/
def mapIS (es : List (AV × AV)) : Prop := ∀ (i : Nat) (p : AV × AV), es[i]? = some p → ∃ (n : Int) (s : List UInt8), p = (.int .i64 n, .str s)

/-- A step of a walk over a map; else what else. -/
def nextK (tm : List AV) (hp : List (Option Blk)) (o : Oper) (els : Prop) (k : List AV → List (Option Blk) → Prop) : Prop :=
  match o.op with
  | .next x false =>
    match tmF tm (match x with | .tmp t => t | _ => tm.length) with
    | .iter id =>
      match hpF hp id with
      | some (.iter es _) =>
        mapIS es ∧ (es = [] → putK tm o.dst (.tup [.bool false]) fun tm' => k tm' hp) ∧
          (∀ (i : Nat) (n : Int) (s : List UInt8), es[i]? = some (.int .i64 n, .str s) → putK tm o.dst (.tup [.bool true, .int .i64 n, .str s]) fun tm' => hputK hp id (.iter (es.eraseIdx i) (some (.int .i64 n, .str s))) fun hp' => k tm' hp')
      | _ => False
    | _ => False
  | _ => els

def opsK (an : FAnn) (rid : Nat) (all : List Oper) : List Oper → Nat → List AV → List (Option Blk) → (List AV → List (Option Blk) → Prop) → Prop
  | [], _, tm, hp, k => k tm hp
  | o :: r, i, tm, hp, k =>
    match o.guard with
    | none => nextK tm hp o (oneK P tab nG G0 tm hp o (an.call rid i) fun tm' hp' => opsK an rid all r (i + 1) tm' hp' k) fun tm' hp' => opsK an rid all r (i + 1) tm' hp' k
    | some (j, b) =>
      match (all[j]?).bind (·.dst) with
      | none => False
      | some d =>
        match tmF tm d with
        | .bool c =>
          ifK c
            (setK tm d (.bool true) fun tm1 =>
              match b with
              | true => oneK P tab nG G0 tm1 hp o (an.call rid i) fun tm' hp' => opsK an rid all r (i + 1) tm' hp' k
              | false => putK tm1 o.dst (.tup []) fun tm' => opsK an rid all r (i + 1) tm' hp k)
            (setK tm d (.bool false) fun tm1 =>
              match b with
              | false => oneK P tab nG G0 tm1 hp o (an.call rid i) fun tm' hp' => opsK an rid all r (i + 1) tm' hp' k
              | true => putK tm1 o.dst (.tup []) fun tm' => opsK an rid all r (i + 1) tm' hp k)
        | _ => False
end

def putL (tm : List AV) (d : Option Tmp) (v : AV) : List AV :=
  match d with
  | none => tm
  | some d => tm.set d v

theorem putK_eq (tm : List AV) (d : Option Tmp) (v : AV) (k : List AV → Prop) : putK tm d v k = k (putL tm d v) := by
  cases d <;> simp only [putK, putL, setK_eq]

theorem putL_len (tm : List AV) (d : Option Tmp) (v : AV) : (putL tm d v).length = tm.length := by cases d <;> simp [putL]

theorem putL_get (tm : List AV) (d : Option Tmp) (v : AV) : tmF (putL tm d v) = upd tm.length (tmF tm) d v := by
  funext t
  cases d with
  | none => rfl
  | some d =>
    simp only [tmF, putL, upd, List.getD_eq_getElem?_getD, List.getElem?_set]
    by_cases h : d = t
    · subst h
      by_cases h2 : d < tm.length
      · simp [h2]
      · simp [h2]
    · have : ¬ t = d := fun e => h e.symm
      simp [h, this]

section
variable {P : Program} {tab : Tab} {nG : Nat} {G0 : Nat → Option Obj} {n : Nat} {K K' : KM} {S S' : Stb} {tm : Nat → AV} {hp hp' : Nat → Option Blk} {a : Act} {w w' : World}

theorem RelF.put (h : RelF nG G0 n K S tm hp a w) (hk : KLe K K') (he : Kept S w S' w') {v : AV} {u : Value} (hv : VR K' S' w' v u) (hh : HRel nG G0 K' S' hp' w') (d : Option Tmp) :
    RelF nG G0 n K' S' (upd n tm d v) hp' (a.put d u) w' := by
  refine ⟨?_, ?_, fun t => ?_, hh⟩
  · cases d <;> exact h.defers
  · cases d <;> simp [Act.put, h.size]
  · have ht := (h.tmp t).mono hk he
    cases d with
    | none => exact ht
    | some d =>
      simp only [upd, Act.put]
      split
      · rename_i hc
        obtain ⟨rfl, hlt⟩ := hc
        have : t < a.tmps.size := by rw [h.size]; exact hlt
        simpa [Array.getD_eq_getD_getElem?, this] using hv
      · rename_i hc
        have : (a.tmps.setIfInBounds d u).getD t undef = a.tmps.getD t undef := by
          simp only [Array.getD_eq_getD_getElem?, Array.getElem?_setIfInBounds]
          by_cases hd : d = t
          · subst hd
            have : ¬ d < n := fun hlt => hc ⟨rfl, hlt⟩
            have : ¬ d < a.tmps.size := by rw [h.size]; exact this
            simp [this]
          · simp [hd]
        rw [this]; exact ht
end

/-- The rest of a function's code comes to its return. -/
def Ends (P : Program) (its : List Item) (Q : Act → World → Prop) (a : Act) (w : World) : Prop :=
  ∀ (b : Frame) (cs : List Frame), ∃ a' w' todo, Q a' w' ∧ Steps P (lone (b.at a its) cs w) (lone { b.at a' todo with mode := .returning } cs w')

section
variable {P : Program} {its its' : List Item} {Q Q' : Act → World → Prop} {a a' : Act} {w w' : World}

theorem Ends.mono (h : Ends P its Q a w) (hq : ∀ a w, Q a w → Q' a w) : Ends P its Q' a w := fun b cs => let ⟨a', w', t, q, s⟩ := h b cs; ⟨a', w', t, hq _ _ q, s⟩

theorem Ends.step (hs : ∀ (b : Frame) (cs : List Frame), Go.step P (lone (b.at a its) cs w) = .next (lone (b.at a' its') cs w')) (h : Ends P its' Q a' w') : Ends P its Q a w :=
  fun b cs => let ⟨a', w', t, q, s⟩ := h b cs; ⟨a', w', t, q, .head (hs b cs) s⟩

theorem Ends.nil (h : Q a w) : Ends P [] Q a w := fun _ _ => ⟨a, w, [], h, .one step_end⟩
theorem Ends.ret {k : List Item} (h : Q a w) : Ends P (.code .ret :: k) Q a w := fun _ _ => ⟨a, w, _, h, .one step_ret⟩

theorem Ends.code {c : Code} {k : List Item} (h : c.wp P (fun e a w => e = .normal ∧ Ends P k Q a w) a w) : Ends P (.code c :: k) Q a w := by
  intro b cs
  obtain ⟨e, a', w', ⟨rfl, hq⟩, harr⟩ := h b k cs
  obtain ⟨a2, w2, t, q, s⟩ := hq b cs
  exact ⟨a2, w2, t, q, Steps.trans harr s⟩
end

section
variable {P : Program} {tab : Tab} {nG : Nat} {G0 : Nat → Option Obj} {an : FAnn} {n0 : Nat}

theorem tmF_setBool {tm : List AV} {d : Nat} {c : Bool} (h : tmF tm d = .bool c) : tmF (tm.set d (.bool c)) = tmF tm := by
  funext t
  simp only [tmF, List.getD_eq_getElem?_getD, List.getElem?_set] at h ⊢
  split
  · rename_i e
    subst e
    split
    · rw [← h]; simp
    · rename_i hlt
      simp [List.getElem?_eq_none (Nat.le_of_not_lt hlt)]
  · rfl

theorem yielded_of {ops : Array Oper} {a : Act} {j d n : Nat} {c : Bool} {K : KM} {S : Stb} {tm : Nat → AV} {hp : Nat → Option Blk} {w : World} (h : RelF nG G0 n K S tm hp a w)
    (hd : (ops.toList[j]?).bind (·.dst) = some d) (hc : tm d = .bool c) : yielded ops a.tmps j = some c := by
  have hv := h.tmp d
  rw [hc] at hv
  have hv : a.tmps.getD d undef = .bool c := VR_bool hv
  have hlt : d < a.tmps.size := by
    rcases Nat.lt_or_ge d a.tmps.size with h | h
    · exact h
    · rw [Array.getD_eq_getD_getElem?, Array.getElem?_eq_none h] at hv
      simp [undef] at hv
  have h2 : a.tmps[d]? = some (.bool c) := by
    rw [Array.getElem?_eq_getElem hlt]
    rw [Array.getD_eq_getD_getElem?, Array.getElem?_eq_getElem hlt] at hv
    simpa using hv
  have hd' : (ops[j]?).bind (·.dst) = some d := by simpa using hd
  unfold yielded
  rw [hd']
  simp [h2]

theorem oneK_snd (hP : ProgOk P tab) {tm : List AV} {hp : List (Option Blk)} {o : Oper} {ann : Option Ann} {k : List AV → List (Option Blk) → Prop} (h : oneK P tab nG G0 tm hp o ann k)
    {K : KM} {S : Stb} {a : Act} {w : World} (hr : RelF nG G0 tm.length K S (tmF tm) (hpF hp) a w) (hn0 : n0 ≤ hp.length) {next : Act → World → Prop} {QC : Exit → Act → World → Prop}
    (hn : ∀ tm' hp' a' w' K' S', k tm' hp' → tm'.length = tm.length → hp.length ≤ hp'.length → RelF nG G0 tm'.length K' S' (tmF tm') (hpF hp') a' w' → Ext n0 K S w K' S' w' → next a' w') :
    o.wp P a w next QC := by
  unfold oneK at h
  simp only [putK_eq, writeK_eq] at h
  obtain ⟨v, ws, rd, hs, hws, hk⟩ := opK_snd hP h
  refine hs n0 tm.length K S (tmF tm) (hpF hp) a w hr (fun _ _ => rfl) (fun _ _ => rfl) ?_ next QC fun u w' K' S' hv hh he hkl => ?_
  · intro p hp'
    have := List.all_eq_true.1 hws p hp'
    simp only [Bool.or_eq_true, List.elem_eq_mem, decide_eq_true_eq] at this
    rcases this with h | h
    · exact .inl h
    · refine .inr ⟨?_, Nat.le_trans hn0 h⟩
      simp [hpF, List.getElem?_eq_none h]
  · refine hn _ _ _ w' K' S' hk (putL_len _ _ _) (write_len _ _) ?_ he
    rw [putL_len, putL_get, write_get]
    exact hr.put hkl he.kept hv hh o.dst

theorem nextK_snd {tm : List AV} {hp : List (Option Blk)} {o : Oper} {els : Prop} {k : List AV → List (Option Blk) → Prop} (h : nextK tm hp o els k) {next : Act → World → Prop} {QC : Exit → Act → World → Prop}
    {K : KM} {S : Stb} {a : Act} {w : World} (hr : RelF nG G0 tm.length K S (tmF tm) (hpF hp) a w) (hels : els → o.wp P a w next QC)
    (hn : ∀ tm' hp' a' w' K' S', k tm' hp' → tm'.length = tm.length → hp.length ≤ hp'.length → RelF nG G0 tm'.length K' S' (tmF tm') (hpF hp') a' w' → Ext n0 K S w K' S' w' → next a' w') :
    o.wp P a w next QC := by
  unfold nextK at h
  split at h
  · rename_i x ho
    split at h
    · rename_i id hx
      split at h
      · rename_i es cur hb
        obtain ⟨h1, h2, h3⟩ := h
        simp only [putK_eq, hputK_eq] at h2 h3
        have hxe : evA (tmF tm) x = .iter id := by
          cases x with
          | tmp t => exact hx
          | const v => simp [tmF] at hx
          | global g => simp [tmF] at hx
          | func f => simp [tmF] at hx
        refine wp_next (n0 := n0) ho hr hxe hb (fun he u hu => ?_) (fun i p hp' u w' K' S' hu hh hxt hkl => ?_)
        · refine hn _ hp _ w K S (h2 he) (putL_len _ _ _) (Nat.le_refl _) ?_ (Ext.refl _ _ _ _)
          rw [putL_len, putL_get]
          exact hr.put (KLe.refl K) (Kept.refl S w) hu hr.heap o.dst
        · obtain ⟨n, s, rfl⟩ := h1 i p hp'
          refine hn _ _ _ w' K' S' (h3 i n s hp') (putL_len _ _ _) (hput_len _ _ _) ?_ hxt
          rw [putL_len, putL_get]
          refine hr.put hkl hxt.kept hu ?_ o.dst
          have : hpF (hput hp id (.iter (es.eraseIdx i) (some (.int .i64 n, .str s)))) = updH (hpF hp) [(id, .iter (es.eraseIdx i) (some (.int .i64 n, .str s)))] := by
            funext j; exact hput_get hp id _ j
          rw [this]; exact hh
      · exact h.elim
    · exact h.elim
  · exact hels h

theorem opsK_snd (hP : ProgOk P tab) {rid : Nat} {ops : Array Oper} {Q : Exit → Act → World → Prop} : ∀ (r : List Oper) (i : Nat) (tm : List AV) (hp : List (Option Blk)) (k : List AV → List (Option Blk) → Prop),
    opsK P tab nG G0 an rid ops.toList r i tm hp k → ops.toList.drop i = r → n0 ≤ hp.length →
    ∀ (K : KM) (S : Stb) (a : Act) (w : World), RelF nG G0 tm.length K S (tmF tm) (hpF hp) a w →
      (∀ tm' hp' a' w' K' S', k tm' hp' → tm'.length = tm.length → n0 ≤ hp'.length → RelF nG G0 tm'.length K' S' (tmF tm') (hpF hp') a' w' → Ext n0 K S w K' S' w' → Q .normal a' w') →
      wpOps P ops Q (List.range' i r.length) a w
  | [], i, tm, hp, k, h, _, hn0, K, S, a, w, hr, hq => by
    simp only [List.length_nil, List.range'_zero, wpOps]
    exact hq tm hp a w K S h rfl hn0 hr (Ext.refl _ _ _ _)
  | o :: r, i, tm, hp, k, h, hd, hn0, K, S, a, w, hr, hq => by
    have ho : ops.toList[i]? = some o := by
      have h1 : (ops.toList.drop i)[0]? = some o := by rw [hd]; rfl
      simpa using h1
    have ho' : ops[i]? = some o := by simpa using ho
    have hd' : ops.toList.drop (i + 1) = r := by
      have : ops.toList.drop (i + 1) = (ops.toList.drop i).tail := by simp
      rw [this, hd]; rfl
    rw [List.length_cons, List.range'_succ]
    simp only [wpOps, ho']
    have exec : ∀ (tm1 : List AV), tm1.length = tm.length → tmF tm1 = tmF tm → (oneK P tab nG G0 tm1 hp o (an.call rid i) fun tm' hp' => opsK P tab nG G0 an rid ops.toList r (i + 1) tm' hp' k) →
        o.wp P a w (wpOps P ops Q (List.range' (i + 1) r.length)) Q := by
      intro tm1 hl he hone
      refine oneK_snd hP hone (n0 := n0) (K := K) (S := S) (by rw [hl, he]; exact hr) hn0 fun tm' hp' a' w' K' S' hk hl' hh' hr' hx => ?_
      refine opsK_snd hP r (i + 1) tm' hp' k hk hd' (Nat.le_trans hn0 hh') K' S' a' w' hr' fun tm2 hp2 a2 w2 K2 S2 hk2 hl2 hn2 hr2 hx2 => ?_
      exact hq tm2 hp2 a2 w2 K2 S2 hk2 (by rw [hl2, hl', hl]) hn2 hr2 (hx.trans hx2)
    have skip : ∀ (tm1 : List AV), tm1.length = tm.length → tmF tm1 = tmF tm → opsK P tab nG G0 an rid ops.toList r (i + 1) (putL tm1 o.dst (.tup [])) hp k →
        wpOps P ops Q (List.range' (i + 1) r.length) (a.put o.dst undef) w := by
      intro tm1 hl he hsk
      refine opsK_snd hP r (i + 1) _ hp k hsk hd' hn0 K S _ w ?_ fun tm2 hp2 a2 w2 K2 S2 hk2 hl2 hn2 hr2 hx2 => ?_
      · rw [putL_len, putL_get, hl, he]
        refine hr.put (KLe.refl K) (Kept.refl S w) ?_ hr.heap o.dst
        exact ⟨#[], rfl, rfl, fun j y v hy => by simp at hy⟩
      · exact hq tm2 hp2 a2 w2 K2 S2 hk2 (by rw [hl2, putL_len, hl]) hn2 hr2 hx2
    unfold opsK at h
    split at h
    · rename_i hg
      have hw : Region.wanted o (yielded ops a.tmps) = true := by simp [Region.wanted, hg]
      rw [if_pos hw]
      refine .inl (nextK_snd (n0 := n0) h hr (fun h => exec tm rfl rfl h) fun tm' hp' a' w' K' S' hk hl' hh' hr' hx => ?_)
      refine opsK_snd hP r (i + 1) tm' hp' k hk hd' (Nat.le_trans hn0 hh') K' S' a' w' hr' fun tm2 hp2 a2 w2 K2 S2 hk2 hl2 hn2 hr2 hx2 => ?_
      exact hq tm2 hp2 a2 w2 K2 S2 hk2 (by rw [hl2, hl']) hn2 hr2 (hx.trans hx2)
    · rename_i j b hg
      split at h
      · exact h.elim
      rename_i d hjd
      split at h
      · rename_i c hc
        have hy := yielded_of hr hjd hc
        rw [ifK_iff] at h
        simp only [setK_eq, putK_eq] at h
        have hwant : Region.wanted o (yielded ops a.tmps) = (c == b) := by
          simp only [Region.wanted, hg, hy]
          cases c <;> cases b <;> rfl
        cases c with
        | true =>
          have h1 := h.1 rfl
          have hl : (tm.set d (.bool true)).length = tm.length := by simp
          have he := tmF_setBool hc
          cases b with
          | true => rw [if_pos (by rw [hwant]; rfl)]; exact .inl (exec _ hl he h1)
          | false => rw [if_neg (by rw [hwant]; simp)]; exact skip _ hl he h1
        | false =>
          have h1 := h.2 rfl
          have hl : (tm.set d (.bool false)).length = tm.length := by simp
          have he := tmF_setBool hc
          cases b with
          | false => rw [if_pos (by rw [hwant]; rfl)]; exact .inl (exec _ hl he h1)
          | true => rw [if_neg (by rw [hwant]; simp)]; exact skip _ hl he h1
      · exact h.elim
end
end Go.Ab

/- Regions whose order is drawn, the executor's part; no condition. -/
import Derived.Test.YtfobijiffcfnkaaDoorZAbsN
namespace Go.Ab

def opSlots (o : Oper) : List Nat := o.op.operands.toList.filterMap fun | .tmp t => some t | _ => none

def slots (all : List Oper) (o : Oper) : List Nat :=
  opSlots o ++ (match o.guard with
    | some (j, _) => (match (all[j]?).bind (·.dst) with | some d => [d] | none => [])
    | none => [])

def dstOk (n : Nat) (d : Option Nat) : Bool :=
  match d with
  | some d => Nat.blt d n
  | none => true

section
variable (P : Program) (tab : Tab) (nG : Nat) (G0 : Nat → Option Obj)

def stepK (all : List Oper) (o : Oper) (ann : Option Ann) (tm : List AV) (hp : List (Option Blk)) (k : List AV → List (Option Blk) → Foot → Prop) : Prop :=
  opK P tab nG G0 tm hp o ann fun v ws rd => bif dstOk tm.length o.dst then putK tm o.dst v fun tm' => writeK ws hp fun hp' => k tm' hp' ⟨o.dst, slots all o, ws.map (·.1), rd⟩ else False

def skipK (all : List Oper) (o : Oper) (tm : List AV) (hp : List (Option Blk)) (k : List AV → List (Option Blk) → Foot → Prop) : Prop :=
  bif dstOk tm.length o.dst then putK tm o.dst (.tup []) fun tm' => k tm' hp ⟨o.dst, slots all o, [], []⟩ else False

def trK (an : FAnn) (rid : Nat) (all : List Oper) : List Oper → Nat → List AV → List (Option Blk) → (List AV → List (Option Blk) → List Foot → Prop) → Prop
  | [], _, tm, hp, k => k tm hp []
  | o :: r, i, tm, hp, k =>
    match o.guard with
    | none => stepK P tab nG G0 all o (an.call rid i) tm hp fun tm' hp' f => trK an rid all r (i + 1) tm' hp' fun tm hp T => k tm hp (f :: T)
    | some (j, b) =>
      match (all[j]?).bind (·.dst) with
      | none => False
      | some d =>
        match tmF tm d with
        | .bool c =>
          ifK c
            (setK tm d (.bool true) fun tm1 =>
              match b with
              | true => stepK P tab nG G0 all o (an.call rid i) tm1 hp fun tm' hp' f => trK an rid all r (i + 1) tm' hp' fun tm hp T => k tm hp (f :: T)
              | false => skipK all o tm1 hp fun tm' hp' f => trK an rid all r (i + 1) tm' hp' fun tm hp T => k tm hp (f :: T))
            (setK tm d (.bool false) fun tm1 =>
              match b with
              | false => stepK P tab nG G0 all o (an.call rid i) tm1 hp fun tm' hp' f => trK an rid all r (i + 1) tm' hp' fun tm hp T => k tm hp (f :: T)
              | true => skipK all o tm1 hp fun tm' hp' f => trK an rid all r (i + 1) tm' hp' fun tm hp T => k tm hp (f :: T))
        | _ => False
end

structure TStep where
  foot : Foot
  val : AV
  ws : List (Nat × Blk)
  exec : Bool
  tm : List AV
  hp : List (Option Blk)

def guardIs (all : List Oper) (o : Oper) (tm : Nat → AV) (want : Bool) : Prop :=
  match o.guard with
  | none => want = true
  | some (j, b) => ∃ d c, (all[j]?).bind (·.dst) = some d ∧ tm d = .bool c ∧ (c == b) = want

structure TFact (P : Program) (nG : Nat) (G0 : Nat → Option Obj) (all : List Oper) (n h0 : Nat) (o : Oper) (s : TStep) : Prop where
  dst : s.foot.dst = o.dst
  ops : s.foot.ops = slots all o
  ws : s.foot.ws = s.ws.map (·.1)
  guard : guardIs all o (tmF s.tm) s.exec
  snd : s.exec = true → Snd P nG G0 o s.tm s.hp s.val s.ws s.foot.rd
  skip : s.exec = false → s.val = .tup [] ∧ s.ws = []
  fresh : ∀ p ∈ s.ws, p.1 ∈ s.foot.rd ∨ s.hp.length ≤ p.1
  small : dstOk n o.dst = true
  hlen : h0 ≤ s.hp.length

def gT (s : TStep) : Nat → Option AV := fun t => if s.foot.dst = some t then some s.val else none
def gH (s : TStep) : Nat → Option (Option Blk) := fun id => if id ∈ s.foot.ws then some (updH (fun _ => none) s.ws id) else none

theorem updH_eq : ∀ (ws : List (Nat × Blk)) (f : Nat → Option Blk) (id : Nat), updH f ws id = if id ∈ ws.map (·.1) then updH (fun _ => none) ws id else f id
  | [], _, _ => by simp [updH]
  | (i, b) :: r, f, id => by
    simp only [updH, List.map_cons, List.mem_cons]
    rw [updH_eq r, updH_eq r (fun i_1 => if i_1 = i then some b else none)]
    by_cases h1 : id ∈ r.map (·.1)
    · simp [h1]
    · by_cases h2 : id = i
      · simp [h2]
      · simp [h1, h2]

section
variable {P : Program} {tab : Tab} {nG : Nat} {G0 : Nat → Option Obj} {all : List Oper}

/-- The trace of a region, in the text's order. -/
inductive Tr (P : Program) (nG : Nat) (G0 : Nat → Option Obj) (all : List Oper) (n h0 : Nat) : List Oper → (Nat → AV) → (Nat → Option Blk) → List TStep → List AV → List (Option Blk) → Prop
  | nil (tm : List AV) (hp : List (Option Blk)) : Tr P nG G0 all n h0 [] (tmF tm) (hpF hp) [] tm hp
  | cons {o : Oper} {r : List Oper} {s : TStep} {ss : List TStep} {tm0 : Nat → AV} {hp0 : Nat → Option Blk} {tm' : List AV} {hp' : List (Option Blk)} (ht : tmF s.tm = tm0) (hh : hpF s.hp = hp0) (hf : TFact P nG G0 all n h0 o s)
      (h : Tr P nG G0 all n h0 r (upd n tm0 o.dst s.val) (updH hp0 s.ws) ss tm' hp') : Tr P nG G0 all n h0 (o :: r) tm0 hp0 (s :: ss) tm' hp'

theorem gT_upd {n : Nat} {o : Oper} {s : TStep} {h0 : Nat} (hf : TFact P nG G0 all n h0 o s) (f : Nat → AV) : (fun x => (gT s x).getD (f x)) = upd n f o.dst s.val := by
  funext x
  simp only [gT, hf.dst]
  have hs := hf.small
  cases hd : o.dst with
  | none => simp [upd]
  | some d =>
    rw [hd] at hs
    have hs : d < n := by simpa [dstOk] using hs
    simp only [upd, Option.some.injEq]
    by_cases h : d = x
    · subst h; simp [hs]
    · have : ¬ x = d := fun e => h e.symm
      simp [h, this]

theorem gH_upd {n : Nat} {o : Oper} {s : TStep} {h0 : Nat} (hf : TFact P nG G0 all n h0 o s) (f : Nat → Option Blk) : (fun x => (gH s x).getD (f x)) = updH f s.ws := by
  funext x
  rw [updH_eq]
  simp only [gH, hf.ws]
  split <;> simp

theorem fld_lt_base {X V : Type} (T : List (X → Option V)) (i : Nat) (f : X → V) : fld (fun j => decide (j < i + 0)) T i f = f := by
  funext x
  exact fld_base T i f fun j g _ hd => by simp at hd; omega

theorem Tr.get {n h0 : Nat} {l : List Oper} {tm0 : Nat → AV} {hp0 : Nat → Option Blk} {ss : List TStep} {tm' : List AV} {hp' : List (Option Blk)} (h : Tr P nG G0 all n h0 l tm0 hp0 ss tm' hp') :
    l.length = ss.length ∧ ∀ (i0 : Nat), (∀ (i : Nat) (o : Oper) (s : TStep), l[i]? = some o → ss[i]? = some s → TFact P nG G0 all n h0 o s ∧ tmF s.tm = fld (fun j => decide (j < i0 + i)) (ss.map gT) i0 tm0 ∧ hpF s.hp = fld (fun j => decide (j < i0 + i)) (ss.map gH) i0 hp0) ∧
      tmF tm' = fld (fun _ => true) (ss.map gT) i0 tm0 ∧ hpF hp' = fld (fun _ => true) (ss.map gH) i0 hp0 := by
  induction h with
  | nil tm hp => exact ⟨rfl, fun i0 => ⟨fun i o s h => by simp at h, rfl, rfl⟩⟩
  | @cons o r s ss tm0 hp0 tm' hp' ht hh hf h ih =>
    refine ⟨by simp [ih.1], fun i0 => ⟨fun i o' s' ho hs => ?_, ?_, ?_⟩⟩
    · cases i with
      | zero =>
        simp at ho hs
        subst ho; subst hs
        exact ⟨hf, by rw [fld_lt_base]; exact ht, by rw [fld_lt_base]; exact hh⟩
      | succ i =>
        obtain ⟨g1, g2, g3⟩ := (ih.2 (i0 + 1)).1 i o' s' (by simpa using ho) (by simpa using hs)
        have hD : (fun j => decide (j < i0 + (i + 1))) = fun j => decide (j < i0 + 1 + i) := by funext j; congr 1; simp only [eq_iff_iff]; omega
        refine ⟨g1, ?_, ?_⟩
        · rw [g2, List.map_cons, fld, hD, if_pos (by simp), gT_upd hf]
        · rw [g3, List.map_cons, fld, hD, if_pos (by simp), gH_upd hf]
    · rw [(ih.2 (i0 + 1)).2.1, List.map_cons, fld, if_pos rfl, gT_upd hf]
    · rw [(ih.2 (i0 + 1)).2.2, List.map_cons, fld, if_pos rfl, gH_upd hf]

theorem trK_snd (hP : ProgOk P tab) {an : FAnn} {rid : Nat} {n h0 : Nat} : ∀ (r : List Oper) (i : Nat) (tm : List AV) (hp : List (Option Blk)) (k : List AV → List (Option Blk) → List Foot → Prop),
    trK P tab nG G0 an rid all r i tm hp k → tm.length = n → h0 ≤ hp.length → ∃ ss tm' hp', Tr P nG G0 all n h0 r (tmF tm) (hpF hp) ss tm' hp' ∧ k tm' hp' (ss.map (·.foot)) ∧ tm'.length = n ∧ h0 ≤ hp'.length
  | [], i, tm, hp, k, h, hn, hh => ⟨[], tm, hp, .nil tm hp, h, hn, hh⟩
  | o :: r, i, tm, hp, k, h, hn, hh => by
    have exec : ∀ (tm1 : List AV), tm1.length = tm.length → tmF tm1 = tmF tm → guardIs all o (tmF tm) true →
        (stepK P tab nG G0 all o (an.call rid i) tm1 hp fun tm' hp' f => trK P tab nG G0 an rid all r (i + 1) tm' hp' fun tm hp T => k tm hp (f :: T)) →
        ∃ ss tm' hp', Tr P nG G0 all n h0 (o :: r) (tmF tm) (hpF hp) ss tm' hp' ∧ k tm' hp' (ss.map (·.foot)) ∧ tm'.length = n ∧ h0 ≤ hp'.length := by
      intro tm1 hl he hg hs
      unfold stepK at hs
      simp only [putK_eq, writeK_eq, condF] at hs
      obtain ⟨v, ws, rd, h1, h2, h3, h4⟩ := opK_snd hP hs
      obtain ⟨ss, tm', hp', g1, g2, g3⟩ := trK_snd hP r (i + 1) _ _ _ h4 (by rw [putL_len, hl, hn]) (Nat.le_trans hh (write_len _ _))
      rw [putL_get, write_get, hl, hn, he] at g1
      refine ⟨⟨⟨o.dst, slots all o, ws.map (fun p : Nat × Blk => p.1), rd⟩, v, ws, true, tm1, hp⟩ :: ss, tm', hp', .cons he rfl ⟨rfl, rfl, rfl, by rw [he]; exact hg, fun _ => h1, fun e => (by cases e), fun p hp' => ?_, by rw [hl, hn] at h3; exact h3, hh⟩ g1, g2, g3⟩
      have := List.all_eq_true.1 h2 p hp'
      simpa using this
    have skip : ∀ (tm1 : List AV), tm1.length = tm.length → tmF tm1 = tmF tm → guardIs all o (tmF tm) false →
        (skipK all o tm1 hp fun tm' hp' f => trK P tab nG G0 an rid all r (i + 1) tm' hp' fun tm hp T => k tm hp (f :: T)) →
        ∃ ss tm' hp', Tr P nG G0 all n h0 (o :: r) (tmF tm) (hpF hp) ss tm' hp' ∧ k tm' hp' (ss.map (·.foot)) ∧ tm'.length = n ∧ h0 ≤ hp'.length := by
      intro tm1 hl he hg hs
      unfold skipK at hs
      simp only [putK_eq, condF] at hs
      obtain ⟨h3, h4⟩ := hs
      obtain ⟨ss, tm', hp', g1, g2, g3⟩ := trK_snd hP r (i + 1) _ _ _ h4 (by rw [putL_len, hl, hn]) hh
      rw [putL_get, hl, hn, he] at g1
      exact ⟨⟨⟨o.dst, slots all o, [], []⟩, .tup [], [], false, tm1, hp⟩ :: ss, tm', hp', .cons he rfl ⟨rfl, rfl, rfl, by rw [he]; exact hg, fun e => (by cases e), fun _ => ⟨rfl, rfl⟩, fun p hp' => (by cases hp'), by rw [hl, hn] at h3; exact h3, hh⟩ g1, g2, g3⟩
    unfold trK at h
    split at h
    · rename_i hg
      exact exec tm rfl rfl (by simp [guardIs, hg]) h
    · rename_i j b hg
      split at h
      · exact h.elim
      rename_i d hjd
      split at h
      · rename_i c hc
        rw [ifK_iff] at h
        simp only [setK_eq] at h
        cases c with
        | true =>
          have h1 := h.1 rfl
          have hl : (tm.set d (.bool true)).length = tm.length := by simp
          have he := tmF_setBool hc
          cases b with
          | true => exact exec _ hl he (by simp only [guardIs, hg]; exact ⟨d, true, hjd, hc, rfl⟩) h1
          | false => exact skip _ hl he (by simp only [guardIs, hg]; exact ⟨d, true, hjd, hc, rfl⟩) h1
        | false =>
          have h1 := h.2 rfl
          have hl : (tm.set d (.bool false)).length = tm.length := by simp
          have he := tmF_setBool hc
          cases b with
          | false => exact exec _ hl he (by simp only [guardIs, hg]; exact ⟨d, false, hjd, hc, rfl⟩) h1
          | true => exact skip _ hl he (by simp only [guardIs, hg]; exact ⟨d, false, hjd, hc, rfl⟩) h1
      · exact h.elim
end
end Go.Ab

/- Regions whose order is drawn: what is done in the text's order is done in any; no condition. -/
import Derived.Test.YtfobijiffcfnkaaDoorZAbsJ
namespace Go.Ab

section
variable {X V : Type}

def fld (D : Nat → Bool) : List (X → Option V) → Nat → (X → V) → X → V
  | [], _, f => f
  | g :: r, i, f => fld D r (i + 1) (if D i = true then fun x => (g x).getD (f x) else f)

theorem fld_congr {D D' : Nat → Bool} {x : X} : ∀ (T : List (X → Option V)) (i : Nat) (f f' : X → V), f x = f' x → (∀ (j : Nat) (g : X → Option V), T[j]? = some g → (g x).isSome = true → D (i + j) = D' (i + j)) → fld D T i f x = fld D' T i f' x
  | [], _, _, _, h, _ => h
  | g :: r, i, f, f', h, hd => by
    simp only [fld]
    refine fld_congr r (i + 1) _ _ ?_ (fun j g' hj hs => by
      have := hd (j + 1) g' (by simpa using hj) hs
      rwa [show i + 1 + j = i + (j + 1) from by omega])
    cases hg : (g x).isSome with
    | true =>
      have := hd 0 g rfl hg
      simp only [Nat.add_zero] at this
      rw [this]
      split
      · obtain ⟨v, hv⟩ := Option.isSome_iff_exists.1 hg
        simp [hv]
      · exact h
    | false =>
      have hn : g x = none := by simpa using hg
      split <;> split <;> simp [hn, h]

theorem fld_base {D : Nat → Bool} {x : X} (T : List (X → Option V)) (i : Nat) (f : X → V) (h : ∀ (j : Nat) (g : X → Option V), T[j]? = some g → D (i + j) = true → g x = none) : fld D T i f x = f x := by
  have := fld_congr (D := D) (D' := fun _ => false) T i f f (x := x) rfl fun j g hj hs => by
    cases hd : D (i + j) with
    | false => rfl
    | true => rw [h j g hj hd] at hs; cases hs
  rw [this]
  clear this h
  induction T generalizing i with
  | nil => rfl
  | cons g r ih => simp only [fld]; exact ih (i + 1)

theorem fld_last {D : Nat → Bool} {x : X} {v : V} : ∀ (T : List (X → Option V)) (i j : Nat) (f : X → V) (g : X → Option V), T[j]? = some g → g x = some v → D (i + j) = true →
    (∀ (k : Nat) (g' : X → Option V), j < k → T[k]? = some g' → D (i + k) = true → g' x = none) → fld D T i f x = v
  | [], _, _, _, _, h, _, _, _ => by simp at h
  | g0 :: r, i, 0, f, g, h, hv, hd, hl => by
    simp at h
    subst h
    simp only [fld, Nat.add_zero] at hd ⊢
    rw [if_pos hd, fld_base]
    · simp [hv]
    · intro k g' hk hdk
      exact hl (k + 1) g' (by omega) (by simpa using hk) (by rwa [show i + (k + 1) = i + 1 + k from by omega])
  | g0 :: r, i, j + 1, f, g, h, hv, hd, hl => by
    simp only [fld]
    refine fld_last r (i + 1) j _ g (by simpa using h) hv (by rwa [show i + 1 + j = i + (j + 1) from by omega]) fun k g' hk hg hdk => ?_
    exact hl (k + 1) g' (by omega) (by simpa using hg) (by rwa [show i + (k + 1) = i + 1 + k from by omega])
end

/-- What an operation touched. -/
structure Foot where
  dst : Option Nat
  ops : List Nat
  ws : List Nat
  rd : List Nat

def apart (a b : Foot) : Bool :=
  (match a.dst with
   | none => true
   | some d => !b.ops.elem d && (match b.dst with | some e => !(d == e) | none => true)) &&
  (match b.dst with
   | none => true
   | some e => !a.ops.elem e) &&
  (a.ws.all fun i => !b.rd.elem i && !b.ws.elem i) && (b.ws.all fun i => !a.rd.elem i)

def befAt (B : List Nat) : List Nat → Nat
  | [] => 0
  | on :: r => (2 ^ on ||| B.getD on 0) ||| befAt B r

theorem befAt_ex {B : List Nat} {j : Nat} : ∀ {es : List Nat}, (befAt B es).testBit j = true → ∃ on ∈ es, j = on ∨ (B.getD on 0).testBit j = true
  | [], h => by simp [befAt] at h
  | on :: r, h => by
    simp only [befAt, Nat.testBit_or, Bool.or_eq_true] at h
    rcases h with (h | h) | h
    · rw [Nat.testBit_two_pow] at h
      exact ⟨on, by simp, .inl (by simpa using h : on = j).symm⟩
    · exact ⟨on, by simp, .inr h⟩
    · obtain ⟨on', h1, h2⟩ := befAt_ex h
      exact ⟨on', by simp [h1], h2⟩

def befs : List (List Nat) → List Nat → List Nat
  | [], B => B
  | es :: r, B => befs r (B ++ [befAt B es])

def edgesOf (o : Oper) : List Nat := (o.after.toList.filter (Region.binds .any)).map (·.on)

def rowOk (B : List Nat) (T : List Foot) (i : Nat) (es : List Nat) (a : Foot) : Bool :=
  es.all (fun on => Nat.blt on i) && (B.getD i 0 == befAt B es) && go (B.getD i 0) a T i 0
  where
  /-- The ones before it, in the text, that it isn't behind of are apart. -/
  go (m : Nat) (a : Foot) : List Foot → Nat → Nat → Bool
  | [], _, _ => true
  | _ :: _, 0, _ => true
  | b :: r, n + 1, j => (m.testBit j || apart a b && apart b a) && a.ws.all (fun id => a.rd.elem id || !b.ws.elem id) && go m a r n (j + 1)

theorem go_sound {m : Nat} {a : Foot} : ∀ (T : List Foot) (n j : Nat), rowOk.go m a T n j = true → ∀ (k : Nat) (b : Foot), k < n → T[k]? = some b →
    (m.testBit (j + k) = true ∨ (apart a b = true ∧ apart b a = true)) ∧ (a.ws.all fun id => a.rd.elem id || !b.ws.elem id) = true
  | [], _, _, _, _, _, _, h => by simp at h
  | _ :: _, 0, _, _, _, _, h, _ => by omega
  | b0 :: r, n + 1, j, h, 0, b, _, hb => by
    simp only [rowOk.go, Bool.and_eq_true, Bool.or_eq_true] at h
    simp at hb; subst hb
    exact ⟨by simpa using h.1.1, h.1.2⟩
  | b0 :: r, n + 1, j, h, k + 1, b, hk, hb => by
    simp only [rowOk.go, Bool.and_eq_true, Bool.or_eq_true] at h
    have := go_sound r n (j + 1) h.2 k b (by omega) (by simpa using hb)
    rwa [show j + 1 + k = j + (k + 1) from by omega] at this

def rowsOk (B : List Nat) (T : List Foot) : List (List Nat) → List Foot → Nat → Bool
  | es :: r, a :: s, i => rowOk B T i es a && rowsOk B T r s (i + 1)
  | [], [], _ => true
  | _, _, _ => false

theorem rowsOk_get {B : List Nat} {T : List Foot} : ∀ {E : List (List Nat)} {A : List Foot} {i0 : Nat}, rowsOk B T E A i0 = true → E.length = A.length ∧ ∀ (i : Nat) (es : List Nat) (a : Foot), E[i]? = some es → A[i]? = some a → rowOk B T (i0 + i) es a = true
  | [], [], _, _ => ⟨rfl, fun i es a h => by simp at h⟩
  | es0 :: r, a0 :: s, i0, h => by
    simp only [rowsOk, Bool.and_eq_true] at h
    obtain ⟨h1, h2⟩ := rowsOk_get h.2
    refine ⟨by simp [h1], fun i es a he ha => ?_⟩
    cases i with
    | zero => simp at he ha; subst he; subst ha; exact h.1
    | succ i =>
      have := h2 i es a (by simpa using he) (by simpa using ha)
      rwa [show i0 + 1 + i = i0 + (i + 1) from by omega] at this
  | [], _ :: _, _, h => by simp [rowsOk] at h
  | _ :: _, [], _, h => by simp [rowsOk] at h

def drawOk (ops : List Oper) (T : List Foot) : Bool :=
  let E := ops.map edgesOf
  rowsOk (befs E []) T E T 0

/-- An order that keeps to the edges. -/
def Topo (E : List (List Nat)) : (Nat → Bool) → List Nat → Prop
  | D, [] => ∀ i, i < E.length → D i = true
  | D, i :: l => i < E.length ∧ D i = false ∧ (∀ es, E[i]? = some es → ∀ on ∈ es, D on = true) ∧ Topo E (fun j => D j || j == i) l

theorem filter_lt {p p' : Nat → Bool} (h : ∀ x, p' x = true → p x = true) {i : Nat} (hp : p i = true) (hp' : p' i = false) : ∀ {l : List Nat}, i ∈ l → (l.filter p').length < (l.filter p).length
  | x :: r, hm => by
    have key : (r.filter p').length ≤ (r.filter p).length := by
      clear hm
      induction r with
      | nil => exact Nat.le_refl _
      | cons y s ih =>
        simp only [List.filter_cons]
        cases h1 : p' y with
        | true => rw [h y h1]; simpa using ih
        | false => cases p y <;> simp <;> omega
    by_cases hx : x = i
    · subst hx
      simp only [List.filter_cons, hp, hp', if_true]
      simp
      omega
    · have hm' : i ∈ r := by simpa [Ne.symm hx] using hm
      have := filter_lt h hp hp' hm'
      simp only [List.filter_cons]
      cases h1 : p' x with
      | true => rw [h x h1]; simpa using this
      | false => cases p x <;> simp <;> omega

theorem topo_go {ops : Array Oper} (hE : ∀ (i : Nat) (o : Oper), ops[i]? = some o → ∀ on ∈ edgesOf o, on < i) : ∀ (fuel t : Nat) (listed : Array Bool) (acc : List Nat), listed.size = ops.size →
    ((List.range ops.size).filter fun i => !listed.getD i true).length ≤ fuel →
    ∃ l, Region.linearise.go .any ops fuel t listed acc = acc.reverse ++ l ∧ Topo (ops.toList.map edgesOf) (fun i => listed.getD i false) l := by
  have hgd : ∀ (listed : Array Bool) (i : Nat), listed.size = ops.size → i < ops.size → listed.getD i true = listed.getD i false := by
    intro listed i hs hi
    have : i < listed.size := by omega
    simp [Array.getD_eq_getD_getElem?, this]
  intro fuel
  induction fuel with
  | zero =>
    intro t listed acc hs hf
    refine ⟨[], by simp [Region.linearise.go], fun i hi => ?_⟩
    have hi : i < ops.size := by simpa using hi
    have h0 := List.eq_nil_of_length_eq_zero (Nat.le_zero.1 hf)
    have := List.filter_eq_nil_iff.1 h0 i (by simpa using hi)
    show listed.getD i false = true
    rw [← hgd listed i hs hi]
    simpa using this
  | succ fuel ih =>
    intro t listed acc hs hf
    simp only [Region.linearise.go]
    generalize hrs : ((List.range ops.size).filter fun i => !listed.getD i true && ((ops[i]?).map (·.after.all fun e => !Region.binds .any e || listed.getD e.on false)).getD false) = rs
    have hmem : ∀ i, i ∈ rs ↔ i < ops.size ∧ listed.getD i true = false ∧ ∀ o, ops[i]? = some o → ∀ on ∈ edgesOf o, listed.getD on false = true := by
      intro i
      rw [← hrs]
      simp only [List.mem_filter, List.mem_range, Bool.and_eq_true, Bool.not_eq_true']
      constructor
      · rintro ⟨h1, h2, h3⟩
        refine ⟨h1, h2, fun o ho on hon => ?_⟩
        rw [ho] at h3
        simp only [Option.map_some, Option.getD_some, Array.all_eq_true'] at h3
        simp only [edgesOf, List.mem_map, List.mem_filter] at hon
        obtain ⟨e, ⟨he, hb⟩, rfl⟩ := hon
        have := h3 e (by simpa using he)
        simpa [hb] using this
      · rintro ⟨h1, h2, h3⟩
        refine ⟨h1, h2, ?_⟩
        obtain ⟨o, ho⟩ : ∃ o, ops[i]? = some o := ⟨_, Array.getElem?_eq_getElem h1⟩
        rw [ho]
        simp only [Option.map_some, Option.getD_some, Array.all_eq_true']
        intro e he
        cases hb : Region.binds .any e with
        | false => simp
        | true =>
          have := h3 o ho e.on (by simp only [edgesOf, List.mem_map, List.mem_filter]; exact ⟨e, ⟨by simpa using he, hb⟩, rfl⟩)
          simp [this]
    cases hget : rs[t % rs.length]? with
    | none =>
      -- nothing stands ready: all are listed
      have hnil : rs = [] := by
        cases rs with
        | nil => rfl
        | cons x r =>
          have h1 := List.getElem?_eq_none_iff.1 hget
          have h2 := Nat.mod_lt t (show 0 < (x :: r).length by simp)
          omega
      refine ⟨[], by simp, fun i hi => ?_⟩
      have hi : i < ops.size := by simpa using hi
      have key : ∀ i, i < ops.size → listed.getD i true = true := by
        intro i
        induction i using Nat.strongRecOn with
        | _ i ihi =>
          intro hi
          cases hc : listed.getD i true with
          | true => rfl
          | false =>
            exfalso
            have : i ∈ rs := (hmem i).2 ⟨hi, hc, fun o ho on hon => by
              have hlt := hE i o ho on hon
              rw [← hgd listed on hs (by omega)]
              exact ihi on hlt (by omega)⟩
            rw [hnil] at this
            cases this
      show listed.getD i false = true
      rw [← hgd listed i hs hi]
      exact key i hi
    | some i =>
      have him := (hmem i).1 (List.mem_of_getElem? hget)
      have hi := him.1
      have hset : ∀ (j : Nat) (d : Bool), (listed.setIfInBounds i true).getD j d = (listed.getD j d || j == i) := by
        intro j d
        simp only [Array.getD_eq_getD_getElem?, Array.getElem?_setIfInBounds]
        by_cases hj : i = j
        · subst hj
          have : i < listed.size := by omega
          simp [this]
        · have hj' : (j == i) = false := by simp; exact fun e => hj e.symm
          simp [hj, hj']
      obtain ⟨l, h1, h2⟩ := ih (t / rs.length) (listed.setIfInBounds i true) (i :: acc) (by simpa using hs) (by
        have := filter_lt (p := fun j => !listed.getD j true) (p' := fun j => !(listed.setIfInBounds i true).getD j true) (i := i) (fun j hj => by rw [hset] at hj; simp at hj; simp [hj.1])
          (by simpa using him.2.1) (by simp only [hset]; simp) (l := List.range ops.size) (by simpa using hi)
        omega)
      refine ⟨i :: l, by simp [h1], by simpa using hi, ?_, fun es he on hon => ?_, ?_⟩
      · show listed.getD i false = false
        rw [← hgd listed i hs hi]; exact him.2.1
      · simp only [List.getElem?_map, Option.map_eq_some_iff] at he
        obtain ⟨o, ho, rfl⟩ := he
        exact him.2.2 o (by simpa using ho) on hon
      · have : (fun j => (listed.setIfInBounds i true).getD j false) = fun j => listed.getD j false || j == i := funext fun j => hset j false
        rw [this] at h2
        exact h2

theorem topo_linearise {ops : Array Oper} (hE : ∀ (i : Nat) (o : Oper), ops[i]? = some o → ∀ on ∈ edgesOf o, on < i) (t : Nat) : Topo (ops.toList.map edgesOf) (fun _ => false) (Region.linearise .any ops t) := by
  obtain ⟨l, h1, h2⟩ := topo_go hE ops.size t (Array.replicate ops.size false) [] (by simp) (by
    have := List.length_filter_le (fun i => !(Array.replicate ops.size false).getD i true) (List.range ops.size)
    simpa using this)
  unfold Region.linearise
  rw [h1]
  have : (fun i => (Array.replicate ops.size false).getD i false) = fun _ => false := by
    funext i
    simp only [Array.getD_eq_getD_getElem?, Array.getElem?_replicate]
    split <;> rfl
  rw [this] at h2
  simpa using h2
end Go.Ab

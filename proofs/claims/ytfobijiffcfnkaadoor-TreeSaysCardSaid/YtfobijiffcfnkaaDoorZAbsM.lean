/- A table of types is checked; no condition. -/
import Derived.Test.YtfobijiffcfnkaaDoorZAbsL
import Derived.KernelRfl
namespace Go.Ab

/-- What is laid out anew, closed by the kernel. -/
structure Hold (A : Prop) : Prop where
  it : A

theorem kshow {A B : Prop} (h : A) (e : B = A) : Hold B := ⟨e ▸ h⟩

def zeroCB : CK → Value → Bool
  | .bool, .bool b => !b
  | .int k, .int k' n => k == k' && n == 0
  | .str, .string s => s.data.size == 0
  | .sl _, .slice none l c => l == 0 && c == 0
  | .mp, .map none => true
  | .func, .nilFunc => true
  | .iface, .nilIface => true
  | .ptr, .pointer none => true
  | _, _ => false

theorem zeroCB_sound {c : CK} {v : Value} (h : zeroCB c v = true) : v = zeroC c := by
  unfold zeroCB at h
  split at h <;> simp_all [zeroC]

def zerosB : List CK → List Value → Bool
  | [], [] => true
  | c :: r, v :: s => zeroCB c v && zerosB r s
  | _, _ => false

theorem zerosB_sound : ∀ {cs : List CK} {vs : List Value}, zerosB cs vs = true → vs = cs.map zeroC
  | [], [], _ => rfl
  | c :: r, v :: s, h => by
    simp only [zerosB, Bool.and_eq_true] at h
    simp [zeroCB_sound h.1, zerosB_sound h.2]
  | [], _ :: _, h => by simp [zerosB] at h
  | _ :: _, [], h => by simp [zerosB] at h

def scalarB : CK → TypeDesc → Bool
  | .bool, .bool => true
  | .int k, .int k' => k == k'
  | .str, .string => true
  | .func, .func _ _ _ => true
  | .iface, .interface _ => true
  | .ptr, .pointer _ => true
  | _, _ => false

theorem scalarB_sound {c : CK} {d : TypeDesc} (h : scalarB c d = true) : scalarDesc c d := by
  cases c <;> cases d <;> simp_all [scalarB, scalarDesc]

def kindB (P : Program) (t : TypeId) (tk : TK) : Bool :=
  match P.underlying t with
  | none => false
  | some d =>
    match tk with
    | .scalar c => scalarB c d
    | .slice e => match d with | .slice e' => e == e' | _ => false
    | .arr n e => match d with | .array n' e' => n == n' && e == e' | _ => false
    | .struct fs => match d with | .struct fields => (fields.toList.map fun f => (f.offset, f.type)) == fs && (fields.toList.all fun f => f.name != "_") && !P.stoodInHeld t | _ => false
    | .map k e => match d with | .map k' e' => k == k' && e == e' | _ => false

theorem kindB_sound {P : Program} {t : TypeId} {tk : TK} (h : kindB P t tk = true) : kindOk P t tk := by
  unfold kindB at h
  split at h
  · cases h
  rename_i d hd
  cases tk with
  | scalar c => exact ⟨d, hd, scalarB_sound h⟩
  | slice e => simp only at h; split at h <;> simp_all [kindOk]
  | arr n e => simp only at h; split at h <;> simp_all [kindOk]
  | map k e => simp only at h; split at h <;> simp_all [kindOk]
  | struct fs =>
    simp only at h
    split at h
    · rename_i fields
      simp only [Bool.and_eq_true, beq_iff_eq, List.all_eq_true, bne_iff_ne, ne_eq, Bool.not_eq_true'] at h
      exact ⟨fields, hd, h.1.1, fun f hf => h.1.2 f (by simpa using hf), h.2⟩
    · cases h

def tiB (P : Program) (t : TypeId) (ti : TI) : Bool :=
  match P.info? t with
  | none => false
  | some i =>
    i.size == ti.size && i.bytes == ti.bytes &&
    (match i.zero with
     | none => false
     | some z => match ti.kind.isAgg with
       | true => (match z with | .agg a => zerosB ti.cells a.toList | _ => false)
       | false => zeroCB (ti.cells.headD .bool) z) &&
    kindB P t ti.kind && ti.cells.length == ti.size && (ti.kind.isAgg || ti.size == 1)

theorem tiB_sound {P : Program} {t : TypeId} {ti : TI} (h : tiB P t ti = true) : TIok P t ti := by
  unfold tiB at h
  split at h
  · cases h
  rename_i i hi
  simp only [Bool.and_eq_true, beq_iff_eq, Bool.or_eq_true] at h
  obtain ⟨⟨⟨⟨⟨h1, h2⟩, h3⟩, h4⟩, h5⟩, h6⟩ := h
  refine ⟨⟨i, hi, h1, h2, ?_⟩, kindB_sound h4, h5, fun hk => ?_⟩
  · split at h3
    · cases h3
    rename_i z hz
    rw [hz]
    unfold TI.zeroV
    split at h3
    · rename_i hk
      rw [if_pos hk]
      split at h3
      · rename_i a
        have := zerosB_sound h3
        rw [← this]
      · cases h3
    · rename_i hk
      rw [if_neg (by simp [hk]), zeroCB_sound h3]
  · simpa [hk] using h6

def tabOfL (L : List (Option TI)) : Tab := fun t => match L[t]? with | some x => x | none => none

def tabB (P : Program) : Nat → List (Option TI) → Bool
  | _, [] => true
  | t, none :: r => tabB P (t + 1) r
  | t, some ti :: r => tiB P t ti && tabB P (t + 1) r

theorem tabB_sound {P : Program} : ∀ (L : List (Option TI)) (t0 : Nat), tabB P t0 L = true → ∀ (i : Nat) (ti : TI), L[i]? = some (some ti) → TIok P (t0 + i) ti
  | [], _, _, i, ti, hi => by simp at hi
  | none :: r, t0, h, 0, ti, hi => by simp at hi
  | none :: r, t0, h, i + 1, ti, hi => by
    have := tabB_sound r (t0 + 1) h i ti (by simpa using hi)
    rwa [Nat.add_right_comm] at this
  | some ti' :: r, t0, h, 0, ti, hi => by
    simp only [tabB, Bool.and_eq_true] at h
    simp at hi
    subst hi
    exact tiB_sound h.1
  | some ti' :: r, t0, h, i + 1, ti, hi => by
    simp only [tabB, Bool.and_eq_true] at h
    have := tabB_sound r (t0 + 1) h.2 i ti (by simpa using hi)
    rwa [Nat.add_right_comm] at this

theorem tabOk_of {P : Program} {L : List (Option TI)} (h : tabB P 0 L = true) : TabOk P (tabOfL L) := by
  intro t ti ht
  have : L[t]? = some (some ti) := by
    unfold tabOfL at ht
    split at ht
    · rename_i x hx; rw [hx, ht]
    · cases ht
  have := tabB_sound L 0 h t ti this
  rwa [Nat.zero_add] at this

theorem progOk_of {P : Program} {L : List (Option TI)} (h : tabB P 0 L = true) (hd : Nat.ble 20 P.depth = true) (hm : P.follows .mixedOrders = true) : ProgOk P (tabOfL L) := ⟨tabOk_of h, Nat.le_of_ble_eq_true hd, hm⟩

/-- The places in a function's code where its loops' bodies begin. -/
def loopsOf : Code → List Item → List (List Item)
  | .seq a b, k => loopsOf a (.code b :: k) ++ loopsOf b k
  | .cond _ a b, k => loopsOf a k ++ loopsOf b k
  | .block id c, k => loopsOf c (.inBlock id :: k)
  | .loop c, k => (.code c :: .inLoop c :: k) :: loopsOf c (.inLoop c :: k)
  | _, _ => []

def fnOf (P : Program) (f : Nat) : Func := P.funcs.getD f default
def bodyOf (P : Program) (f : Nat) : Code := (fnOf P f).body.getD default
def lp (P : Program) (f i : Nat) : List Item := (loopsOf (bodyOf P f) []).getD i []

def lookT : List (Nat × AV) → Nat → AV
  | [], _ => .dead
  | (j, v) :: r, i => bif j == i then v else lookT r i

/-- A frame, told by what it bears. -/
def mkT (n : Nat) (l : List (Nat × AV)) : List AV := (List.range n).map (lookT l)

/-- What is to be shown of a function. -/
def runF (P : Program) (tab : Tab) (nG : Nat) (G0 : Nat → Option Obj) (an : FAnn) (f : Nat) (args : List AV) (H : List (Option Blk)) (R : AV → List (Option Blk) → Prop) : Prop :=
  runI P tab nG G0 (fnOf P f) H.length an 1000 [.code (bodyOf P f)] (frame0 (fnOf P f).ntmps args) H R

/-- What is to be shown of a loop. -/
def runL (P : Program) (tab : Tab) (nG : Nat) (G0 : Nat → Option Obj) (an : FAnn) (f i n0 : Nat) (tm : List AV) (hp : List (Option Blk)) (R : AV → List (Option Blk) → Prop) : Prop :=
  runI P tab nG G0 (fnOf P f) n0 an 1000 (lp P f i) tm hp R

def hasB (P : Program) (f : Nat) : Bool :=
  match P.funcs[f]? with
  | some fn => fn.body.isSome && !(fn.name == "runtime.NumGoroutine")
  | none => false

theorem good_of_run {P : Program} {tab : Tab} {nG : Nat} {G0 : Nat → Option Obj} {an : FAnn} {f : Nat} {args : List AV} {H H' : List (Option Blk)} {r : AV} (hP : ProgOk P tab) (hb : hasB P f = true)
    (h : Hold (runF P tab nG G0 an f args H fun r' H'' => r' = r ∧ H'' = H')) : Good P nG G0 f args H r H' := by
  have h := h.it
  unfold hasB at hb
  split at hb
  · rename_i fn hf
    simp only [Bool.and_eq_true, Bool.not_eq_true'] at hb
    obtain ⟨c, hc⟩ := Option.isSome_iff_exists.1 hb.1
    have h1 : fnOf P f = fn := by simp only [fnOf, Array.getD_eq_getD_getElem?, hf, Option.getD_some]
    have h2 : bodyOf P f = c := by simp [bodyOf, h1, hc]
    unfold runF at h
    rw [h1, h2] at h
    exact good_of_sem hf hc hb.2 (runI_snd hP _ _ _ _ _ h)
  · cases hb

theorem does_of_run {P : Program} {tab : Tab} {nG : Nat} {G0 : Nat → Option Obj} {an : FAnn} {f i n0 : Nat} {tm : List AV} {hp : List (Option Blk)} {R : AV → List (Option Blk) → Prop} (hP : ProgOk P tab)
    (h : Hold (runL P tab nG G0 an f i n0 tm hp R)) : Does P nG G0 (fnOf P f) n0 (lp P f i) tm hp R := runI_snd hP _ _ _ _ _ h.it
end Go.Ab

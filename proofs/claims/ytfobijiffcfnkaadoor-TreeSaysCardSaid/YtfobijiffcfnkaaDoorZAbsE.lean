/- The step of one operation, as a proposition that may be reckoned out; no condition. -/
import Derived.Test.YtfobijiffcfnkaaDoorZAbsK3
namespace Go.Ab

def ifK (b : Bool) (A B : Prop) : Prop := Bool.rec (motive := fun _ => Prop) B A b

theorem ifK_iff {b : Bool} {A B : Prop} : ifK b A B ↔ (b = true → A) ∧ (b = false → B) := by cases b <;> simp [ifK]

def forceK (v : AV) (k : AV → Prop) : Prop :=
  match v with
  | .bool b => k (.bool b)
  | .int kd n => k (.int kd n)
  | .str s => k (.str s)
  | .sl sz nil tok xs => k (.sl sz nil tok xs)
  | .rsl sz id off len => k (.rsl sz id off len)
  | .mp nil es => k (.mp nil es)
  | .rmp id => k (.rmp id)
  | .ref id off => k (.ref id off)
  | .eref sz id i off => k (.eref sz id i off)
  | .rptr cs => k (.rptr cs)
  | .func f cap => k (.func f cap)
  | .nilFunc => k .nilFunc
  | .iface => k .iface
  | .nilIface => k .nilIface
  | .nils => k .nils
  | .agg cs => k (.agg cs)
  | .tup vs => k (.tup vs)
  | .iter id => k (.iter id)
  | .dead => k .dead

theorem forceK_eq (v : AV) (k : AV → Prop) : forceK v k = k v := by cases v <;> rfl

def forceL : List AV → (List AV → Prop) → Prop
  | [], k => k []
  | v :: r, k => forceK v fun v' => forceL r fun r' => k (v' :: r')

theorem forceL_eq : ∀ (l : List AV) (k : List AV → Prop), forceL l k = k l
  | [], _ => rfl
  | v :: r, k => by simp only [forceL, forceK_eq, forceL_eq r]

def setK : List AV → Nat → AV → (List AV → Prop) → Prop
  | [], _, _, k => k []
  | _ :: r, 0, v, k => k (v :: r)
  | x :: r, i + 1, v, k => setK r i v fun r' => k (x :: r')

theorem setK_eq : ∀ (l : List AV) (i : Nat) (v : AV) (k : List AV → Prop), setK l i v k = k (l.set i v)
  | [], _, _, _ => rfl
  | _ :: _, 0, _, _ => rfl
  | x :: r, i + 1, v, k => by simp only [setK, setK_eq r i v]; rfl

def hput : List (Option Blk) → Nat → Blk → List (Option Blk)
  | [], 0, b => [some b]
  | [], i + 1, b => none :: hput [] i b
  | _ :: r, 0, b => some b :: r
  | x :: r, i + 1, b => x :: hput r i b

def hputK : List (Option Blk) → Nat → Blk → (List (Option Blk) → Prop) → Prop
  | [], 0, b, k => k [some b]
  | [], i + 1, b, k => hputK [] i b fun r => k (none :: r)
  | _ :: r, 0, b, k => k (some b :: r)
  | x :: r, i + 1, b, k => hputK r i b fun r' => k (x :: r')

theorem hputK_eq : ∀ (l : List (Option Blk)) (i : Nat) (b : Blk) (k : List (Option Blk) → Prop), hputK l i b k = k (hput l i b)
  | [], 0, _, _ => rfl
  | [], i + 1, b, k => by simp only [hputK, hput, hputK_eq [] i b]
  | _ :: _, 0, _, _ => rfl
  | x :: r, i + 1, b, k => by simp only [hputK, hput, hputK_eq r i b]

theorem hput_get : ∀ (l : List (Option Blk)) (i : Nat) (b : Blk) (j : Nat), hpF (hput l i b) j = if j = i then some b else hpF l j
  | [], 0, b, 0 => by simp [hput, hpF]
  | [], 0, b, j + 1 => by simp [hput, hpF]
  | [], i + 1, b, 0 => by simp [hput, hpF]
  | [], i + 1, b, j + 1 => by
    have := hput_get [] i b j
    simp only [hpF, hput, List.getD_cons_succ, Nat.add_right_cancel_iff] at this ⊢
    rw [this]; simp
  | x :: r, 0, b, 0 => by simp [hput, hpF]
  | x :: r, 0, b, j + 1 => by simp [hput, hpF]
  | x :: r, i + 1, b, 0 => by simp [hput, hpF]
  | x :: r, i + 1, b, j + 1 => by
    have := hput_get r i b j
    simp only [hpF, hput, List.getD_cons_succ, Nat.add_right_cancel_iff] at this ⊢
    rw [this]

theorem hput_len : ∀ (l : List (Option Blk)) (i : Nat) (b : Blk), l.length ≤ (hput l i b).length
  | [], _, _ => Nat.zero_le _
  | _ :: _, 0, _ => by simp [hput]
  | x :: r, i + 1, b => by have := hput_len r i b; simp [hput]; omega

def forceB (b : Blk) (k : Blk → Prop) : Prop :=
  match b with
  | .var cs => forceL cs fun cs' => k (.var cs')
  | .arr sz xs => k (.arr sz xs)
  | .grow sz n => k (.grow sz n)
  | .mp es => k (.mp es)
  | .iter es cur => k (.iter es cur)

theorem forceB_eq (b : Blk) (k : Blk → Prop) : forceB b k = k b := by cases b <;> simp only [forceB, forceL_eq]

def writeK : List (Nat × Blk) → List (Option Blk) → (List (Option Blk) → Prop) → Prop
  | [], hp, k => k hp
  | (i, b) :: r, hp, k => forceB b fun b' => hputK hp i b' fun hp' => writeK r hp' k

def write : List (Nat × Blk) → List (Option Blk) → List (Option Blk)
  | [], hp => hp
  | (i, b) :: r, hp => write r (hput hp i b)

theorem writeK_eq : ∀ (ws : List (Nat × Blk)) (hp : List (Option Blk)) (k : List (Option Blk) → Prop), writeK ws hp k = k (write ws hp)
  | [], _, _ => rfl
  | (i, b) :: r, hp, k => by simp only [writeK, forceB_eq, hputK_eq, writeK_eq r, write]

theorem write_get : ∀ (ws : List (Nat × Blk)) (hp : List (Option Blk)), hpF (write ws hp) = updH (hpF hp) ws
  | [], _ => rfl
  | (i, b) :: r, hp => by
    rw [write, write_get r, updH]
    congr 1
    funext j
    exact hput_get hp i b j

theorem write_len : ∀ (ws : List (Nat × Blk)) (hp : List (Option Blk)), hp.length ≤ (write ws hp).length
  | [], _ => Nat.le_refl _
  | (i, b) :: r, hp => Nat.le_trans (hput_len hp i b) (write_len r _)

def withCell : CK → (AV → Prop) → Prop
  | .bool, k => ∃ b, k (.bool b)
  | .int kd, k => ∃ n, k (.int kd n)
  | .str, k => ∃ s, k (.str s)
  | .sl sz, k => ∃ nil xs, k (.sl sz nil none xs)
  | .mp, k => ∃ nil es, k (.mp nil es)
  | .func, _ => False
  | .iface, k => ∃ b : Bool, ifK b (k .iface) (k .nilIface)
  | .ptr, k => k .dead

theorem withCell_ex {c : CK} {k : AV → Prop} (h : withCell c k) : ∃ v, k v := by
  cases c <;> simp only [withCell] at h
  · obtain ⟨b, h⟩ := h; exact ⟨_, h⟩
  · obtain ⟨b, h⟩ := h; exact ⟨_, h⟩
  · obtain ⟨b, h⟩ := h; exact ⟨_, h⟩
  · obtain ⟨b, c, h⟩ := h; exact ⟨_, h⟩
  · obtain ⟨b, c, h⟩ := h; exact ⟨_, h⟩
  · obtain ⟨b, h⟩ := h
    cases b
    · exact ⟨_, h⟩
    · exact ⟨_, h⟩
  · exact ⟨_, h⟩

def withCells : List CK → (List AV → Prop) → Prop
  | [], k => k []
  | c :: r, k => withCell c fun v => withCells r fun vs => k (v :: vs)

theorem withCells_ex : ∀ {cs : List CK} {k : List AV → Prop}, withCells cs k → ∃ vs, k vs
  | [], _, h => ⟨[], h⟩
  | _ :: _, _, h => by
    obtain ⟨v, h⟩ := withCell_ex h
    obtain ⟨vs, h⟩ := withCells_ex h
    exact ⟨_, h⟩

def loadK (ti : TI) (cs : List AV) (k : AV → Prop) : Prop :=
  if ti.kind.isAgg then forceL cs fun cs' => k (.agg cs') else forceK (cs.headD .dead) k

theorem loadK_eq (ti : TI) (cs : List AV) (k : AV → Prop) : loadK ti cs k = k (loaded ti cs) := by
  simp only [loadK, loaded, forceK_eq, forceL_eq]; split <;> rfl

def withRes (tab : Tab) (t : Nat) (k : AV → Prop) : Prop :=
  match tab t with
  | none => False
  | some ti => withCells ti.cells fun cs => loadK ti cs k

theorem withRes_ex {tab : Tab} {t : Nat} {k : AV → Prop} (h : withRes tab t k) : ∃ v, k v := by
  unfold withRes at h
  split at h
  · exact h.elim
  · obtain ⟨cs, h⟩ := withCells_ex h
    rw [loadK_eq] at h
    exact ⟨_, h⟩

def withResL (tab : Tab) : List Nat → (List AV → Prop) → Prop
  | [], k => k []
  | t :: r, k => withRes tab t fun v => withResL tab r fun vs => k (v :: vs)

theorem withResL_ex {tab : Tab} : ∀ {ts : List Nat} {k : List AV → Prop}, withResL tab ts k → ∃ vs, k vs
  | [], _, h => ⟨[], h⟩
  | _ :: _, _, h => by
    obtain ⟨v, h⟩ := withRes_ex h
    obtain ⟨vs, h⟩ := withResL_ex h
    exact ⟨_, h⟩

def withRet (tab : Tab) (ts : List Nat) (k : AV → Prop) : Prop :=
  match ts with
  | [t] => withRes tab t k
  | ts => withResL tab ts fun vs => k (.tup vs)

theorem withRet_ex {tab : Tab} {ts : List Nat} {k : AV → Prop} (h : withRet tab ts k) : ∃ v, k v := by
  unfold withRet at h
  split at h
  · exact withRes_ex h
  · obtain ⟨vs, h⟩ := withResL_ex h; exact ⟨_, h⟩

/-- The size of a slice's elements. -/
def szOf (tab : Tab) (t : Nat) : Option Nat :=
  match tab t with
  | some ti => match ti.kind with | .slice e => (match tab e with | some ei => some ei.size | none => none) | _ => none
  | none => none

def fixCs : List CK → List AV → List AV
  | c :: r, v :: s => (match c with | .sl sz => fixN (some sz) v | _ => v) :: fixCs r s
  | _, s => s

abbrev OK := AV → List (Nat × Blk) → List Nat → Prop

def flatCs (cs : List AV) : Bool := cs.all fun y => match y with | .agg _ => false | .tup _ => false | _ => true

section
variable (P : Program) (tab : Tab) (nG : Nat) (G0 : Nat → Option Obj) (tm : List AV) (hp : List (Option Blk)) (o : Oper)

def ev (x : Operand) : AV := evA (tmF tm) x

def kLoad (t : TypeId) (x : Operand) (k : OK) : Prop :=
  match tab t with
  | none => False
  | some ti =>
    match ev tm x with
    | .ref id off =>
      match hpF hp id with
      | some (.var cs) => forceL ((cs.drop off).take ti.size) fun c => bif c.length == ti.size && flatCs c then loadK ti c fun v => k v [] [id] else False
      | _ => False
    | .rptr cs => forceL (cs.take ti.size) fun c => bif c.length == ti.size && flatCs c then loadK ti c fun v => k v [] [] else False
    | .eref sz id i off =>
      match hpF hp id with
      | some (.arr sz' xs) => bif sz' == sz then withCells ti.cells fun c => (∃ z, xs[i]? = some z ∧ (z.drop off).take ti.size = c) ∧ (bif c.length == ti.size && flatCs c then loadK ti c fun v => k v [] [id] else False) else False
      | _ => False
    | _ => False

def kStore (t : TypeId) (x y : Operand) (k : OK) : Prop :=
  match tab t with
  | none => False
  | some ti =>
    forceK (ev tm y) fun v =>
    match ev tm x with
    | .ref id off =>
      match hpF hp id with
      | some (.var cs) => bif v.solid && v.cells.length == ti.size && decide (off + ti.size ≤ cs.length) then k .dead [(id, .var (setR cs off v.cells))] [id] else False
      | _ => False
    | .eref sz id i off =>
      match hpF hp id with
      | some (.arr sz' xs) => bif sz' == sz && v.solid && (v.cells.map AV.strip).all AV.pureC && v.cells.length == ti.size && decide (off + ti.size ≤ sz) then k .dead [(id, .arr sz (xs.set i (setR (xs.getD i []) off (v.cells.map AV.strip))))] [id] else False
      | _ => False
    | _ => False

def notDead : AV → Bool
  | .dead => false
  | _ => true

def kFieldAddr (t : TypeId) (x : Operand) (f : Nat) (k : OK) : Prop :=
  match tab t with
  | none => False
  | some ti =>
    match ti.kind with
    | .struct fs =>
      match fs[f]? with
      | some (off, ft) =>
        match tab ft with
        | some fi => forceK (movP (ev tm x) off) fun v => bif notDead v && fi.size != 0 then k v [] [] else False
        | none => False
      | none => False
    | _ => False

def kIndexAddr (t : TypeId) (x i : Operand) (k : OK) : Prop :=
  match tab t with
  | none => False
  | some ti =>
    match ev tm i with
    | .int _ j =>
      match ti.kind with
      | .slice e =>
        match tab e with
        | none => False
        | some ei =>
          match ev tm x with
          | .sl sz _ _ xs => bif sz == ei.size then 0 ≤ j ∧ withCells ei.cells fun z => xs[j.toNat]? = some z ∧ k (.rptr z) [] [] else False
          | .rsl sz id off len => bif sz == ei.size then 0 ≤ j ∧ j < len ∧ k (.eref sz id (off + j.toNat) 0) [] [] else False
          | _ => False
      | .arr m e =>
        match tab e with
        | none => False
        | some ei => 0 ≤ j ∧ j < m ∧ forceK (movP (ev tm x) (j.toNat * ei.size)) fun v => bif notDead v then k v [] [] else False
      | _ => False
    | _ => False

def kIndex (t : TypeId) (x i : Operand) (k : OK) : Prop :=
  match tab t with
  | none => False
  | some ti =>
    match ev tm i with
    | .int _ j =>
      match ti.kind with
      | .scalar .str => match ev tm x with | .str s => 0 ≤ j ∧ ∃ c : UInt8, s[j.toNat]? = some c ∧ k (.int .u8 c.toNat) [] [] | _ => False
      | .arr m e =>
        match tab e with
        | none => False
        | some ei =>
          match ev tm x with
          | .agg cs => 0 ≤ j ∧ j < m ∧ forceL ((cs.drop (j.toNat * ei.size)).take ei.size) fun c => bif c.length == ei.size && flatCs c && decide (j.toNat * ei.size + ei.size ≤ cs.length) then loadK ei c fun v => k v [] [] else False
          | _ => False
      | _ => False
    | _ => False

def loOf (x : Option Operand) (k : Int → Prop) : Prop :=
  match x with
  | none => k 0
  | some y => match ev tm y with | .int _ j => k j | _ => False

def hiOf (x : Option Operand) (n : Nat) (k : Int → Prop) : Prop :=
  match x with
  | none => k n
  | some y => match ev tm y with | .int _ j => k j | _ => False

def kSlice (t : TypeId) (x : Operand) (lo hi : Option Operand) (k : OK) : Prop :=
  match tab t with
  | none => False
  | some ti =>
    match ti.kind with
    | .scalar .str => match ev tm x with | .str s => loOf tm lo fun l => hiOf tm hi s.length fun h => 0 ≤ l ∧ l ≤ h ∧ h ≤ s.length ∧ k (.str ((s.take h.toNat).drop l.toNat)) [] [] | _ => False
    | .slice e =>
      match tab e with
      | none => False
      | some ei => match ev tm x with | .sl sz nil _ xs => bif sz == ei.size then loOf tm lo fun l => hiOf tm hi xs.length fun h => 0 ≤ l ∧ l ≤ h ∧ h ≤ xs.length ∧ k (.sl sz nil none ((xs.take h.toNat).drop l.toNat)) [] [] else False | _ => False
    | _ => False

def kField (t : TypeId) (x : Operand) (f : Nat) (k : OK) : Prop :=
  match tab t with
  | none => False
  | some ti =>
    match ti.kind with
    | .struct fs =>
      match fs[f]? with
      | some (off, ft) =>
        match tab ft with
        | some fi => match ev tm x with | .agg cs => forceL ((cs.drop off).take fi.size) fun c => bif c.length == fi.size && flatCs c then loadK fi c fun v => k v [] [] else False | _ => False
        | none => False
      | none => False
    | _ => False

def eqK (op : BinOp) (b : Bool) (k : OK) : Prop :=
  match op with
  | .eql => k (.bool b) [] []
  | .neq => k (.bool (!b)) [] []
  | _ => False

def kBin (op : BinOp) (xt : TypeId) (x y : Operand) (k : OK) : Prop :=
  match ev tm x with
  | .int kd i =>
    match ev tm y with
    | .int kd' j =>
      match op with
      | .shr => 0 ≤ j ∧ k (.int kd (i.fdiv (2 ^ min j.toNat kd.bits))) [] []
      | .quo => bif kd' == kd then j ≠ 0 ∧ k (.int kd (kd.wrap (i.tdiv j))) [] [] else False
      | .rem => bif kd' == kd then j ≠ 0 ∧ k (.int kd (i.tmod j)) [] [] else False
      | op => bif kd' == kd then (match arithA op kd i j with | some r => forceK r fun r => k r [] [] | none => False) else False
    | _ => False
  | .str s =>
    match ev tm y with
    | .str r =>
      match op with
      | .add => s.length + r.length ≤ 9223372036854775807 ∧ k (.str (s ++ r)) [] []
      | .eql => k (.bool (s == r)) [] []
      | .neq => k (.bool (!(s == r))) [] []
      | _ => False
    | _ => False
  | .bool s =>
    match ev tm y with
    | .bool r => match tab xt with | some ti => (match ti.kind with | .scalar .bool => eqK op (s == r) k | _ => False) | none => False
    | _ => False
  | .sl _ nil _ _ =>
    match ev tm y with
    | .nils => match tab xt with | some ti => (match ti.kind with | .slice _ => eqK op nil k | _ => False) | none => False
    | _ => False
  | .agg ys =>
    match ev tm y with
    | .agg zs =>
      match tab xt with
      | some ti => match eqPlan tab 20 xt with | some plan => bif ti.kind.isAgg && eqFits plan ys && eqFits plan zs then eqK op (eqAll ys zs) k else False | none => False
      | none => False
    | _ => False
  | .iface => match y with | .const .nilIface => (match tab xt with | some ti => (match ti.kind with | .scalar .iface => eqK op false k | _ => False) | none => False) | _ => False
  | .nilIface => match y with | .const .nilIface => (match tab xt with | some ti => (match ti.kind with | .scalar .iface => eqK op true k | _ => False) | none => False) | _ => False
  | _ => False

def kNot (x : Operand) (k : OK) : Prop :=
  match ev tm x with
  | .bool b => k (.bool (!b)) [] []
  | _ => False

def kConv (s t : TypeId) (x : Operand) (k : OK) : Prop :=
  match tab s, tab t with
  | some si, some ti =>
    match si.kind, ti.kind with
    | .scalar (.int kd), .scalar (.int kd') => match ev tm x with | .int kd2 i => bif kd2 == kd then k (.int kd' (kd'.wrap i)) [] [] else False | _ => False
    | _, _ => False
  | _, _ => False

def kMin (mx : Bool) (x y : Operand) (k : OK) : Prop :=
  match ev tm x, ev tm y with
  | .int kd i, .int _ j => match mx with | true => k (.int kd (if j > i then j else i)) [] [] | false => k (.int kd (if j < i then j else i)) [] []
  | _, _ => False

def kExtract (x : Operand) (i : Nat) (k : OK) : Prop :=
  match ev tm x with
  | .tup vs => match vs[i]? with | some y => forceK y fun y => (match y with | .tup _ => False | y => k y [] []) | none => False
  | _ => False

def kFunc (f : Nat) (cap : List Operand) (k : OK) : Prop :=
  forceL (cap.map (ev tm)) fun cs => bif cs.all fun y => match y with | .func _ _ => false | .agg _ => false | .tup _ => false | .dead => false | _ => true then k (.func f cs) [] [] else False

/-- What is told of a call beforehand: the blocks that are lent; which results are slices that may grow. -/
structure Ann where
  lent : List Nat
  toks : List Nat
  deriving Inhabited

def withLike (ρ : Nat → Option Nat) : AV → (AV → Prop) → Prop
  | .bool _, k => ∃ b, k (.bool b)
  | .int kd _, k => ∃ n, k (.int kd n)
  | .str _, k => ∃ s, k (.str s)
  | .sl sz _ _ _, k => ∃ nil xs, k (.sl sz nil none xs)
  | .mp _ _, k => ∃ nil es, k (.mp nil es)
  | v, k => k (renC ρ v)

theorem withLike_ex {ρ : Nat → Option Nat} {v : AV} {k : AV → Prop} (h : withLike ρ v k) : ∃ u, k u := by
  cases v <;> simp only [withLike] at h <;> first | exact ⟨_, h⟩ | (obtain ⟨_, h⟩ := h; exact ⟨_, h⟩) | (obtain ⟨_, _, h⟩ := h; exact ⟨_, h⟩)

def withLikes (ρ : Nat → Option Nat) : List AV → (List AV → Prop) → Prop
  | [], k => k []
  | v :: r, k => withLike ρ v fun v' => withLikes ρ r fun r' => k (v' :: r')

theorem withLikes_ex {ρ : Nat → Option Nat} : ∀ {vs : List AV} {k : List AV → Prop}, withLikes ρ vs k → ∃ us, k us
  | [], _, h => ⟨_, h⟩
  | _ :: _, _, h => by
    obtain ⟨v, h⟩ := withLike_ex h
    obtain ⟨vs, h⟩ := withLikes_ex h
    exact ⟨_, h⟩

def withBlks (ρ : Nat → Option Nat) (hp : List (Option Blk)) : List Nat → (List (Option Blk) → Prop) → Prop
  | [], k => k []
  | id :: r, k =>
    match hpF hp id with
    | some (.var cs) => withLikes ρ cs fun cs' => withBlks ρ hp r fun bs => k (some (.var cs') :: bs)
    | some (.arr sz _) => ∃ xs, withBlks ρ hp r fun bs => k (some (.arr sz xs) :: bs)
    | some (.mp _) => ∃ es, withBlks ρ hp r fun bs => k (some (.mp es) :: bs)
    | _ => False

theorem withBlks_ex {ρ : Nat → Option Nat} {hp : List (Option Blk)} : ∀ {L : List Nat} {k : List (Option Blk) → Prop}, withBlks ρ hp L k → ∃ bs, k bs
  | [], _, h => ⟨_, h⟩
  | id :: r, k, h => by
    unfold withBlks at h
    split at h
    · obtain ⟨cs, h⟩ := withLikes_ex h
      obtain ⟨bs, h⟩ := withBlks_ex h
      exact ⟨_, h⟩
    · obtain ⟨xs, h⟩ := h
      obtain ⟨bs, h⟩ := withBlks_ex h
      exact ⟨_, h⟩
    · obtain ⟨xs, h⟩ := h
      obtain ⟨bs, h⟩ := withBlks_ex h
      exact ⟨_, h⟩
    · exact h.elim

def tokRs (toks : List Nat) : List AV → Nat → Nat → (List AV → List (Option Blk) → Prop) → Prop
  | [], _, _, k => k [] []
  | v :: r, p, j, k =>
    bif toks.elem p then
      match v with
      | .sl sz nil _ xs => tokRs toks r (p + 1) (j + 1) fun vs gs => k (.sl sz nil (some j) xs :: vs) (some (.grow sz xs.length) :: gs)
      | _ => False
    else tokRs toks r (p + 1) j fun vs gs => k (v :: vs) gs

theorem tokRs_ex {toks : List Nat} : ∀ {vs : List AV} {p j : Nat} {k : List AV → List (Option Blk) → Prop}, tokRs toks vs p j k → ∃ us gs, k us gs
  | [], _, _, _, h => ⟨_, _, h⟩
  | v :: r, p, j, k, h => by
    unfold tokRs at h
    cases hc : toks.elem p with
    | true =>
      rw [hc, cond_true] at h
      split at h
      · obtain ⟨us, gs, h⟩ := tokRs_ex h; exact ⟨_, _, h⟩
      · exact h.elim
    | false =>
      rw [hc, cond_false] at h
      obtain ⟨us, gs, h⟩ := tokRs_ex h; exact ⟨_, _, h⟩

def tokRet (toks : List Nat) (j : Nat) (v : AV) (k : AV → List (Option Blk) → Prop) : Prop :=
  match v with
  | .tup vs => tokRs toks vs 0 j fun vs gs => k (.tup vs) gs
  | v => tokRs toks [v] 0 j fun vs gs => k (vs.headD .dead) gs

theorem tokRet_ex {toks : List Nat} {j : Nat} {v : AV} {k : AV → List (Option Blk) → Prop} (h : tokRet toks j v k) : ∃ u gs, k u gs := by
  unfold tokRet at h
  split at h
  · obtain ⟨us, gs, h⟩ := tokRs_ex h; exact ⟨_, _, h⟩
  · obtain ⟨us, gs, h⟩ := tokRs_ex h; exact ⟨_, _, h⟩

def nodupB : List Nat → Bool
  | [] => true
  | x :: r => !r.elem x && nodupB r

theorem nodupB_sound : ∀ {L : List Nat}, nodupB L = true → L.Nodup
  | [], _ => List.nodup_nil
  | x :: r, h => by
    simp only [nodupB, Bool.and_eq_true, Bool.not_eq_true', List.elem_eq_mem, decide_eq_false_iff_not] at h
    exact List.nodup_cons.2 ⟨h.1, nodupB_sound h.2⟩

def lendable (hp : List (Option Blk)) (id : Nat) : Bool :=
  Nat.blt id hp.length && (match hpF hp id with | some (.grow _ _) => false | some _ => true | none => false)

def notTup : AV → Bool
  | .tup _ => false
  | _ => true

def kCall (g : Operand) (args : List Operand) (ts : List TypeId) (ann : Option Ann) (k : OK) : Prop :=
  match ev tm g with
  | .func f cap =>
    match P.funcs[f]? with
    | none => False
    | some fn =>
      match ann with
      | none =>
        bif cap.isEmpty && ts.length == args.length && (args.all fun x => notTup (ev tm x)) then
          let ids := args.flatMap fun x => viewIds (ev tm x)
          forceL (List.zipWith (fun x t => viewA (hpF hp) (fixN (szOf tab t) (ev tm x))) args ts) fun as =>
            withRet tab fn.resultTypes.toList fun r => Good P nG G0 f as [] r [] ∧ (bif r.plain || ids.isEmpty then k r [] ids else False)
        else False
      | some a =>
        let L := a.lent
        let ρ := pos L
        bif nodupB L && ts.length == args.length && L.all (lendable hp) then
          forceL (List.zipWith (fun x t => renV ρ (fixN (szOf tab t) (ev tm x))) args ts ++ cap.map (renR ρ)) fun as =>
            withRet tab fn.resultTypes.toList fun r0 => tokRet a.toks L.length r0 fun r gs =>
              withBlks ρ hp L fun HL => Good P nG G0 f as (L.map fun id => (hpF hp id).map (renB ρ)) r (HL ++ gs) ∧
                (bif HL.length == L.length && gs.all Option.isSome then k (renV (fun i => (L ++ List.range' hp.length gs.length)[i]?) r) (wsOf (fun i => (L ++ List.range' hp.length gs.length)[i]?) (L ++ List.range' hp.length gs.length) (HL ++ gs)) L else False)
        else False
  | _ => False

def kLookup (t : TypeId) (x i : Operand) (ok : Bool) (k : OK) : Prop :=
  match tab t with
  | none => False
  | some ti =>
    match ti.kind with
    | .map kt et =>
      match tab kt, tab et with
      | some ki, some ei =>
        match ki.kind, ei.cells, ev tm i with
        | .scalar (.int kd), [c], .int kd' n =>
          bif kd' == kd && !ei.kind.isAgg then
            match ev tm x with
            | .mp _ es => withCell c fun v => ∃ b, mlookD kd n (zeroA c) es = some (v, b) ∧ (match ok with | true => k (.tup [v, .bool b]) [] [] | false => k v [] [])
            | .rmp id => match hpF hp id with | some (.mp es) => withCell c fun v => ∃ b, mlookD kd n (zeroA c) es = some (v, b) ∧ (match ok with | true => k (.tup [v, .bool b]) [] [id] | false => k v [] [id]) | _ => False
            | _ => False
          else False
        | _, _, _ => False
      | _, _ => False
    | _ => False

def kMapSet (t : TypeId) (m i x : Operand) (k : OK) : Prop :=
  match tab t with
  | none => False
  | some ti =>
    match ti.kind with
    | .map kt _ =>
      match tab kt with
      | some ki =>
        match ki.kind, ev tm m, ev tm i with
        | .scalar (.int kd), .rmp id, .int kd' n =>
          match hpF hp id with
          | some (.mp es) => bif kd' == kd && (ev tm x).pureC then ∃ es', mupd kd n (ev tm x) es = some es' ∧ k .dead [(id, .mp es')] [id] else False
          | _ => False
        | _, _, _ => False
      | none => False
    | _ => False

def kRange (t : TypeId) (x : Operand) (k : OK) : Prop :=
  match tab t with
  | none => False
  | some ti =>
    match ti.kind with
    | .map _ _ => match ev tm x with | .mp _ es => k (.iter hp.length) [(hp.length, .iter es none)] [] | _ => False
    | _ => False

def kEntry (x : Operand) (k : OK) : Prop :=
  match ev tm x with
  | .iter id => match hpF hp id with | some (.iter _ (some p)) => k (.tup [p.1, p.2]) [] [id] | _ => False
  | _ => False

def kMakeSlice (t : TypeId) (l c : Operand) (k : OK) : Prop :=
  match tab t with
  | none => False
  | some ti =>
    match ti.kind with
    | .slice e =>
      match tab e with
      | none => False
      | some ei =>
        match ev tm l, ev tm c with
        | .int _ n, .int _ n' =>
          n' = n ∧ 0 ≤ n ∧ (ei.bytes : Int) * n ≤ 281474976710656 ∧ n ≤ 9223372036854775807 ∧
            forceL (ei.cells.map zeroA) fun zs => bif zs.all AV.pureC && ei.size != 0 then k (.rsl ei.size hp.length 0 n.toNat) [(hp.length, .arr ei.size (List.replicate n.toNat zs))] [] else False
        | _, _ => False
    | _ => False

def kLen (t : TypeId) (x : Operand) (k : OK) : Prop :=
  match tab t with
  | none => False
  | some ti =>
    match ti.kind with
    | .scalar .str => match ev tm x with | .str s => k (.int .i64 s.length) [] [] | _ => False
    | .slice _ => match ev tm x with | .sl _ _ _ xs => k (.int .i64 xs.length) [] [] | .rsl _ _ _ n => k (.int .i64 n) [] [] | .nils => k (.int .i64 0) [] [] | _ => False
    | .map _ _ => match ev tm x with | .mp _ es => k (.int .i64 es.length) [] [] | _ => False
    | .arr n _ => k (.int .i64 n) [] []
    | _ => False

def kAppend (t : TypeId) (x y : Operand) (k : OK) : Prop :=
  match tab t with
  | none => False
  | some ti =>
    match ti.kind with
    | .slice e =>
      match tab e with
      | none => False
      | some ei =>
        bif ei.size != 0 && ei.bytes != 0 then
          match ev tm y with
          | .sl sz2 _ _ ys =>
            bif sz2 == ei.size then
              match ev tm x with
              | .sl sz nil tok xs =>
                bif sz == ei.size then
                  match tok with
                  | some τ =>
                    match hpF hp τ with
                    | some (.grow sz' m) => bif sz' == ei.size then (xs.length + ys.length) * ei.bytes ≤ 140737488355328 ∧ xs.length = m ∧ k (.sl ei.size (nil && ys.isEmpty) (some τ) (xs ++ ys)) [(τ, .grow ei.size (m + ys.length))] [τ] else False
                    | _ => False
                  | none => match nil, xs with | true, [] => ys.length * ei.bytes ≤ 140737488355328 ∧ k (.sl ei.size ys.isEmpty (some hp.length) ys) [(hp.length, .grow ei.size ys.length)] [] | _, _ => False
                else False
              | .nils => ys.length * ei.bytes ≤ 140737488355328 ∧ k (.sl ei.size ys.isEmpty (some hp.length) ys) [(hp.length, .grow ei.size ys.length)] []
              | _ => False
            else False
          | _ => False
        else False
    | _ => False

def kBuild (t : TypeId) (parts : List (Nat × Operand)) (k : OK) : Prop :=
  match tab t with
  | none => False
  | some ti =>
    match ti.kind with
    | .struct fs =>
      bif fs.all fun f => (tab f.2).isSome then
        match fillA (fun i => match fs[i]? with | some f => some (f.1, ((tab f.2).map (·.size)).getD 0) | none => none) (ti.cells.map zeroA) (parts.map fun p => (p.1, ev tm p.2)) with
        | some res => forceL (fixCs ti.cells res) fun res => k (.agg res) [] []
        | none => False
      else False
    | .arr _ e =>
      match tab e with
      | none => False
      | some ei =>
        match fillA (fun i => some (i * ei.size, ei.size)) (ti.cells.map zeroA) (parts.map fun p => (p.1, ev tm p.2)) with
        | some res => forceL (fixCs ti.cells res) fun res => k (.agg res) [] []
        | none => False
    | _ => False

def kBuildSlice (t : TypeId) (len : Nat) (parts : List (Nat × Operand)) (k : OK) : Prop :=
  match tab t with
  | none => False
  | some ti =>
    match ti.kind with
    | .slice e =>
      match tab e with
      | none => False
      | some ei =>
        match fillA (fun i => some (i * ei.size, ei.size)) ((List.range (len * ei.size)).map fun k => (ei.cells.map zeroA).getD (k % ei.size) .dead) (parts.map fun p => (p.1, ev tm p.2)) with
        | some res => forceL (res.map AV.strip) fun res => bif res.all AV.pureC && ei.size != 0 && decide (len * ei.size ≤ 16777216) then k (.sl ei.size false (some hp.length) (chunk ei.size len res)) [(hp.length, .grow ei.size len)] [] else False
        | none => False
    | _ => False

def opK (ann : Option Ann) (k0 : OK) : Prop :=
  let k : OK := fun v ws rd => forceK (fixN (szOf tab o.type) v) fun v => bif ws.all (fun p => rd.elem p.1 || decide (hp.length ≤ p.1)) then k0 v ws rd else False
  match o.op with
  | .move x => k (ev tm x) [] []
  | .assign x => k (ev tm x) [] []
  | .pick c x y => match ev tm c with | .bool t => ifK t (k (ev tm x) [] []) (k (ev tm y) [] []) | _ => False
  | .alloc t => match tab t with | some ti => k (.ref hp.length 0) [(hp.length, .var (ti.cells.map zeroA))] [] | none => False
  | .box _ x => forceK (ev tm x) fun v => bif v.solid then k (.ref hp.length 0) [(hp.length, .var v.cells)] [] else False
  | .load t x => kLoad tab tm hp t x k
  | .store t x y => kStore tab tm hp t x y k
  | .nilCheck x => forceK (ev tm x) fun v => bif notDead (movP v 0) then k v [] [] else False
  | .fieldAddr t x f => kFieldAddr tab tm t x f k
  | .indexAddr t x i => kIndexAddr tab tm t x i k
  | .index t x i => kIndex tab tm t x i k
  | .slice t x lo hi none => kSlice tab tm t x lo hi k
  | .field t x f => kField tab tm t x f k
  | .extract x i => kExtract tm x i k
  | .makeFunc (.func f) first cap => bif first.isEmpty then kFunc tm f cap.toList k else False
  | .binOp op xt x y _ => kBin tab tm op xt x y k
  | .unOp .not _ x => kNot tm x k
  | .convert s t x => kConv tab tm s t x k
  | .build t parts => kBuild tab tm t parts.toList k
  | .buildSlice t len parts => kBuildSlice tab tm hp t len parts.toList k
  | .lookup t x i ok => kLookup tab tm hp t x i ok k
  | .makeMap _ none => k (.rmp hp.length) [(hp.length, .mp [])] []
  | .mapUpdate t m i x => kMapSet tab tm hp t m i x k
  | .insert t m i x => kMapSet tab tm hp t m i x k
  | .range t x => kRange tab tm hp t x k
  | .entry x => kEntry tm hp x k
  | .makeSlice t l c => kMakeSlice tab tm hp t l c k
  | .call { callee := .builtin .len, args, argTypes } => match args.toList, argTypes.toList with | [x], [t] => kLen tab tm t x k | _, _ => False
  | .call { callee := .builtin .min, args, .. } => match args.toList with | [x, y] => kMin tm false x y k | _ => False
  | .call { callee := .builtin .max, args, .. } => match args.toList with | [x, y] => kMin tm true x y k | _ => False
  | .call { callee := .builtin .append, args, argTypes } => match args.toList, argTypes.toList with | [x, y], [t, t'] => bif t == t' then kAppend tab tm hp t x y k else False | _, _ => False
  | .call { callee := .value g, args, argTypes } => kCall P tab nG G0 tm hp g args.toList argTypes.toList ann k
  | _ => False
end
end Go.Ab

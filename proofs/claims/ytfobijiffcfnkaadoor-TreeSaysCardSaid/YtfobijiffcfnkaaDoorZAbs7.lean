/- Single operations: strings, equality, lengths, new slices, append; no condition. -/
import Derived.Test.YtfobijiffcfnkaaDoorZAbs6
import Derived.Laws.Strings
import Derived.Laws.StructEq
import Derived.Laws.Append
namespace Go.Ab

section ops
variable {P : Program} {tab : Tab} {nG : Nat} {G0 : Nat → Option Obj} {n0 : Nat} {o : Oper} {rd : List Nat} {tm0 : Nat → AV} {hp0 : Nat → Option Blk}

theorem size_str (s : List UInt8) : (⟨s.toArray⟩ : ByteArray).size = s.length := by simp [ByteArray.size]

theorem snd_concat {xt yt : TypeId} {x y : Operand} {s r : List UInt8} (ho : o.op = .binOp .add xt x y yt) (hx : evA tm0 x = .str s) (hy : evA tm0 y = .str r) (hl : s.length + r.length ≤ 9223372036854775807) :
    OpSnd P nG G0 n0 o (.str (s ++ r)) [] rd tm0 hp0 := by
  refine OpSnd.look fun n K S tm hp a w hr' hxx _ => ?_
  have hX := VR_str (hx ▸ hxx x (by rw [ho]; simp [Op.operands]))
  have hY := VR_str (hy ▸ hxx y (by rw [ho]; simp [Op.operands]))
  refine ⟨.string ((⟨s.toArray⟩ : ByteArray) ++ ⟨r.toArray⟩), ?_, ?_⟩
  · rw [execOp_eq ho]; unfold execOp
    simp [hX, hY, eqGuard, binOp, Op.stringOp, size_str]
    omega
  · have e : ((⟨s.toArray⟩ : ByteArray) ++ ⟨r.toArray⟩) = ⟨(s ++ r).toArray⟩ := by
      apply ByteArray.ext
      simp [ByteArray.data_append]
    rw [e]
    exact (PR.str _).vr

theorem snd_streq {op : BinOp} {xt yt : TypeId} {x y : Operand} {s r : List UInt8} (ho : o.op = .binOp op xt x y yt) (hx : evA tm0 x = .str s) (hy : evA tm0 y = .str r) (hop : op = .eql ∨ op = .neq) :
    OpSnd P nG G0 n0 o (.bool (if op matches .eql then s == r else !(s == r))) [] rd tm0 hp0 := by
  refine OpSnd.look fun n K S tm hp a w hr' hxx _ => ?_
  have hX := VR_str (hx ▸ hxx x (by rw [ho]; simp [Op.operands]))
  have hY := VR_str (hy ▸ hxx y (by rw [ho]; simp [Op.operands]))
  refine ⟨_, ?_, (PR.bool _).vr⟩
  rw [execOp_eq ho]; unfold execOp
  rcases hop with rfl | rfl <;> simp [hX, hY, eqGuard, binOp, Op.stringOp]

theorem run_eql_any (P : Program) (w : World) (t : TypeId) (u v : Value) (b : Bool) (hu : match u with | .bool _ => True | .slice _ _ _ => True | .nilIface => True | .iface _ _ => True | .agg _ => True | _ => False)
    (h : (Op.equalIn (9999 + 1) t u v).run P w = .ok b w) (hv : match u, v with | .bool _, .bool _ => True | .slice _ _ _, .slice _ _ _ => True | .nilIface, .nilIface => True | .iface _ _, .nilIface => True | .agg _, .agg _ => True | _, _ => False) :
    (binOp .eql t u v).run P w = .ok (.bool b) w ∧ (binOp .neq t u v).run P w = .ok (.bool (!b)) w := by
  have h' : (Op.equal t u v).run P w = .ok b w := h
  cases u <;> simp only at hu <;> cases v <;> simp only at hv <;> constructor <;> simp only [binOp, Sem.run_bind, h', Result.andThen_ok, Sem.run_pure]

theorem snd_booleq {op : BinOp} {xt yt : TypeId} {ti : TI} {x y : Operand} {s r : Bool} (ht : TIok P xt ti) (hk : ti.kind = .scalar .bool) (ho : o.op = .binOp op xt x y yt) (hx : evA tm0 x = .bool s) (hy : evA tm0 y = .bool r) (hop : op = .eql ∨ op = .neq) :
    OpSnd P nG G0 n0 o (.bool (if op matches .eql then s == r else !(s == r))) [] rd tm0 hp0 := by
  refine OpSnd.look fun n K S tm hp a w hr' hxx _ => ?_
  have hX := VR_bool (hx ▸ hxx x (by rw [ho]; simp [Op.operands]))
  have hY := VR_bool (hy ▸ hxx y (by rw [ho]; simp [Op.operands]))
  have hkk := ht.kind
  rw [hk] at hkk
  obtain ⟨d, hd, hs⟩ := hkk
  cases d <;> simp [scalarDesc] at hs
  have hq : ∀ d, (Op.equalIn (d + 1) xt (.bool s) (.bool r)).run P w = .ok (s == r) w := fun d => by simp only [Op.equalIn, Sem.run_bind, run_under hd, Result.andThen_ok, Sem.run_pure]
  obtain ⟨k1, k2⟩ := run_eql_any P w xt (.bool s) (.bool r) _ trivial (hq _) trivial
  refine ⟨_, ?_, (PR.bool _).vr⟩
  rw [execOp_eq ho]; unfold execOp
  rcases hop with rfl | rfl <;> simp [hX, hY, eqGuard, k1, k2]

theorem snd_nileq {op : BinOp} {xt e yt : TypeId} {ti : TI} {x y : Operand} {sz : Nat} {nil : Bool} {tok : Option Nat} {xs : List (List AV)} (ht : TIok P xt ti) (hk : ti.kind = .slice e) (ho : o.op = .binOp op xt x y yt) (hx : evA tm0 x = .sl sz nil tok xs) (hy : evA tm0 y = .nils) (hop : op = .eql ∨ op = .neq) :
    OpSnd P nG G0 n0 o (.bool (if op matches .eql then nil else !nil)) [] rd tm0 hp0 := by
  refine OpSnd.look fun n K S tm hp a w hr' hxx _ => ?_
  have hX := VR_sl (hx ▸ hxx x (by rw [ho]; simp [Op.operands]))
  have hY := VR_nils (hy ▸ hxx y (by rw [ho]; simp [Op.operands]))
  have hkk := ht.kind
  rw [hk] at hkk
  have hq : ∀ d (b : Option Addr) l c, (Op.equalIn (d + 1) xt (.slice b l c) (.slice none 0 0)).run P w = .ok b.isNone w := by
    intro d b l c
    cases b <;> simp only [Op.equalIn, Sem.run_bind, run_under hkk, Result.andThen_ok, Sem.run_pure] <;> rfl
  refine ⟨_, ?_, (PR.bool _).vr⟩
  generalize hu : a.eval x = u at hX
  rw [execOp_eq ho]; unfold execOp
  have k := fun b l c => run_eql_any P w xt (.slice b l c) (.slice none 0 0) _ trivial (hq _ b l c) trivial
  cases hX <;> rcases hop with rfl | rfl <;> simp [hu, hY, eqGuard, k]

theorem snd_ifaceeq {op : BinOp} {xt yt : TypeId} {ti : TI} {x : Operand} (ht : TIok P xt ti) (hk : ti.kind = .scalar .iface) (ho : o.op = .binOp op xt x (.const .nilIface) yt) {b : Bool} (hx : evA tm0 x = if b then .iface else .nilIface) (hop : op = .eql ∨ op = .neq) :
    OpSnd P nG G0 n0 o (.bool (if op matches .eql then !b else b)) [] rd tm0 hp0 := by
  refine OpSnd.look fun n K S tm hp a w hr' hxx _ => ?_
  have hX := hxx x (by rw [ho]; simp [Op.operands])
  rw [hx] at hX
  have hkk := ht.kind
  rw [hk] at hkk
  obtain ⟨d, hd, hs⟩ := hkk
  cases d <;> simp [scalarDesc] at hs
  have q1 : ∀ d, (Op.equalIn (d + 1) xt .nilIface .nilIface).run P w = .ok true w := fun d => by simp only [Op.equalIn, Sem.run_bind, run_under hd, Result.andThen_ok, Sem.run_pure]
  have q2 : ∀ d t v, (Op.equalIn (d + 1) xt (.iface t v) .nilIface).run P w = .ok false w := fun d t v => by simp only [Op.equalIn, Sem.run_bind, run_under hd, Result.andThen_ok, Sem.run_pure]
  have hc : a.eval (.const .nilIface) = .nilIface := rfl
  have k1 := run_eql_any P w xt .nilIface .nilIface _ trivial (q1 _) trivial
  have k2 := fun t v => run_eql_any P w xt (.iface t v) .nilIface _ trivial (q2 _ t v) trivial
  refine ⟨_, ?_, (PR.bool _).vr⟩
  generalize hu : a.eval x = u at hX
  rw [execOp_eq ho]; unfold execOp
  cases b
  · simp only [VR, VRa, VRc, VR0, Bool.false_eq_true, if_false] at hX
    cases hX
    rcases hop with rfl | rfl <;> simp [hu, hc, eqGuard, k1]
  · simp only [VR, VRa, VRc, VR0, if_true] at hX
    cases hX
    rcases hop with rfl | rfl <;> simp [hu, hc, eqGuard, k2]

/-- Equality of structs whose cells are numbers, bools and texts. -/
def eqC : AV → AV → Bool
  | .bool a, .bool b => a == b
  | .int _ a, .int _ b => a == b
  | .str a, .str b => a == b
  | _, _ => false

def eqFit : CK → AV → Bool
  | .bool, .bool _ => true
  | .int k, .int k' _ => k == k'
  | .str, .str _ => true
  | _, _ => false

/-- The scalar cells of a struct, field by field. -/
def eqFs (rc : TypeId → Option (List CK)) : Nat → List (Nat × Nat) → Option (List CK)
  | _, [] => some []
  | off, (fo, ft) :: r =>
    if fo = off then
      match rc ft with
      | some a => match eqFs rc (off + a.length) r with | some b => some (a ++ b) | none => none
      | none => none
    else none

/-- The scalar cells of a type, by the table. -/
def eqPlan (tab : Tab) : Nat → TypeId → Option (List CK)
  | 0, _ => none
  | d + 1, t =>
    match tab t with
    | some ti =>
      match ti.kind with
      | .scalar c => match c with | .bool => some [.bool] | .int k => some [.int k] | .str => some [.str] | _ => none
      | .struct fs => match eqFs (eqPlan tab d) 0 fs with | some p => if p.length = ti.size then some p else none | none => none
      | _ => none
    | none => none

def eqAll : List AV → List AV → Bool
  | [], [] => true
  | a :: r, b :: s => eqC a b && eqAll r s
  | _, _ => false

theorem eqAll_append : ∀ (a b c d : List AV), a.length = b.length → eqAll (a ++ c) (b ++ d) = (eqAll a b && eqAll c d)
  | [], [], _, _, _ => by simp [eqAll]
  | x :: a, y :: b, c, d, h => by
    simp only [List.cons_append, eqAll]
    rw [eqAll_append a b c d (by simpa using h), Bool.and_assoc]
  | [], _ :: _, _, _, h => by simp at h
  | _ :: _, [], _, _, h => by simp at h

def eqFits : List CK → List AV → Bool
  | [], [] => true
  | c :: r, y :: s => eqFit c y && eqFits r s
  | _, _ => false

theorem eqFits_length : ∀ {cs : List CK} {ys : List AV}, eqFits cs ys = true → ys.length = cs.length
  | [], [], _ => rfl
  | c :: r, y :: s, h => by simp [eqFits] at h; simp [eqFits_length h.2]
  | [], _ :: _, h => by simp [eqFits] at h
  | _ :: _, [], h => by simp [eqFits] at h

theorem eqFits_append : ∀ {cs ds : List CK} {ys : List AV}, eqFits (cs ++ ds) ys = true → eqFits cs (ys.take cs.length) = true ∧ eqFits ds (ys.drop cs.length) = true
  | [], ds, ys, h => by simpa [eqFits] using h
  | c :: r, ds, [], h => by simp [eqFits] at h
  | c :: r, ds, y :: s, h => by
    simp [eqFits] at h
    have := eqFits_append h.2
    simp [eqFits, h.1, this.1, this.2]

/-- What one reads of two values, cell by cell. -/
structure CellsAre (K : KM) (S : Stb) (w : World) (ys : List AV) (vs : Array Value) : Prop where
  size : vs.size = ys.length
  cell : ∀ (j : Nat) (y : AV) (v : Value), ys[j]? = some y → vs[j]? = some v → VRc K S w y v

theorem eqC_run {K : KM} {S : Stb} {w w' : World} {P : Program} {t : TypeId} {ti : TI} {c : CK} (ht : TIok P t ti) (hk : ti.kind = .scalar c) {d : Nat} {y z : AV} {u v : Value} (hy : VRc K S w' y u) (hz : VRc K S w' z v) (f1 : eqFit c y = true) (f2 : eqFit c z = true) :
    (Op.equalIn (d + 1) t u v).run P w = .ok (eqC y z) w := by
  have hkk := ht.kind
  rw [hk] at hkk
  obtain ⟨dd, hd, hs⟩ := hkk
  cases c <;> cases y <;> simp [eqFit] at f1 <;> cases z <;> simp [eqFit] at f2
  · simp only [VRc, VR0] at hy hz
    cases hy; cases hz
    cases dd <;> simp [scalarDesc] at hs
    simp [Op.equalIn, run_under hd, eqC]
  · simp only [VRc, VR0] at hy hz
    cases hy; cases hz
    cases dd <;> simp [scalarDesc] at hs
    subst f1; subst f2
    simp [Op.equalIn, run_under hd, eqC]
  · simp only [VRc, VR0] at hy hz
    cases hy; cases hz
    cases dd <;> simp [scalarDesc] at hs
    rw [run_equalIn_string w d t _ _ hd]
    simp [eqC]

theorem eqPlan_sound (htab : TabOk P tab) {K : KM} {S : Stb} {w w' : World} : ∀ (d : Nat) (t : TypeId) (ti : TI) (plan : List CK), tab t = some ti → eqPlan tab d t = some plan → ti.size = plan.length ∧
    ∀ (e : Nat) (ys zs : List AV) (us vs : Array Value), d ≤ e → CellsAre K S w' ys us → CellsAre K S w' zs vs → eqFits plan ys = true → eqFits plan zs = true →
      (Op.equalIn e t (if ti.kind.isAgg then .agg us else us.getD 0 undef) (if ti.kind.isAgg then .agg vs else vs.getD 0 undef)).run P w = .ok (eqAll ys zs) w := by
  intro d
  induction d with
  | zero => intro t ti plan _ h; simp [eqPlan] at h
  | succ d ih =>
    intro t ti plan htt hp
    have ht := htab t ti htt
    simp only [eqPlan, htt] at hp
    cases hk : ti.kind with
    | scalar c =>
      rw [hk] at hp
      have h1 := ht.one (by rw [hk]; rfl)
      have key : plan = [c] ∧ True := by
        cases c <;> simp at hp <;> exact ⟨hp.symm, trivial⟩
      obtain ⟨rfl, _⟩ := key
      refine ⟨by simp [h1], fun e ys zs us vs he hys hzs f1 f2 => ?_⟩
      obtain ⟨e, rfl⟩ : ∃ e', e = e' + 1 := ⟨e - 1, by omega⟩
      match ys, zs, f1, f2 with
      | [y], [z], f1, f2 =>
        simp [eqFits] at f1 f2
        have hu : us[0]? = some (us.getD 0 undef) := by
          have := hys.size; simp at this
          simp [this]
        have hv : vs[0]? = some (vs.getD 0 undef) := by
          have := hzs.size; simp at this
          simp [this]
        have := eqC_run (w := w) (d := e) ht hk (hys.cell 0 y _ rfl hu) (hzs.cell 0 z _ rfl hv) f1 f2
        simpa [TK.isAgg, eqAll] using this
      | [], _, f1, _ => simp [eqFits] at f1
      | _ :: _ :: _, _, f1, _ => simp [eqFits] at f1
      | [_], [], _, f2 => simp [eqFits] at f2
      | [_], _ :: _ :: _, _, f2 => simp [eqFits] at f2
    | struct fs =>
      rw [hk] at hp
      have hkk := ht.kind
      rw [hk] at hkk
      obtain ⟨fields, hd, hm, hn, hheld⟩ := hkk
      cases hfs : eqFs (eqPlan tab d) 0 fs with
      | none => simp [hfs] at hp
      | some p =>
      simp only [hfs] at hp
      split at hp
      rotate_left
      · cases hp
      rename_i hpl
      cases hp
      refine ⟨hpl.symm, fun e ys zs us vs he hys hzs f1 f2 => ?_⟩
      obtain ⟨e, rfl⟩ : ∃ e', e = e' + 1 := ⟨e - 1, by omega⟩
      simp only [TK.isAgg, if_true]
      have hfo : P.fieldsOf t = fields := by simp [Program.fieldsOf, hd]
      rw [run_equalIn_struct w e t us vs (by rw [hfo]; exact hd) hheld, hfo]
      have hn' : ∀ f ∈ fields.toList, f.name ≠ "_" := fun f hf => hn f (by simpa using hf)
      generalize fields.toList = fl at hm hn'
      have key : ∀ (fl : List Field) (off : Nat) (p : List CK), (∀ f ∈ fl, f.name ≠ "_") → eqFs (eqPlan tab d) off (fl.map fun f => (f.offset, f.type)) = some p →
          eqFits p (ys.drop off) = true → eqFits p (zs.drop off) = true → (∀ f ∈ fl, (tab f.type).isSome) → (Op.eqFields e us vs fl).run P w = .ok (eqAll (ys.drop off) (zs.drop off)) w := by
        intro fl
        induction fl with
        | nil =>
          intro off p _ h g1 g2 _
          simp [eqFs] at h
          subst h
          have e1 := eqFits_length g1
          have e2 := eqFits_length g2
          have e1' : ys.drop off = [] := List.eq_nil_of_length_eq_zero (by simpa using e1)
          have e2' : zs.drop off = [] := List.eq_nil_of_length_eq_zero (by simpa using e2)
          rw [e1', e2']
          simp [Op.eqFields, eqAll]
        | cons f fl ihf =>
          intro off p hnn h g1 g2 hts
          simp only [List.map_cons, eqFs] at h
          split at h
          rotate_left
          · cases h
          rename_i hoff
          cases ha : eqPlan tab d f.type with
          | none => rw [ha] at h; simp at h
          | some a =>
          rw [ha] at h
          simp only at h
          cases hb : eqFs (eqPlan tab d) (off + a.length) (fl.map fun f => (f.offset, f.type)) with
          | none => rw [hb] at h; simp at h
          | some b =>
          rw [hb] at h
          cases h
          obtain ⟨fti, hft⟩ := Option.isSome_iff_exists.1 (hts f (by simp))
          obtain ⟨hsz, hrun⟩ := ih f.type fti a hft ha
          obtain ⟨g1a, g1b⟩ := eqFits_append g1
          obtain ⟨g2a, g2b⟩ := eqFits_append g2
          have l1 := eqFits_length g1
          have l2 := eqFits_length g2
          simp only [List.length_drop, List.length_append] at l1 l2
          have hus := hys.size
          have hvs := hzs.size
          have htf := htab f.type fti hft
          rcases Nat.eq_zero_or_pos a.length with hz | hpos
          · -- an empty struct is none of ours
            have hag : fti.kind.isAgg = true := by
              cases hc : fti.kind.isAgg with
              | true => rfl
              | false => have := htf.one hc; omega
            have hpart : ∀ x : Array Value, (part f.type x f.offset).run P w = .ok (.agg #[]) w := by
              intro x
              simp [part, htf.run_isAgg, hag, htf.run_size, hsz, hz]
              omega
            have hq := hrun e [] [] #[] #[] (by omega) ⟨rfl, fun j y v hy => by simp at hy⟩ ⟨rfl, fun j y v hy => by simp at hy⟩ (by rw [List.eq_nil_of_length_eq_zero hz]; rfl) (by rw [List.eq_nil_of_length_eq_zero hz]; rfl)
            rw [hag] at hq
            simp only [if_true] at hq
            simp only [Op.eqFields, ne_eq, hnn f (by simp), not_false_eq_true, if_true, Sem.run_bind, hpart, Result.andThen_ok, hq, eqAll, Bool.not_true, Bool.false_eq_true, if_false]
            have := ihf (off + a.length) b (fun f hf => hnn f (by simp [hf])) hb (by rw [← List.drop_drop]; exact g1b) (by rw [← List.drop_drop]; exact g2b) (fun f hf => hts f (by simp [hf]))
            rw [hz, Nat.add_zero] at this
            exact this
          · have hpart : ∀ (x : Array Value) (xs : List AV), x.size = xs.length → off + a.length ≤ xs.length → (part f.type x f.offset).run P w = .ok (if fti.kind.isAgg then .agg ((List.range fti.size).map fun j => x[off + j]?.getD undef).toArray else ((List.range fti.size).map fun j => x[off + j]?.getD undef).toArray.getD 0 undef) w := by
              intro x xs hx hle
              rw [run_part htf w x f.offset (by omega) (fun j => x[off + j]?.getD undef) (fun j hj => by
                have : off + j < x.size := by omega
                rw [hoff]
                simp [this])]
              congr 2
              have : 0 < fti.size := by omega
              simp [this]
            have hcells : ∀ (x : Array Value) (xs : List AV), CellsAre K S w' xs x → off + a.length ≤ xs.length → CellsAre K S w' ((xs.drop off).take a.length) ((List.range fti.size).map fun j => x[off + j]?.getD undef).toArray := by
              intro x xs hx hle
              refine ⟨by simp [hsz]; omega, fun j y v hy hv => ?_⟩
              have hj : j < a.length := by
                have := (List.getElem?_eq_some_iff.1 hy).1
                simp at this; omega
              rw [List.getElem?_take, if_pos hj, List.getElem?_drop] at hy
              have h2 : off + j < x.size := by rw [hx.size]; exact (List.getElem?_eq_some_iff.1 hy).1
              simp [hsz, hj] at hv
              subst hv
              exact hx.cell _ y _ hy (by simp [h2])
            have hq := hrun e _ _ _ _ (by omega) (hcells us ys hys (by omega)) (hcells vs zs hzs (by omega)) g1a g2a
            simp only [Op.eqFields, ne_eq, hnn f (by simp), not_false_eq_true, if_true, Sem.run_bind, hpart us ys hus (by omega), hpart vs zs hvs (by omega), Result.andThen_ok, hq]
            have hrest := ihf (off + a.length) b (fun f hf => hnn f (by simp [hf])) hb (by rw [← List.drop_drop]; exact g1b) (by rw [← List.drop_drop]; exact g2b) (fun f hf => hts f (by simp [hf]))
            have hsplit : eqAll (ys.drop off) (zs.drop off) = (eqAll ((ys.drop off).take a.length) ((zs.drop off).take a.length) && eqAll (ys.drop (off + a.length)) (zs.drop (off + a.length))) := by
              rw [← List.drop_drop, ← List.drop_drop, ← eqAll_append _ _ _ _ (by simp; omega), List.take_append_drop, List.take_append_drop]
            rw [hsplit]
            cases heq : eqAll ((ys.drop off).take a.length) ((zs.drop off).take a.length)
            · simp
            · simp [hrest]
      have hts : ∀ (fl : List Field) (off : Nat) (p : List CK), eqFs (eqPlan tab d) off (fl.map fun f => (f.offset, f.type)) = some p → ∀ f ∈ fl, (tab f.type).isSome := by
        intro fl
        induction fl with
        | nil => intro _ _ _ f hf; simp at hf
        | cons g fl ihg =>
          intro off p h f hf
          simp only [List.map_cons, eqFs] at h
          split at h
          rotate_left
          · cases h
          cases ha : eqPlan tab d g.type with
          | none => rw [ha] at h; simp at h
          | some a =>
          rw [ha] at h
          simp only at h
          cases hb : eqFs (eqPlan tab d) (off + a.length) (fl.map fun f => (f.offset, f.type)) with
          | none => rw [hb] at h; simp at h
          | some b =>
          rcases List.mem_cons.1 hf with rfl | hf
          · cases d with
            | zero => simp [eqPlan] at ha
            | succ d =>
              simp only [eqPlan] at ha
              cases htt' : tab f.type with
              | none => rw [htt'] at ha; simp at ha
              | some x => rfl
          · exact ihg _ b hb f hf
      rw [← hm] at hfs
      have := key fl 0 plan hn' hfs (by simpa using f1) (by simpa using f2) (hts fl 0 plan hfs)
      simpa using this
    | _ => rw [hk] at hp; simp at hp
end ops
end Go.Ab

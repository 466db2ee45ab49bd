/- A law's contract out of the contract here: whatever comes in, true; what came in reads as it did; no condition. -/
import Derived.Test.YtfobijiffcfnkaaDoorZAbsQ
namespace Go.Ab
open Go.ChangeShapes Go.WideShapes Go.ChangeAt Go.RowKit

section
variable {H : Type} {enc : TypeId × Value → H} {P : Program}

theorem post_below {f : Func} {s : ChangeSpec} {apart fresh handsOn again : Bool} {W W' : World} {args : Array Value} {v : Value} {ds : List (DataW H)} {before : List MemPlace}
    (hvar : s.vars = []) (hW : DataW.Whole enc P f.params.toList s.vars apart W args.toList ds [] before) (hargsE : (s.fn H (ds ++ [])).args = ds) (hvarsE : (s.fn H (ds ++ [])).vars = [])
    (hres : ∀ (b : Nat) (sp : Nat → Bool) (hd : Bool), DataW.TrodAll enc P W' b sp hd f.resultTypes.toList (v.resultList f.resultTypes.size) (s.fn H (ds ++ [])).results [])
    (hl : laidOutB P = true) (hp : ∀ t ∈ f.params.toList, P.readableRec t = true ∧ t < P.types.size) (hb : Below W.heap.size W W')
    (hok : ∀ (j : Nat) (t : TypeId) (r : Value), f.resultTypes[j]? = some t → (v.resultList f.resultTypes.size)[j]? = some r → Value.okWide P W' .any 0 t r) :
    s.post enc P f apart fresh handsOn again W args v W' := by
  have hlt := hW.lt
  have hWW := hW
  obtain ⟨p, q, hA, hV, hps, hz, hn⟩ := hWW
  rw [hvar] at hV
  have hq : q = [] := hV
  subst hq
  rw [List.append_nil] at hps
  subst hps
  have stay : ∀ (sp : Nat → Bool), (∀ x ∈ before, sp x.block = true) → DataW.TrodAll enc P W' 0 sp true f.params.toList args.toList ds before := by
    intro sp hsp
    have key : ∀ (ts : List TypeId) (vs : List Value) (ds : List (DataW H)) (ps : List MemPlace), (∀ t ∈ ts, P.readableRec t = true ∧ t < P.types.size) → (∀ x ∈ ps, x.block < W.heap.size) → (∀ x ∈ ps, sp x.block = true) →
        DataW.TrodAll enc P W 0 (fun _ => true) true ts vs ds ps → DataW.TrodAll enc P W' 0 sp true ts vs ds ps := by
      intro ts
      induction ts with
      | nil =>
        intro vs ds ps _ _ _ h
        cases vs <;> cases ds <;> exact h
      | cons t ts ih =>
        intro vs ds ps h1 h2 h3 h
        cases vs with
        | nil => exact h.elim
        | cons v vs =>
          cases ds with
          | nil => exact h.elim
          | cons d ds =>
            obtain ⟨p, q, ha, hb', rfl⟩ := h
            refine ⟨p, q, WideElems.Trod_stays hl (h1 t (by simp)).1 (h1 t (by simp)).2 ha (fun x hx => hb.same (h2 x (by simp [hx]))) (fun x hx => h3 x (by simp [hx])), ih vs ds q (fun t ht => h1 t (by simp [ht])) (fun x hx => h2 x (by simp [hx])) (fun x hx => h3 x (by simp [hx])) hb', rfl⟩
    exact key _ _ _ _ hp hlt hsp hA
  have hold : ∀ x ∈ before, (fun b => decide (b < W.heap.size)) x.block = true := fun x hx => by simpa using hlt x hx
  have hvs : ∀ sp : Nat → Bool, DataW.TrodVars enc P W' sp s.vars ([] : List (DataW H)) [] := fun sp => by rw [hvar]; rfl
  refine ⟨ds, [], before, [], before, [], hW, hres _ _ _, by rw [hargsE]; exact stay _ hold, by rw [hvarsE]; exact hvs _, ⟨hb.os, hb.output, fun i hi => ?_⟩, fun _ => ?_⟩
  · rw [hb.block i hi]
    cases W.heap[i]? with
    | none => rfl
    | some o => cases o <;> simp
  · refine ⟨hok, _, _, ([] ++ before) ++ [], ⟨[] ++ before, [], trodAll_append (stay _ fun _ _ => rfl) (hres _ _ _), hvs _, rfl, ?_, ?_⟩, ?_⟩
    · intro b off hx
      have hx' : MemPlace.cell b off ∈ before := by simpa using hx
      have hz' := hz b off hx'
      have hlt' : b < W.heap.size := hlt _ hx'
      simp only [World.frozen?] at hz' ⊢
      rw [hb.block b hlt']
      exact hz'
    · intro ha
      simpa using hn ha
    · intro x hx _
      simpa using hx

/-- The arguments, as values of the abstract side. -/
def argA (P : Program) (t : TypeId) (ys : List AV) : AV :=
  match P.underlying t with
  | some (.struct _) => .agg ys
  | some (.array _ _) => .agg ys
  | _ => ys.headD .dead

def Shps (P : Program) (m : Nat) : List TypeId → List AV → Prop
  | [], [] => True
  | t :: ts, y :: ys => (∃ cs, Shp P m t cs ∧ y = argA P t cs) ∧ Shps P m ts ys
  | _, _ => False

theorem arg_pr {W : World} {K : KM} {m : Nat} {t : TypeId} {v : Value} {d : DataW H} {ps : List MemPlace} {b : Nat} (hs : supB P m t = true) (hval : Value.okWide P W .any b t v) (h : DataW.Trod enc P W 0 (fun _ => true) true t v d ps) (hsz : v.cells.size = P.cellsOf t) :
    ∃ cs, Shp P m t cs ∧ VR K (allS W) W (argA P t cs) v := by
  obtain ⟨fuel, hf⟩ := h
  obtain ⟨ys, h1, h2⟩ := trod_pr fuel t _ _ hf m hs (by simpa using hsz)
  refine ⟨ys, h2, ?_⟩
  have one : ∀ c : Value, v = c → v.cells = #[c] → (match P.underlying t with | some (.struct _) => False | some (.array _ _) => False | _ => True) → VR K (allS W) W (argA P t ys) v := by
    intro c hv hc hu
    have hl := h1.1
    rw [hc] at hl
    match ys, hl with
    | [y], _ =>
      have := (h1.2 0 y c rfl (by rw [hc]; rfl)).vr (K := K)
      have he : argA P t [y] = y := by
        unfold argA
        split
        · rename_i h; rw [h] at hu; exact hu.elim
        · rename_i h; rw [h] at hu; exact hu.elim
        · rfl
      rw [he, hv]; exact this
  cases m with
  | zero => simp [supB] at hs
  | succ m =>
  simp only [supB] at hs
  cases hu : P.underlying t with
  | none => rw [hu] at hs; simp at hs
  | some dd =>
  rw [hu] at hs
  cases dd <;> simp at hs
  case bool => obtain ⟨x, rfl⟩ := okWide_bool hu hval; exact one _ rfl rfl (by rw [hu]; trivial)
  case int k => obtain ⟨x, rfl⟩ := okWide_int hu hval; exact one _ rfl rfl (by rw [hu]; trivial)
  case string => obtain ⟨x, rfl⟩ := okWide_string hu hval; exact one _ rfl rfl (by rw [hu]; trivial)
  case slice e => obtain ⟨x, y, z, rfl⟩ := okWide_slice hu hval; exact one _ rfl rfl (by rw [hu]; trivial)

theorem args_pr {W : World} {K : KM} {m : Nat} {b : Nat} : ∀ (ts : List TypeId) (vs : List Value) (ds : List (DataW H)) (ps : List MemPlace), (∀ t ∈ ts, supB P m t = true ∧ P.cellsOf t = 1) →
    (∀ (j : Nat) (t : TypeId) (v : Value), ts[j]? = some t → vs[j]? = some v → Value.okWide P W .any b t v ∧ v.cells.size = 1) → DataW.TrodAll enc P W 0 (fun _ => true) true ts vs ds ps →
    ∃ ys, Shps P m ts ys ∧ VRs K (allS W) W ys vs
  | [], [], [], _, _, _, _ => ⟨[], trivial, rfl, fun j y u hy => by simp at hy⟩
  | t :: ts, v :: vs, d :: ds, ps, h1, h2, h => by
    obtain ⟨p, q, ha, hb, rfl⟩ := h
    obtain ⟨cs, g1, g2⟩ := arg_pr (K := K) (h1 t (by simp)).1 (h2 0 t v rfl rfl).1 ha (by rw [(h2 0 t v rfl rfl).2, (h1 t (by simp)).2])
    obtain ⟨ys, g3, g4, g5⟩ := args_pr (K := K) ts vs ds q (fun t ht => h1 t (by simp [ht])) (fun j t v h3 h4 => h2 (j + 1) t v (by simpa using h3) (by simpa using h4)) hb
    refine ⟨argA P t cs :: ys, ⟨⟨cs, g1, rfl⟩, g3⟩, by simp [g4], fun j y u hy hu => ?_⟩
    cases j with
    | zero => simp at hy hu; subst hy; subst hu; exact g2
    | succ j => exact g5 j y u (by simpa using hy) (by simpa using hu)
  | [], [], _ :: _, _, _, _, h => h.elim
  | [], _ :: _, _, _, _, _, h => h.elim
  | _ :: _, [], _, _, _, _, h => h.elim
  | _ :: _, _ :: _, [], _, _, _, h => h.elim

theorem okWide_one {W : World} {m : Nat} {t : TypeId} {v : Value} {b : Nat} (hs : supB P m t = true) (hval : Value.okWide P W .any b t v) : v.cells.size = 1 := by
  cases m with
  | zero => simp [supB] at hs
  | succ m =>
  simp only [supB] at hs
  cases hu : P.underlying t with
  | none => rw [hu] at hs; simp at hs
  | some dd =>
  rw [hu] at hs
  cases dd <;> simp at hs
  case bool => obtain ⟨x, rfl⟩ := okWide_bool hu hval; rfl
  case int k => obtain ⟨x, rfl⟩ := okWide_int hu hval; rfl
  case string => obtain ⟨x, rfl⟩ := okWide_string hu hval; rfl
  case slice e => obtain ⟨x, y, z, rfl⟩ := okWide_slice hu hval; rfl

theorem law_contract {nG : Nat} {f : FuncId} {fn : Func} {s : ChangeSpec} {apart fresh handsOn again : Bool} {W : World} {args : Array Value} {ds : List (DataW H)} {before : List MemPlace} {base m bt : Nat}
    (hl : laidOutB P = true) (hpar : ∀ t ∈ fn.params.toList, P.readableRec t = true ∧ t < P.types.size ∧ supB P m t = true ∧ P.cellsOf t = 1) (hrt : fn.resultTypes = #[bt]) (hbt : P.underlying bt = some .bool)
    (hval : ∀ (j : Nat) t v, fn.params[j]? = some t → args[j]? = some v → Value.okWide P W .any base t v)
    (hvar : s.vars = []) (hW : DataW.Whole enc P fn.params.toList s.vars apart W args.toList ds [] before) (hresE : (s.fn H (ds ++ [])).results = [.lit (.bool true)]) (hargsE : (s.fn H (ds ++ [])).args = ds) (hvarsE : (s.fn H (ds ++ [])).vars = [])
    (hnG : nG ≤ W.heap.size) (hgood : ∀ ys, Shps P m fn.params.toList ys → Good P nG (fun b => W.heap[b]?) f ys [] (.bool true) []) :
    Calls P f args W fun e W' => ∃ v, e = .returned v ∧ s.post enc P fn apart fresh handsOn again W args v W' := by
  have hWW := hW
  obtain ⟨p, q, hA, _, _, _, _⟩ := hWW
  obtain ⟨ys, h1, h2⟩ := args_pr (K := fun _ => none) (m := m) (b := base) fn.params.toList args.toList ds p (fun t ht => ⟨(hpar t ht).2.2.1, (hpar t ht).2.2.2⟩)
    (fun j t v hj hv => by
      have ho := hval j t v (by simpa using hj) (by simpa using hv)
      exact ⟨ho, okWide_one (hpar t (List.mem_of_getElem? hj)).2.2.1 ho⟩) hA
  have hrel : HRel nG (fun b => W.heap[b]?) (fun _ => none) (allS W) (hpF []) W :=
    ⟨fun _ => rfl, fun id bl ki _ hk => (by cases hk), fun id id' ki ki' b hk => (by cases hk), fun b off hs => hs, fun b off id ki _ hk => (by cases hk), fun id ki b hk => (by cases hk), fun b _ => rfl, hnG⟩
  have hc := (hgood ys h1).calls W _ _ args.toList hrel h2
  rw [Array.toArray_toList] at hc
  refine hc.mono fun e W' ⟨v, K', S', he, hr', hv, hx⟩ => ⟨v, he, ?_⟩
  have hv : v = .bool true := VR_bool hv
  subst hv
  refine post_below hvar hW hargsE hvarsE (fun b sp hd => ?_) hl (fun t ht => ⟨(hpar t ht).1, (hpar t ht).2.1⟩) ⟨hx.os, hx.tape, hx.output, hx.size, fun b hb => hx.frame b hb fun id ki hk => by cases hk⟩ (ok_one hrt rfl (okWide_bool_mk hbt _))
  rw [hresE, hrt]
  exact trodAll_mk1 (shut_bool hbt _)
end
end Go.Ab

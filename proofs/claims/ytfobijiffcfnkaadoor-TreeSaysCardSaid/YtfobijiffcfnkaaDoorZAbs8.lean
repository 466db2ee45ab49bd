/- Single operations: structs compared, lengths, structs and slices built; no condition. -/
import Derived.Test.YtfobijiffcfnkaaDoorZAbs7
namespace Go.Ab

/-- What is asked of a program. -/
structure ProgOk (P : Program) (tab : Tab) : Prop where
  tab : TabOk P tab
  depth : 20 ≤ P.depth
  mixed : P.follows .mixedOrders = true

section ops
variable {P : Program} {tab : Tab} {nG : Nat} {G0 : Nat → Option Obj} {n0 : Nat} {o : Oper} {rd : List Nat} {tm0 : Nat → AV} {hp0 : Nat → Option Blk}

theorem eqPlan_guard (htab : TabOk P tab) : ∀ (d : Nat) (t : TypeId) (plan : List CK), eqPlan tab d t = some plan → ∀ e, d ≤ e → P.eqGuardType e t = false := by
  intro d
  induction d with
  | zero => intro t plan h; simp [eqPlan] at h
  | succ d ih =>
    intro t plan hp e he
    obtain ⟨e, rfl⟩ : ∃ e', e = e' + 1 := ⟨e - 1, by omega⟩
    simp only [eqPlan] at hp
    cases htt : tab t with
    | none => simp [htt] at hp
    | some ti =>
    have ht := htab t ti htt
    simp only [htt] at hp
    cases hk : ti.kind with
    | scalar c =>
      have hkk := ht.kind
      rw [hk] at hkk
      obtain ⟨dd, hd, hs⟩ := hkk
      rw [hk] at hp
      cases c <;> simp at hp <;> cases dd <;> simp [scalarDesc] at hs <;> simp [Program.eqGuardType, hd]
    | struct fs =>
      have hkk := ht.kind
      rw [hk] at hkk
      obtain ⟨fields, hd, hm, hn, hheld⟩ := hkk
      rw [hk] at hp
      cases hfs : eqFs (eqPlan tab d) 0 fs with
      | none => simp [hfs] at hp
      | some p =>
      simp only [Program.eqGuardType, hd]
      rw [Array.any_eq_false']
      intro f hf
      have key : ∀ (fl : List Field) (off : Nat) (p : List CK), eqFs (eqPlan tab d) off (fl.map fun f => (f.offset, f.type)) = some p → ∀ f ∈ fl, ∃ q, eqPlan tab d f.type = some q := by
        intro fl
        induction fl with
        | nil => intro _ _ _ f hf; simp at hf
        | cons g fl ihg =>
          intro off p h f hf
          simp only [List.map_cons, eqFs] at h
          split at h
          rotate_left
          · cases h
          cases ha : eqPlan tab d g.type with
          | none => rw [ha] at h; simp at h
          | some a =>
          rw [ha] at h
          simp only at h
          cases hb : eqFs (eqPlan tab d) (off + a.length) (fl.map fun f => (f.offset, f.type)) with
          | none => rw [hb] at h; simp at h
          | some b =>
          rcases List.mem_cons.1 hf with rfl | hf
          · exact ⟨a, ha⟩
          · exact ihg _ b hb f hf
      rw [← hm] at hfs
      obtain ⟨q, hq⟩ := key fields.toList 0 p hfs f (by simpa using hf)
      simp [ih f.type q hq e (by omega)]
    | _ => simp [hk] at hp

theorem snd_aggeq {op : BinOp} {xt yt : TypeId} {ti : TI} {x y : Operand} {ys zs : List AV} {plan : List CK} (hP : ProgOk P tab) (htt : tab xt = some ti) (hag : ti.kind.isAgg = true) (hplan : eqPlan tab 20 xt = some plan)
    (ho : o.op = .binOp op xt x y yt) (hx : evA tm0 x = .agg ys) (hy : evA tm0 y = .agg zs) (f1 : eqFits plan ys = true) (f2 : eqFits plan zs = true) (hop : op = .eql ∨ op = .neq) :
    OpSnd P nG G0 n0 o (.bool (if op matches .eql then eqAll ys zs else !(eqAll ys zs))) [] rd tm0 hp0 := by
  refine OpSnd.look fun n K S tm hp a w hr' hxx _ => ?_
  obtain ⟨us, hu, hul, huv⟩ := VR_agg (hx ▸ hxx x (by rw [ho]; simp [Op.operands]))
  obtain ⟨vs, hv, hvl, hvv⟩ := VR_agg (hy ▸ hxx y (by rw [ho]; simp [Op.operands]))
  have hq := (eqPlan_sound (P := P) (w := w) hP.tab (K := K) (S := S) (w' := w) 20 xt ti plan htt hplan).2 10000 ys zs us vs (by omega) ⟨hul, huv⟩ ⟨hvl, hvv⟩ f1 f2
  rw [hag] at hq
  simp only [if_true] at hq
  have hg := eqPlan_guard hP.tab 20 xt plan hplan P.depth hP.depth
  refine ⟨_, ?_, (PR.bool _).vr⟩
  rw [execOp_eq ho]; unfold execOp
  rcases hop with rfl | rfl
  · simp only [hu, hv, Sem.run_bind, run_eqGuard_agg w .eql xt x y us vs hg, Result.andThen_ok, run_eql_struct, hq, Sem.run_pure]; simp
  · simp only [hu, hv, Sem.run_bind, run_eqGuard_agg w .neq xt x y us vs hg, Result.andThen_ok, run_neq_struct, hq, Sem.run_pure]; simp

/-- The length of a value. -/
def lenA : AV → Option Nat
  | .str s => some s.length
  | .sl _ _ _ xs => some xs.length
  | .rsl _ _ _ len => some len
  | .nils => some 0
  | .mp _ es => some es.length
  | _ => none

theorem run_builtin {b : Builtin} {args : Array Operand} {ts : Array TypeId} {ρ : Operand → Value} (ho : o.op = .call { callee := .builtin b, args := args, argTypes := ts }) (w : World) :
    (execOp ρ o).run P w = (builtin b ts o.type (args.map fun | .const _ => true | _ => false) (args.map ρ)).run P w := by
  rw [execOp_eq ho]; unfold execOp
  simp [resolve, invoke]
  rfl

theorem snd_len {t : TypeId} {ti : TI} {x : Operand} {l : Nat} (ht : TIok P t ti) (ho : o.op = .call { callee := .builtin .len, args := #[x], argTypes := #[t] })
    (hk : match ti.kind, evA tm0 x with | .scalar .str, .str s => l = s.length | .slice _, .sl _ _ _ xs => l = xs.length | .slice _, .rsl _ _ _ n => l = n | .slice _, .nils => l = 0 | .map _ _, .mp _ es => l = es.length | .arr n _, _ => l = n | _, _ => False) :
    OpSnd P nG G0 n0 o (.int .i64 l) [] rd tm0 hp0 := by
  refine OpSnd.look fun n K S tm hp a w hr' hxx _ => ?_
  have hX := hxx x (by rw [ho]; simp [Op.operands, Call.operands])
  refine ⟨.int .i64 l, ?_, (PR.int _ _).vr⟩
  rw [run_builtin ho]
  have hkk := ht.kind
  generalize he : evA tm0 x = y at hk hX
  generalize hu : a.eval x = u at hX
  cases hkd : ti.kind with
  | scalar c =>
    rw [hkd] at hk hkk
    cases c <;> cases y <;> simp at hk
    obtain ⟨d, hd, hs⟩ := hkk
    cases d <;> simp [scalarDesc] at hs
    have := VR_str hX
    subst this
    subst hk
    simp [builtin, Builtin.len_, run_under hd, hu, size_str, goInt]
  | slice e =>
    rw [hkd] at hk hkk
    cases y <;> simp at hk
    · have h := VR_sl hX
      subst hk
      cases h <;> simp [builtin, Builtin.len_, run_under hkk, hu, goInt]
    · obtain ⟨b, m, cap, _, _, _, rfl⟩ := VR_rsl hX
      subst hk
      simp [builtin, Builtin.len_, run_under hkk, hu, goInt]
    · have := VR_nils hX
      subst this
      subst hk
      simp [builtin, Builtin.len_, run_under hkk, hu, goInt]
  | arr m e =>
    rw [hkd] at hk hkk
    have hk' : l = m := by cases y <;> exact hk
    subst hk'
    simp [builtin, Builtin.len_, run_under hkk, goInt]
  | struct fs => rw [hkd] at hk; cases y <;> simp at hk
  | map k e =>
    rw [hkd] at hk hkk
    cases y <;> simp at hk
    have h := VR_mp hX
    subst hk
    cases h with
    | mpNil => simp [builtin, Builtin.len_, run_under hkk, hu, goInt]
    | mp b es ents clock hb hh hok _ _ => simp [builtin, Builtin.len_, run_under hkk, hu, getObj, Sem.run, hh, hok.size, goInt]

theorem snd_min {x y : Operand} {ts : Array TypeId} {k k' : IntKind} {i j : Int} {b : Builtin} (hb : b = .min ∨ b = .max) (ho : o.op = .call { callee := .builtin b, args := #[x, y], argTypes := ts }) (hx : evA tm0 x = .int k i) (hy : evA tm0 y = .int k' j) :
    OpSnd P nG G0 n0 o (.int k (if b matches .min then (if j < i then j else i) else (if j > i then j else i))) [] rd tm0 hp0 := by
  refine OpSnd.look fun n K S tm hp a w hr' hxx _ => ?_
  have hX := VR_int (hx ▸ hxx x (by rw [ho]; simp [Op.operands, Call.operands]))
  have hY := VR_int (hy ▸ hxx y (by rw [ho]; simp [Op.operands, Call.operands]))
  refine ⟨_, ?_, (PR.int _ _).vr⟩
  rw [run_builtin ho]
  rcases hb with rfl | rfl
  · simp [builtin, Builtin.min_, Builtin.min2, hX, hY]
  · simp [builtin, Builtin.max_, Builtin.max2, hX, hY]

theorem snd_convert {s t : TypeId} {si ti : TI} {x : Operand} {k k' : IntKind} {i : Int} (hs : TIok P s si) (ht : TIok P t ti) (hsk : si.kind = .scalar (.int k)) (htk : ti.kind = .scalar (.int k')) (ho : o.op = .convert s t x) (hx : evA tm0 x = .int k i) :
    OpSnd P nG G0 n0 o (.int k' (k'.wrap i)) [] rd tm0 hp0 := by
  refine OpSnd.look fun n K S tm hp a w hr' hxx _ => ?_
  have hX := VR_int (hx ▸ hxx x (by rw [ho]; simp [Op.operands]))
  have h1 := hs.kind
  have h2 := ht.kind
  rw [hsk] at h1
  rw [htk] at h2
  obtain ⟨d, hd, hds⟩ := h1
  obtain ⟨d', hd', hds'⟩ := h2
  cases d <;> simp [scalarDesc] at hds
  cases d' <;> simp [scalarDesc] at hds'
  subst hds; subst hds'
  refine ⟨_, ?_, (PR.int _ _).vr⟩
  rw [execOp_eq ho]; unfold execOp
  simp [convert, run_under hd, run_under hd', hX, Conv.intToInt]

/-- Filling the parts of a struct or an array. -/
def fillA (place : Nat → Option (Nat × Nat)) (cells : List AV) : List (Nat × AV) → Option (List AV)
  | [] => some cells
  | (i, v) :: rest =>
    match place i with
    | none => none
    | some (off, size) =>
      if v.cells.length ≠ size || off + v.cells.length > cells.length || !v.solid then none
      else fillA place (setR cells off v.cells) rest

theorem foldl_set (vs : List Value) : ∀ (i off : Nat) (cs : Array Value), (∀ (j : Nat), ((vs.zipIdx i).foldl (fun cs (c, j) => cs.setIfInBounds (off + j) c) cs)[j]? =
    if off + i ≤ j ∧ j < off + i + vs.length ∧ j < cs.size then vs[j - (off + i)]? else cs[j]?) ∧ ((vs.zipIdx i).foldl (fun cs (c, j) => cs.setIfInBounds (off + j) c) cs).size = cs.size := by
  induction vs with
  | nil => intro i off cs; simp; intro j h1 h2; omega
  | cons v vs ih =>
    intro i off cs
    simp only [List.zipIdx_cons, List.foldl_cons, List.length_cons]
    obtain ⟨h1, h2⟩ := ih (i + 1) off (cs.setIfInBounds (off + i) v)
    refine ⟨fun j => ?_, by rw [h2]; simp⟩
    rw [h1 j]
    simp only [Array.size_setIfInBounds]
    by_cases hj : j = off + i
    · subst hj
      rw [if_neg (by omega)]
      by_cases hlt : off + i < cs.size
      · rw [if_pos (by omega)]; simp [hlt]
      · rw [if_neg (by omega)]; simp [hlt]
    · by_cases hc : off + (i + 1) ≤ j ∧ j < off + (i + 1) + vs.length ∧ j < cs.size
      · rw [if_pos hc, if_pos (by omega), show j - (off + i) = (j - (off + (i + 1))) + 1 from by omega]
        simp
      · rw [if_neg hc, if_neg (by omega), Array.getElem?_setIfInBounds_ne (by omega)]

theorem fill_sound {K : KM} {S : Stb} {w : World} {place : Nat → Option (Nat × Nat)} : ∀ (ps : List (Nat × AV)) (qs : List (Nat × Value)) (cells : List AV) (cs : Array Value) (res : List AV), ps.length = qs.length →
    (∀ (j : Nat) (p : Nat × AV) (q : Nat × Value), ps[j]? = some p → qs[j]? = some q → p.1 = q.1 ∧ VR K S w p.2 q.2) → CellsAre K S w cells cs → fillA place cells ps = some res →
    ∃ rs, Instr.fill place cs qs = some rs ∧ CellsAre K S w res rs ∧ res.length = cells.length := by
  intro ps
  induction ps with
  | nil =>
    intro qs cells cs res hl _ hc hf
    cases qs with
    | nil => simp [fillA] at hf; subst hf; exact ⟨cs, rfl, hc, rfl⟩
    | cons => simp at hl
  | cons p ps ih =>
    intro qs cells cs res hl hpq hc hf
    cases qs with
    | nil => simp at hl
    | cons q qs =>
    obtain ⟨i, v⟩ := p
    obtain ⟨i', u⟩ := q
    obtain ⟨rfl, hv'⟩ := hpq 0 (i, v) (i', u) rfl rfl
    have hv : VR K S w v u := hv'
    simp only [fillA] at hf
    cases hp : place i with
    | none => simp [hp] at hf
    | some os =>
    obtain ⟨off, size⟩ := os
    simp only [hp] at hf
    split at hf
    · cases hf
    rename_i hcond
    simp at hcond
    obtain ⟨⟨h1, h2⟩, h3⟩ := hcond
    obtain ⟨hs, hcv⟩ := hv.cells h3
    obtain ⟨g1, g2⟩ := foldl_set u.cells.toList 0 off cs
    have hnew : CellsAre K S w (setR cells off v.cells) ((u.cells.toList.zipIdx 0).foldl (fun cs (c, j) => cs.setIfInBounds (off + j) c) cs) := by
      refine ⟨by rw [g2, setR_length (by omega)]; exact hc.size, fun j y z hy hz => ?_⟩
      rw [setR_get (by omega)] at hy
      rw [g1 j] at hz
      split at hy
      · rename_i hh
        rw [if_pos (by simp; have := hc.size; omega)] at hz
        exact (hcv _ y z hy (by simpa using hz)).1
      · rename_i hh
        rw [if_neg (by simp; have := hc.size; omega)] at hz
        exact hc.cell j y z hy hz
    obtain ⟨rs, k1, k2, k3⟩ := ih qs _ _ res (by simpa using hl) (fun j p q hp hq => hpq (j + 1) p q (by simpa using hp) (by simpa using hq)) hnew hf
    refine ⟨rs, ?_, k2, by rw [k3, setR_length (by omega)]⟩
    simp only [Instr.fill, hp]
    have hsz : ¬ (u.cells.size ≠ size ∨ off + u.cells.size > cs.size) := by
      have := hc.size
      omega
    simp only [ne_eq, Bool.or_eq_true, decide_eq_true_eq, not_or] at hsz ⊢
    rw [if_neg (by simpa using hsz)]
    have e : u.cells.zipIdx.foldl (fun cs (c, j) => cs.setIfInBounds (off + j) c) cs = (u.cells.toList.zipIdx 0).foldl (fun cs (c, j) => cs.setIfInBounds (off + j) c) cs := by
      rw [← Array.foldl_toList, Array.toList_zipIdx]
    rw [e]
    exact k1

theorem zero_cells {K : KM} {S : Stb} {w : World} {t : TypeId} {ti : TI} (ht : TIok P t ti) : CellsAre K S w (ti.cells.map zeroA) ti.zeroV.cells ∧ ti.zeroV.cells.size = ti.size := by
  have hz : ti.zeroV.cells = (ti.cells.map zeroC).toArray := by
    unfold TI.zeroV
    cases hk : ti.kind.isAgg with
    | true => rfl
    | false =>
      have h1 := ht.one hk
      have h2 := ht.len
      match hc : ti.cells, h2 with
      | [c], _ => cases c <;> rfl
      | [], h2 => exact absurd h2 (by simp [h1])
      | _ :: _ :: _, h2 => exact absurd h2 (by simp [h1])
  rw [hz]
  refine ⟨⟨by simp, fun j y u hy hu => ?_⟩, by simp [ht.len]⟩
  simp at hy hu
  obtain ⟨c, hc, rfl⟩ := hy
  obtain ⟨c', hc', rfl⟩ := hu
  rw [hc] at hc'; cases hc'
  cases c <;> simp only [zeroA, zeroC, VRc, VR0]
  · exact .bool _
  · exact .int _ _
  · exact .str []
  · exact .slNil _
  · exact .mpNil
  · exact .nilFunc
  · exact .nilIface

theorem snd_build_struct {t : TypeId} {ti : TI} {fs : List (Nat × Nat)} {parts : Array (Nat × Operand)} {res : List AV} (htab : TabOk P tab) (ht : TIok P t ti) (hk : ti.kind = .struct fs) (hag : (fs.all fun f => (tab f.2).isSome) = true) (ho : o.op = .build t parts)
    (hf : fillA (fun i => match fs[i]? with | some f => some (f.1, ((tab f.2).map (·.size)).getD 0) | none => none) (ti.cells.map zeroA) (parts.toList.map fun p => (p.1, evA tm0 p.2)) = some res) :
    OpSnd P nG G0 n0 o (.agg res) [] rd tm0 hp0 := by
  refine OpSnd.look fun n K S tm hp a w hr' hxx _ => ?_
  have hkk := ht.kind
  rw [hk] at hkk
  obtain ⟨fields, hd, hm, _, _⟩ := hkk
  obtain ⟨hz1, hz2⟩ := zero_cells (K := K) (S := S) (w := w) ht
  have hpl : (fields.mapM fun f => do pure (f.offset, ← sizeOf f.type) : Sem (Array (Nat × Nat))).run P w = .ok (fs.map fun f : Nat × Nat => (f.1, ((tab f.2).map fun x : TI => x.size).getD 0)).toArray w := by
    have key : ∀ (fl : List Field), (∀ f ∈ fl, (tab f.type).isSome = true) → (fl.mapM fun f => do pure (f.offset, ← sizeOf f.type) : Sem (List (Nat × Nat))).run P w = .ok (fl.map fun f => (f.offset, ((tab f.type).map (·.size)).getD 0)) w := by
      intro fl
      induction fl with
      | nil => intro _; simp
      | cons f fl ih =>
        intro hs
        obtain ⟨fi, hfi⟩ := Option.isSome_iff_exists.1 (hs f (by simp))
        have ih' := ih (fun g hg => hs g (by simp [hg]))
        simp only [List.mapM_cons, Sem.run_bind, (htab _ _ hfi).run_size, Result.andThen_ok, Sem.run_pure, ih', List.map_cons, hfi]
        rfl
    have hs : ∀ f ∈ fields.toList, (tab f.type).isSome = true := by
      intro f hf'
      have := List.all_eq_true.1 hag (f.offset, f.type) (by rw [← hm]; exact List.mem_map.2 ⟨f, hf', rfl⟩)
      exact this
    rw [Array.mapM_eq_mapM_toList]
    simp only [Sem.run_map, key fields.toList hs, Result.andThen_ok]
    rw [← hm]
    simp
  obtain ⟨rs, k1, k2, k3⟩ := fill_sound (K := K) (S := S) (w := w) (parts.toList.map fun p => (p.1, evA tm0 p.2)) (parts.toList.map fun p => (p.1, a.eval p.2)) _ ti.zeroV.cells res (by simp) (fun j p q hp' hq => by
    rw [List.getElem?_map] at hp' hq
    cases hj : parts.toList[j]? with
    | none => rw [hj] at hp'; cases hp'
    | some z =>
      rw [hj] at hp' hq
      simp at hp' hq
      subst hp'; subst hq
      refine ⟨rfl, hxx z.2 ?_⟩
      rw [ho]
      simp only [Op.operands, List.mem_toArray, List.mem_map]
      exact ⟨z, List.mem_of_getElem? hj, rfl⟩) hz1 hf
  refine ⟨.agg rs, ?_, ?_⟩
  · rw [execOp_eq ho]; unfold execOp
    have e1 : (fun i : Nat => ((fs.map fun f : Nat × Nat => (f.1, ((tab f.2).map fun x : TI => x.size).getD 0)).toArray)[i]?) = (fun i : Nat => match fs[i]? with | some f => some (f.1, ((tab f.2).map (·.size)).getD 0) | none => none) := by
      funext i
      simp only [List.getElem?_toArray, List.getElem?_map]
      cases fs[i]? <;> rfl
    have e2 : (parts.map fun (i, x) => (i, a.eval x)).toList = parts.toList.map fun p => (p.1, a.eval p.2) := by simp
    simp only [Instr.build, Sem.run_bind, ht.run_zero, Result.andThen_ok, run_under hd, hpl, e1, e2, k1, Sem.run_pure]
  · simp only [VR, VRa]
    exact ⟨rs, rfl, k2.size, k2.cell⟩

theorem snd_build_arr {t e m : TypeId} {ti ei : TI} {parts : Array (Nat × Operand)} {res : List AV} (ht : TIok P t ti) (hk : ti.kind = .arr m e) (he : TIok P e ei) (ho : o.op = .build t parts)
    (hf : fillA (fun i => some (i * ei.size, ei.size)) (ti.cells.map zeroA) (parts.toList.map fun p => (p.1, evA tm0 p.2)) = some res) :
    OpSnd P nG G0 n0 o (.agg res) [] rd tm0 hp0 := by
  refine OpSnd.look fun n K S tm hp a w hr' hxx _ => ?_
  have hkk := ht.kind
  rw [hk] at hkk
  obtain ⟨hz1, hz2⟩ := zero_cells (K := K) (S := S) (w := w) ht
  obtain ⟨rs, k1, k2, k3⟩ := fill_sound (K := K) (S := S) (w := w) (parts.toList.map fun p => (p.1, evA tm0 p.2)) (parts.toList.map fun p => (p.1, a.eval p.2)) _ ti.zeroV.cells res (by simp) (fun j p q hp' hq => by
    rw [List.getElem?_map] at hp' hq
    cases hj : parts.toList[j]? with
    | none => rw [hj] at hp'; cases hp'
    | some z =>
      rw [hj] at hp' hq
      simp at hp' hq
      subst hp'; subst hq
      refine ⟨rfl, hxx z.2 ?_⟩
      rw [ho]
      simp only [Op.operands, List.mem_toArray, List.mem_map]
      exact ⟨z, List.mem_of_getElem? hj, rfl⟩) hz1 hf
  refine ⟨.agg rs, ?_, ?_⟩
  · rw [execOp_eq ho]; unfold execOp
    have e2 : (parts.map fun (i, x) => (i, a.eval x)).toList = parts.toList.map fun p => (p.1, a.eval p.2) := by simp
    simp only [Instr.build, Sem.run_bind, ht.run_zero, Result.andThen_ok, run_under hkk, he.run_size, e2, k1, Sem.run_pure]
  · simp only [VR, VRa]
    exact ⟨rs, rfl, k2.size, k2.cell⟩
end ops
end Go.Ab

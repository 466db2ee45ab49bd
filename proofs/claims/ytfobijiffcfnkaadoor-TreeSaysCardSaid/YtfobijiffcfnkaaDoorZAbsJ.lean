/- The results, the relay of a frame; no condition. -/
import Derived.Test.YtfobijiffcfnkaaDoorZAbsI
namespace Go.Ab

section
variable (tab : Tab) (tm : List AV) (hp : List (Option Blk))

def resK : List ResultVar → (List AV → Prop) → Prop
  | [], k => k []
  | .tmp t :: r, k => forceK (tmF tm t) fun v => bif notTup v then resK r fun vs => k (v :: vs) else False
  | .cell a t :: r, k =>
    match tab t with
    | none => False
    | some ti =>
      match tmF tm a with
      | .ref id off =>
        match hpF hp id with
        | some (.var cs) => forceL ((cs.drop off).take ti.size) fun c => bif c.length == ti.size && flatCs c then loadK ti c fun v => bif notTup v then resK r fun vs => k (v :: vs) else False else False
        | _ => False
      | _ => False
end

def retV : List AV → AV
  | [v] => v
  | vs => .tup vs

theorem notTup_ne {v : AV} (h : notTup v = true) (zs : List AV) : v ≠ .tup zs := by rintro rfl; cases h

theorem VR.vra {K : KM} {S : Stb} {w : World} {y : AV} {u : Value} (h : VR K S w y u) (ht : notTup y = true) : VRa K S w y u := by
  cases y
  case tup => cases ht
  all_goals simpa only [VR] using h

section
variable {P : Program} {tab : Tab} {nG : Nat} {G0 : Nat → Option Obj} {n n0 : Nat} {K : KM} {S : Stb} {tm : List AV} {hp : List (Option Blk)} {a : Act} {w : World}

theorem load_cells {t : TypeId} {ti : TI} (ht : TIok P t ti) {id off : Nat} {cs : List AV} {u : Value} {hp : Nat → Option Blk} (hr : HRel nG G0 K S hp w) (hu : VR K S w (.ref id off) u) (hb : hp id = some (.var cs))
    (hl : ((cs.drop off).take ti.size).length = ti.size) (hs : ((cs.drop off).take ti.size).all (fun y => match y with | .agg _ => false | .tup _ => false | _ => true) = true) :
    ∃ v, (do loadVar t (← asAddr u)).run P w = .ok v w ∧ VR K S w (loaded ti ((cs.drop off).take ti.size)) v := by
  obtain ⟨b, hK, rfl⟩ := VR_ref hu
  have hbl := hr.blk id (.var cs) (.var b) hb hK
  obtain ⟨arr, e, hheap, hsz, hv⟩ := hbl
  have hcell : ∀ j, j < ti.size → w.cell? (ad b (off + j)) = some (arr[off + j]?.getD undef) := by
    intro j hj
    have : off + j < arr.size := by
      rw [hsz]
      simp [List.length_take, List.length_drop] at hl
      omega
    simp [World.cell?, ad, hheap, this]
  refine ⟨_, ?_, VR_loaded ht (f := fun j => arr[off + j]?.getD undef) hl (fun j y hy => ?_) (fun y hy zs => ?_)⟩
  · simp [asAddr, run_loadVar' ht w b off _ hcell]
  · have hj : j < ti.size := hl ▸ (List.getElem?_eq_some_iff.1 hy).1
    rw [List.getElem?_take, if_pos hj, List.getElem?_drop] at hy
    have h2 : off + j < arr.size := by rw [hsz]; exact (List.getElem?_eq_some_iff.1 hy).1
    exact hv (off + j) y _ hy (by simp [h2])
  · have := List.all_eq_true.1 hs y hy
    cases y <;> simp_all

theorem resK_snd (hP : ProgOk P tab) (hr : RelF nG G0 n K S (tmF tm) (hpF hp) a w) : ∀ (rs : List ResultVar) (k : List AV → Prop), resK tab tm hp rs k →
    ∃ vs us, k vs ∧ (rs.mapM fun | .tmp t => pure (a.tmps.getD t undef) | .cell b t => do loadVar t (← asAddr (a.tmps.getD b undef)) : Sem (List Value)).run P w = .ok us w ∧ us.length = vs.length ∧
      ∀ (j : Nat) (y : AV) (u : Value), vs[j]? = some y → us[j]? = some u → VRa K S w y u
  | [], k, h => ⟨[], [], h, by simp, rfl, fun j y u hy => by simp at hy⟩
  | .tmp t :: r, k, h => by
    simp only [resK, forceK_eq, condF] at h
    obtain ⟨h1, h2⟩ := h
    obtain ⟨vs, us, h3, h4, h5, h6⟩ := resK_snd hP hr r _ h2
    refine ⟨_, a.tmps.getD t undef :: us, h3, by simp only [List.mapM_cons, Sem.run_bind, Sem.run_pure, Result.andThen_ok, h4], by simp [h5], fun j y u hy hu => ?_⟩
    cases j with
    | zero => cases hy; cases hu; exact (hr.tmp t).vra h1
    | succ j => exact h6 j y u (by simpa using hy) (by simpa using hu)
  | .cell b t :: r, k, h => by
    simp only [resK, forceL_eq, loadK_eq, condF] at h
    split at h
    · exact h.elim
    rename_i ti ht
    split at h
    · rename_i id off he
      split at h
      · rename_i cs hb
        obtain ⟨h0, h1, h2⟩ := h
        simp only [Bool.and_eq_true, beq_iff_eq] at h0
        obtain ⟨vs, us, h3, h4, h5, h6⟩ := resK_snd hP hr r _ h2
        obtain ⟨v, hv, hvr⟩ := load_cells (hP.tab t ti ht) hr.heap (he ▸ hr.tmp b) hb h0.1 (flatCs_eq h0.2)
        refine ⟨_, v :: us, h3, by rw [List.mapM_cons, Sem.run_bind, hv]; simp only [Sem.run_bind, Sem.run_pure, Result.andThen_ok, h4], by simp [h5], fun j y u hy hu => ?_⟩
        cases j with
        | zero => cases hy; cases hu; exact hvr.vra h1
        | succ j => exact h6 j y u (by simpa using hy) (by simpa using hu)
      · exact h.elim
    · exact h.elim

theorem resK_results (hP : ProgOk P tab) (hr : RelF nG G0 n K S (tmF tm) (hpF hp) a w) {fn : Func} {k : List AV → Prop} (h : resK tab tm hp fn.results.toList k) :
    ∃ vs u, k vs ∧ (results fn a.tmps).run P w = .ok u w ∧ VR K S w (retV vs) u := by
  obtain ⟨vs, us, h1, h2, h3, h4⟩ := resK_snd hP hr _ _ h
  have hrun : (results fn a.tmps).run P w = .ok (if h : us.toArray.size = 1 then us.toArray[0] else .tuple us.toArray) w := by
    unfold results
    rw [Array.mapM_eq_mapM_toList]
    simp only [map_eq_pure_bind, bind_assoc, pure_bind, Sem.run_bind, Sem.run_pure]
    exact congrArg (fun r => Result.andThen r fun (l : List Value) w' => Result.ok (if h : l.toArray.size = 1 then l.toArray[0] else Value.tuple l.toArray) w') h2
  refine ⟨vs, _, h1, hrun, ?_⟩
  match vs, us, h3, h4 with
  | [v], [u], _, h4 => simpa [retV] using (h4 0 v u rfl rfl).vr
  | [], [], _, h4 =>
    simp only [retV, VR]
    exact ⟨#[], by simp, rfl, fun j y v hy => by simp at hy⟩
  | v :: v' :: vs, u :: u' :: us, h3, h4 =>
    have : ¬ (u :: u' :: us).toArray.size = 1 := by simp
    rw [dif_neg this]
    simp only [retV, VR]
    exact ⟨_, rfl, by simpa using h3, fun j y v hy hv => h4 j y v hy (by simpa using hv)⟩
end

def idsR : AV → List Nat
  | .ref id _ => [id]
  | .eref _ id _ _ => [id]
  | .rsl _ id _ _ => [id]
  | .rmp id => [id]
  | .iter id => [id]
  | .sl _ _ (some τ) _ => [τ]
  | _ => []
def idsC : AV → List Nat
  | .func _ cap => cap.flatMap idsR
  | v => idsR v
def idsA : AV → List Nat
  | .agg cs => cs.flatMap idsC
  | v => idsC v
def idsV : AV → List Nat
  | .tup vs => vs.flatMap idsA
  | v => idsA v

def addAll : List Nat → List Nat → List Nat
  | acc, [] => acc
  | acc, x :: r => bif acc.elem x then addAll acc r else addAll (acc ++ [x]) r

def reach (hp : List (Option Blk)) : Nat → List Nat → List Nat
  | 0, L => L
  | n + 1, L => reach hp n (addAll L (L.flatMap fun id => match hpF hp id with | some (.var cs) => cs.flatMap idsC | _ => []))

def baseB (n0 : Nat) (L : List Nat) : Bool := L.take n0 == List.range n0

theorem baseB_sound {n0 : Nat} {L : List Nat} (h : baseB n0 L = true) : (∀ i, i < n0 → L[i]? = some i) ∧ n0 ≤ L.length := by
  have h : L.take n0 = List.range n0 := by simpa [baseB] using h
  constructor
  · intro i hi
    have : (L.take n0)[i]? = some i := by rw [h]; simp [hi]
    simpa [List.getElem?_take, hi] using this
  · have := congrArg List.length h
    simp at this
    omega

def relT (keep : List Nat) (f : AV → AV) : List AV → Nat → List AV
  | [], _ => []
  | x :: r, i => (bif keep.elem i then f x else .dead) :: relT keep f r (i + 1)

theorem relT_len (keep : List Nat) (f : AV → AV) : ∀ (tm : List AV) (i : Nat), (relT keep f tm i).length = tm.length
  | [], _ => rfl
  | x :: r, i => by simp [relT, relT_len keep f r]

theorem relT_get (keep : List Nat) (f : AV → AV) : ∀ (tm : List AV) (i t : Nat), tmF (relT keep f tm i) t = .dead ∨ tmF (relT keep f tm i) t = f (tmF tm t)
  | [], i, t => .inl (by simp [relT, tmF])
  | x :: r, i, 0 => by
    simp only [relT, tmF, List.getD_cons_zero]
    cases keep.elem i
    · exact .inl rfl
    · exact .inr rfl
  | x :: r, i, t + 1 => by
    have := relT_get keep f r (i + 1) t
    simpa only [relT, tmF, List.getD_cons_succ] using this

def forceH : List (Option Blk) → (List (Option Blk) → Prop) → Prop
  | [], k => k []
  | x :: r, k => match x with
    | none => forceH r fun r' => k (none :: r')
    | some b => forceB b fun b' => forceH r fun r' => k (some b' :: r')

theorem forceH_eq : ∀ (l : List (Option Blk)) (k : List (Option Blk) → Prop), forceH l k = k l
  | [], _ => rfl
  | none :: r, k => by simp only [forceH, forceH_eq r]
  | some b :: r, k => by simp only [forceH, forceB_eq, forceH_eq r]

def tokK : List Nat → List AV → List (Option Blk) → (List AV → List (Option Blk) → Prop) → Prop
  | [], tm, hp, k => k tm hp
  | t :: r, tm, hp, k =>
    match tmF tm t with
    | .sl sz nil tok xs =>
      match tok with
      | some _ => tokK r tm hp k
      | none => match nil, xs with
        | true, [] => setK tm t (.sl sz true (some hp.length) []) fun tm' => hputK hp hp.length (.grow sz 0) fun hp' => tokK r tm' hp' k
        | _, _ => tokK r tm hp k
    | _ => tokK r tm hp k

def relK (n0 : Nat) (keep : List Nat) (tm : List AV) (hp : List (Option Blk)) (k : List AV → List (Option Blk) → Prop) : Prop :=
  let L := reach hp 3 (addAll (List.range n0) ((keep.map (tmF tm)).flatMap idsV))
  bif nodupB L && baseB n0 L then
    forceL (relT keep (outV (hpF hp) (pos L)) tm 0) fun tm' => forceH (L.map fun id => (hpF hp id).map (outB (hpF hp) (pos L))) fun hp' => k tm' hp'
  else False

def relayK (n0 : Nat) (keep tok : List Nat) (tm : List AV) (hp : List (Option Blk)) (k : List AV → List (Option Blk) → Prop) : Prop :=
  tokK tok tm hp fun tm hp => relK n0 keep tm hp k

section
variable {P : Program} {tab : Tab} {nG : Nat} {G0 : Nat → Option Obj} {n n0 : Nat}

theorem tokK_snd : ∀ (ts : List Nat) (tm : List AV) (hp : List (Option Blk)) (k : List AV → List (Option Blk) → Prop), tokK ts tm hp k → ∀ (K : KM) (S : Stb) (a : Act) (w : World),
    n0 ≤ hp.length → RelF nG G0 tm.length K S (tmF tm) (hpF hp) a w → ∃ tm' hp' K', k tm' hp' ∧ RelF nG G0 tm'.length K' S (tmF tm') (hpF hp') a w ∧ Ext n0 K S w K' S w ∧ n0 ≤ hp'.length
  | [], tm, hp, k, h, K, S, a, w, hn, hr => ⟨tm, hp, K, h, hr, Ext.refl _ _ _ _, hn⟩
  | t :: r, tm, hp, k, h, K, S, a, w, hn, hr => by
    unfold tokK at h
    split at h
    · rename_i sz nil tok xs ht
      split at h
      · exact tokK_snd r tm hp k h K S a w hn hr
      · split at h
        · simp only [setK_eq, hputK_eq] at h
          have hfresh : hpF hp hp.length = none := by simp [hpF]
          have hKn : K hp.length = none := hr.heap.dom_none hfresh
          have hkl : KLe K (updK K hp.length (.grow none sz 0)) := KLe.new hKn
          have hrel : HRel nG G0 (updK K hp.length (.grow none sz 0)) S (hpF (hput hp hp.length (.grow sz 0))) w := by
            refine ⟨fun id => ?_, fun id bl ki hb hk => ?_, fun id id' ki ki' b hi hj hbi hbj => ?_, hr.heap.lt, fun b off id ki hs hk hbk => ?_, fun id ki b hk hbk => ?_, hr.heap.fix, hr.heap.nG⟩
            · rw [hput_get]; simp only [updK]; split
              · rfl
              · exact hr.heap.dom id
            · rw [hput_get] at hb
              simp only [updK] at hk
              split at hb
              · rename_i e
                rw [if_pos e] at hk
                cases hb; cases hk
                exact ⟨rfl, rfl, rfl⟩
              · rename_i e
                rw [if_neg e] at hk
                exact (hr.heap.blk id bl ki hb hk).mono hkl (Kept.refl S w) fun b _ => rfl
            · simp only [updK] at hi hj
              split at hi
              · cases hi; simp [KI.blk] at hbi
              · split at hj
                · cases hj; simp [KI.blk] at hbj
                · exact hr.heap.inj id id' ki ki' b hi hj hbi hbj
            · simp only [updK] at hk
              split at hk
              · cases hk; simp [KI.blk] at hbk
              · exact hr.heap.apart b off id ki hs hk hbk
            · simp only [updK] at hk
              split at hk
              · cases hk; simp [KI.blk] at hbk
              · exact hr.heap.glob id ki b hk hbk
          have hext : Ext n0 K S w (updK K hp.length (.grow none sz 0)) S w := by
            refine ⟨rfl, rfl, rfl, Nat.le_refl _, fun _ _ _ => rfl, fun id ki b hk hb => ?_, Kept.refl S w, fun _ _ h => .inl h, fun id ki _ hk => hkl id ki hk⟩
            simp only [updK] at hk
            split at hk
            · cases hk; simp [KI.blk] at hb
            · exact .inl ⟨id, ki, hk, hb⟩
          have hf : RelF nG G0 (tm.set t (.sl sz true (some hp.length) [])).length (updK K hp.length (.grow none sz 0)) S (tmF (tm.set t (.sl sz true (some hp.length) []))) (hpF (hput hp hp.length (.grow sz 0))) a w := by
            refine ⟨hr.defers, by simp [hr.size], fun s => ?_, hrel⟩
            have hs := (hr.tmp s).mono hkl (Kept.refl S w)
            simp only [tmF, List.getD_eq_getElem?_getD, List.getElem?_set] at hs ⊢
            split
            · rename_i e
              subst e
              split
              · have := hr.tmp t
                rw [ht] at this
                have hp := VR_sl this
                simp only [Option.getD_some, VR, VRa, VRc, VR0]
                refine ⟨hp, none, 0, by simp [updK], Nat.le_refl _, fun _ => ?_⟩
                generalize a.tmps.getD t undef = u at hp
                cases hp; trivial
              · exact VR_dead _ _ _ _
            · exact hs
          obtain ⟨tm', hp', K', h1, h2, h3, h4⟩ := tokK_snd r _ _ k h _ S a w (Nat.le_trans hn (hput_len _ _ _)) hf
          exact ⟨tm', hp', K', h1, h2, hext.trans h3, h4⟩
        · exact tokK_snd r tm hp k h K S a w hn hr
    · exact tokK_snd r tm hp k h K S a w hn hr

theorem relK_snd {keep : List Nat} {tm : List AV} {hp : List (Option Blk)} {k : List AV → List (Option Blk) → Prop} (h : relK n0 keep tm hp k) {K : KM} {S : Stb} {a : Act} {w : World}
    (hr : RelF nG G0 tm.length K S (tmF tm) (hpF hp) a w) : ∃ tm' hp' K' S', k tm' hp' ∧ RelF nG G0 tm'.length K' S' (tmF tm') (hpF hp') a w ∧ Ext n0 K S w K' S' w ∧ n0 ≤ hp'.length := by
  unfold relK at h
  simp only [condF, forceL_eq, forceH_eq, Bool.and_eq_true] at h
  generalize reach hp 3 (addAll (List.range n0) ((keep.map (tmF tm)).flatMap idsV)) = L at h
  obtain ⟨⟨h1, h2⟩, h3⟩ := h
  have hb := baseB_sound h2
  obtain ⟨g1, g2⟩ := hr.heap.out (n0 := n0) (nodupB_sound h1) hb.1
  refine ⟨_, _, _, _, h3, ⟨hr.defers, by rw [relT_len]; exact hr.size, fun t => ?_, g1⟩, g2, by simpa using hb.2⟩
  rcases relT_get keep (outV (hpF hp) (pos L)) tm 0 t with e | e
  · rw [e]; exact VR_dead _ _ _ _
  · rw [e]; exact (hr.tmp t).out hr.heap

theorem relayK_snd {keep tok : List Nat} {tm : List AV} {hp : List (Option Blk)} {k : List AV → List (Option Blk) → Prop} (h : relayK n0 keep tok tm hp k) {K : KM} {S : Stb} {a : Act} {w : World}
    (hn : n0 ≤ hp.length) (hr : RelF nG G0 tm.length K S (tmF tm) (hpF hp) a w) : ∃ tm' hp' K' S', k tm' hp' ∧ RelF nG G0 tm'.length K' S' (tmF tm') (hpF hp') a w ∧ Ext n0 K S w K' S' w ∧ n0 ≤ hp'.length := by
  obtain ⟨tm1, hp1, K1, h1, h2, h3, h4⟩ := tokK_snd tok tm hp _ h K S a w hn hr
  obtain ⟨tm2, hp2, K2, S2, g1, g2, g3, g4⟩ := relK_snd h1 h2
  exact ⟨tm2, hp2, K2, S2, g1, g2, h3.trans g3, g4⟩
end
end Go.Ab

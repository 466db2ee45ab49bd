/- The executor, that it is sound, how a contract comes of it; no condition. -/
import Derived.Test.YtfobijiffcfnkaaDoorZAbsP
namespace Go.Ab

section
variable (P : Program) (tab : Tab) (nG : Nat) (G0 : Nat → Option Obj) (fn : Func) (n0 : Nat)

/-- A rest of a function's code, from the frame tm over the heap hp, ends with a result and a heap as R says. -/
structure Does (its : List Item) (tm : List AV) (hp : List (Option Blk)) (R : AV → List (Option Blk) → Prop) : Prop where
  ends : n0 ≤ hp.length → ∀ (K : KM) (S : Stb) (a : Act) (w : World), RelF nG G0 tm.length K S (tmF tm) (hpF hp) a w →
    Ends P its (fun a' w' => a'.defers = [] ∧ ∃ v, (results fn a'.tmps).run P w' = .ok v w' ∧ ∃ r H' K' S', R r H' ∧ HRel nG G0 K' S' (hpF H') w' ∧ VR K' S' w' r v ∧ Ext n0 K S w K' S' w') a w

def finK (an : FAnn) (tm : List AV) (hp : List (Option Blk)) (R : AV → List (Option Blk) → Prop) : Prop :=
  tokK (an.out.getD []) tm hp fun tm hp => resK tab tm hp fn.results.toList fun vs =>
    let L := reach hp 3 (addAll (List.range n0) (bif an.out.isSome then idsV (retV vs) else []))
    bif nodupB L && baseB n0 L then forceK (outV (hpF hp) (pos L) (retV vs)) fun r => forceH (L.map fun id => (hpF hp id).map (outB (hpF hp) (pos L))) fun H' => R r H' else False

abbrev RunT := List Item → List AV → List (Option Blk) → (AV → List (Option Blk) → Prop) → Prop

def runS (an : FAnn) (rec : RunT) (its : List Item) (tm : List AV) (hp : List (Option Blk)) (R : AV → List (Option Blk) → Prop) : Prop :=
    match its with
    | [] => finK tab fn n0 an tm hp R
    | .inBlock _ :: k => rec k tm hp R
    | .inLoop c :: k =>
      match k with
      | .inBlock id :: _ => relayK n0 (an.loop id).1 (an.loop id).2 tm hp fun tm' hp' => Does P nG G0 fn n0 (.code c :: .inLoop c :: k) tm' hp' R
      | _ => False
    | .code c :: k =>
      match c with
      | .ret => finK tab fn n0 an tm hp R
      | .skip => rec k tm hp R
      | .seq x y => rec (.code x :: .code y :: k) tm hp R
      | .cond c x y => match ev tm c with | .bool t => ifK t (rec (.code x :: k) tm hp R) (rec (.code y :: k) tm hp R) | _ => False
      | .block id c => rec (.code c :: .inBlock id :: k) tm hp R
      | .exit id => match exitTo id k with | some k' => rec k' tm hp R | none => False
      | .loop c =>
        match k with
        | .inBlock id :: _ => relayK n0 (an.loop id).1 (an.loop id).2 tm hp fun tm' hp' => Does P nG G0 fn n0 (.code c :: .inLoop c :: k) tm' hp' R
        | _ => False
      | .region id ops draw => bif draw then trK P tab nG G0 an id ops.toList ops.toList 0 tm hp fun tm' hp' T => bif drawOk ops.toList T then rec k tm' hp' R else False else opsK P tab nG G0 an id ops.toList ops.toList 0 tm hp fun tm' hp' => rec k tm' hp' R
      | _ => False
    | _ => False

def runI (an : FAnn) (n : Nat) : RunT := Nat.rec (motive := fun _ => RunT) (fun _ _ _ _ => False) (fun _ ih => runS P tab nG G0 fn n0 an ih) n
end

section
variable {P : Program} {tab : Tab} {nG : Nat} {G0 : Nat → Option Obj} {fn : Func} {n0 : Nat} {an : FAnn}

theorem Does.step {its its' : List Item} {tm : List AV} {hp : List (Option Blk)} {R : AV → List (Option Blk) → Prop}
    (hs : ∀ (a : Act) (w : World) (b : Frame) (cs : List Frame), Go.step P (lone (b.at a its) cs w) = .next (lone (b.at a its') cs w)) (h : Does P nG G0 fn n0 its' tm hp R) : Does P nG G0 fn n0 its tm hp R :=
  ⟨fun hn K S a w hr => Ends.step (hs a w) (h.ends hn K S a w hr)⟩

/-- Behind a change of the heap's reading. -/
theorem Does.via {its : List Item} {tm' : List AV} {hp' : List (Option Blk)} {R : AV → List (Option Blk) → Prop} {K K' : KM} {S S' : Stb} {a : Act} {w w' : World}
    (h : Does P nG G0 fn n0 its tm' hp' R) (hn : n0 ≤ hp'.length) (hr : RelF nG G0 tm'.length K' S' (tmF tm') (hpF hp') a w') (hx : Ext n0 K S w K' S' w') :
    Ends P its (fun a' w' => a'.defers = [] ∧ ∃ v, (results fn a'.tmps).run P w' = .ok v w' ∧ ∃ r H' K' S', R r H' ∧ HRel nG G0 K' S' (hpF H') w' ∧ VR K' S' w' r v ∧ Ext n0 K S w K' S' w') a w' :=
  (h.ends hn K' S' a w' hr).mono fun _ _ ⟨h1, v, h2, r, H', K2, S2, h3, h4, h5, h6⟩ => ⟨h1, v, h2, r, H', K2, S2, h3, h4, h5, hx.trans h6⟩

theorem kept_drawn (S : Stb) (w : World) (d : Nat) : Kept S w S { w with drawn := d } := ⟨fun _ _ h => h, fun _ _ _ => rfl, fun _ _ => rfl⟩

theorem Ext.drawn (n0 : Nat) (K : KM) (S : Stb) (w : World) {d : Nat} : Ext n0 K S w K S { w with drawn := d } :=
  ⟨rfl, rfl, rfl, Nat.le_refl _, fun _ _ _ => rfl, fun id ki _ h hb => .inl ⟨id, ki, h, hb⟩, kept_drawn S w d, fun _ _ h => .inl h, fun _ ki _ h => ⟨ki, h, kle.refl ki⟩⟩

theorem HRel.drawn {nG : Nat} {G0 : Nat → Option Obj} {K : KM} {S : Stb} {hp : Nat → Option Blk} {w : World} {d : Nat} (h : HRel nG G0 K S hp w) : HRel nG G0 K S hp { w with drawn := d } :=
  ⟨h.dom, fun id bl ki hb hk => (h.blk id bl ki hb hk).mono (KLe.refl K) (kept_drawn S w d) fun _ _ => rfl, h.inj, h.lt, h.apart, h.glob, h.fix, h.nG⟩

theorem RelF.drawn {nG : Nat} {G0 : Nat → Option Obj} {n : Nat} {K : KM} {S : Stb} {tm : Nat → AV} {hp : Nat → Option Blk} {a : Act} {w : World} {d : Nat} (h : RelF nG G0 n K S tm hp a w) : RelF nG G0 n K S tm hp a { w with drawn := d } :=
  ⟨h.defers, h.size, fun t => (h.tmp t).mono (KLe.refl K) (kept_drawn S w d), h.heap.drawn⟩

theorem finK_snd (hP : ProgOk P tab) {its : List Item} {tm : List AV} {hp : List (Option Blk)} {R : AV → List (Option Blk) → Prop} (he : ∀ (Q : Act → World → Prop) a w, Q a w → Ends P its Q a w) (h : finK tab fn n0 an tm hp R) : Does P nG G0 fn n0 its tm hp R := by
  refine ⟨fun hn K S a w hr => ?_⟩
  unfold finK at h
  obtain ⟨tm, hp, K1, h, hr, hx0, _⟩ := tokK_snd _ _ _ _ h K S a w hn hr
  obtain ⟨vs, u, h1, h2, h3⟩ := resK_results hP hr h
  refine he _ a w ⟨hr.defers, u, h2, ?_⟩
  simp only [condF, forceK_eq, forceH_eq, Bool.and_eq_true] at h1
  generalize reach hp 3 (addAll (List.range n0) (bif an.out.isSome then idsV (retV vs) else [])) = L at h1
  obtain ⟨⟨h4, h5⟩, h6⟩ := h1
  have hb := baseB_sound h5
  obtain ⟨g1, g2⟩ := hr.heap.out (n0 := n0) (nodupB_sound h4) hb.1
  exact ⟨_, _, _, _, h6, g1, h3.out hr.heap, hx0.trans g2⟩

theorem relay_sem {its : List Item} {keep tok : List Nat} {tm : List AV} {hp : List (Option Blk)} {R : AV → List (Option Blk) → Prop}
    (h : relayK n0 keep tok tm hp fun tm' hp' => Does P nG G0 fn n0 its tm' hp' R) : Does P nG G0 fn n0 its tm hp R := by
  refine ⟨fun hn K S a w hr => ?_⟩
  obtain ⟨tm', hp', K', S', h1, h2, h3, h4⟩ := relayK_snd h hn hr
  exact h1.via h4 h2 h3

theorem runI_snd (hP : ProgOk P tab) : ∀ (n : Nat) (its : List Item) (tm : List AV) (hp : List (Option Blk)) (R : AV → List (Option Blk) → Prop), runI P tab nG G0 fn n0 an n its tm hp R → Does P nG G0 fn n0 its tm hp R
  | 0, _, _, _, _, h => h.elim
  | n + 1, its, tm, hp, R, h => by
    have ih := runI_snd hP n
    change runS P tab nG G0 fn n0 an (runI P tab nG G0 fn n0 an n) its tm hp R at h
    unfold runS at h
    split at h
    · exact finK_snd hP (fun Q a w hq => Ends.nil hq) h
    · exact Does.step (fun a w b cs => step_inBlock) (ih _ _ _ _ h)
    · split at h
      · exact Does.step (fun a w b cs => step_inLoop) (relay_sem h)
      · exact h.elim
    · split at h
      · exact finK_snd hP (fun Q a w hq => Ends.ret hq) h
      · exact Does.step (fun a w b cs => step_skip) (ih _ _ _ _ h)
      · exact Does.step (fun a w b cs => step_seq) (ih _ _ _ _ h)
      · rename_i k _ c x y
        split at h
        · rename_i t hc
          rw [ifK_iff] at h
          refine ⟨fun hn K S a w hr => ?_⟩
          have hv : a.eval c = .bool t := VR_bool (by have := hr.ev c; rw [show evA (tmF tm) c = .bool t from hc] at this; exact this)
          have hst : ∀ (b : Frame) (cs : List Frame), Go.step P (lone (b.at a (.code (.cond c x y) :: k)) cs w) = .next (lone (b.at a (.code (if t then x else y) :: k)) cs w) := fun b cs => step_cond hv
          refine Ends.step hst ?_
          cases t
          · exact (ih _ _ _ _ (h.2 rfl)).ends hn K S a w hr
          · exact (ih _ _ _ _ (h.1 rfl)).ends hn K S a w hr
        · exact h.elim
      · exact Does.step (fun a w b cs => step_block) (ih _ _ _ _ h)
      · split at h
        · rename_i k' hk
          exact Does.step (fun a w b cs => step_exit hk) (ih _ _ _ _ h)
        · exact h.elim
      · split at h
        · exact Does.step (fun a w b cs => step_loop) (relay_sem h)
        · exact h.elim
      · rename_i k _ id ops draw
        cases draw with
        | true =>
          refine ⟨fun hn K S a w hr => ?_⟩
          rw [cond_true] at h
          obtain ⟨ss, tm', hp', g1, g2, g3, g4⟩ := trK_snd (n := tm.length) (h0 := hp.length) hP ops.toList 0 tm hp _ h rfl (Nat.le_refl _)
          rw [condF] at g2
          refine Ends.code (wp_region_draw fun t => ?_)
          have hsch : Region.schedule (P.follows .mixedOrders) ops t = Region.linearise .any ops t := by simp [Region.schedule, hP.mixed]
          rw [hsch]
          have hE : ∀ (i : Nat) (o : Oper), ops[i]? = some o → ∀ on ∈ edgesOf o, on < i := by
            intro i o ho on hon
            have h1 := g2.1
            simp only [drawOk] at h1
            have hlen := g1.get.1
            have hi : i < ss.length := by rw [← hlen]; simpa using (Array.getElem?_eq_some_iff.1 ho).1
            have h2 := (rowsOk_get h1).2 i (edgesOf o) ss[i].foot (by rw [List.getElem?_map]; simp [ho]) (by rw [List.getElem?_map, List.getElem?_eq_getElem hi]; rfl)
            simp only [rowOk, Bool.and_eq_true, Nat.zero_add] at h2
            have := List.all_eq_true.1 h2.1.1 on hon
            simpa using this
          have hr' : RelF nG G0 tm.length K S (tmF tm) (hpF hp) a { w with drawn := w.drawn + 1 } := hr.drawn
          have hx' : Ext n0 K S w K S { w with drawn := w.drawn + 1 } := Ext.drawn n0 K S w
          refine draw_snd (n0 := n0) (K0 := K) (S0 := S) (w0 := w) g1 g2.1 hn (fun id hid => by simp [hpF, List.getElem?_eq_none hid]) (fun a' w' K' S' hr2 hx2 => ⟨rfl, (ih _ _ _ _ g2.2).via (Nat.le_trans hn g4) (by rw [g3]; exact hr2) hx2⟩) _ _ (topo_linearise hE t) (fun m hm => by cases hm) K S a _ (hr'.fns ?_ ?_) hx'
          · exact (funext fun x => fld_base _ 0 (tmF tm) fun j g _ hd => by cases hd).symm
          · exact (funext fun x => fld_base _ 0 (hpF hp) fun j g _ hd => by cases hd).symm
        | false =>
          refine ⟨fun hn K S a w hr => ?_⟩
          refine Ends.code (wp_region ?_)
          have := opsK_snd (G0 := G0) (n0 := n0) hP (rid := id) (ops := ops)
            (Q := fun e a' w' => e = .normal ∧ Ends P k (fun a' w' => a'.defers = [] ∧ ∃ v, (results fn a'.tmps).run P w' = .ok v w' ∧ ∃ r H' K' S', R r H' ∧ HRel nG G0 K' S' (hpF H') w' ∧ VR K' S' w' r v ∧ Ext n0 K S w K' S' w') a' w')
            ops.toList 0 tm hp _ h rfl hn K S a w hr fun tm' hp' a' w' K' S' hk _ hn' hr' hx => ⟨rfl, (ih _ _ _ _ hk).via hn' hr' hx⟩
          rw [Array.length_toList, ← List.range_eq_range'] at this
          exact this
      · exact h.elim
    · exact h.elim
end

/-- The frame at a function's beginning. -/
def frame0 (n : Nat) (args : List AV) : List AV := args ++ List.replicate (n - args.length) .dead

section
variable {P : Program} {tab : Tab} {nG : Nat} {G0 : Nat → Option Obj} {fn : Func} {n0 : Nat} {an : FAnn}

theorem good_of_sem {f : FuncId} {c : Code} {args : List AV} {H H' : List (Option Blk)} {r : AV} (hf : P.funcs[f]? = some fn) (hb : fn.body = some c) (hn : (fn.name == "runtime.NumGoroutine") = false)
    (h : Does P nG G0 fn H.length [.code c] (frame0 fn.ntmps args) H fun r' H'' => r' = r ∧ H'' = H') : Good P nG G0 f args H r H' := by
  refine ⟨⟨fn, hf, by simp [hb], hn⟩, fun w K S us hrel hus cs => ?_⟩
  have hus1 : us.length = args.length := hus.1
  let a0 : Act := { tmps := us.toArray ++ Array.replicate (fn.ntmps - us.toArray.size) undef, defers := [] }
  have hr : RelF nG G0 (frame0 fn.ntmps args).length K S (tmF (frame0 fn.ntmps args)) (hpF H) a0 w := by
    refine ⟨rfl, by simp [a0, frame0, hus1], fun t => ?_, hrel⟩
    simp only [tmF, frame0, List.getD_eq_getElem?_getD, List.getElem?_append, a0, Array.getD_eq_getD_getElem?, Array.getElem?_append, List.size_toArray, hus1]
    split
    · rename_i hlt
      have h1 : args[t]? = some args[t] := List.getElem?_eq_getElem hlt
      have h2 : us[t]? = some us[t] := List.getElem?_eq_getElem (by omega)
      have := hus.2 t _ _ h1 h2
      simpa [h1, h2] using this
    · have : ((List.replicate (fn.ntmps - args.length) AV.dead)[t - args.length]?).getD .dead = .dead := by
        rw [List.getElem?_replicate]; split <;> rfl
      rw [this]
      exact VR_dead _ _ _ _
  let b : Frame := { (default : Frame) with fn := f, kind := .normal }
  have henter : Frame.enter P f us.toArray .normal = b.at a0 [.code c] := by
    simp [Frame.enter, Frame.at, hf, hb, b, a0]
  obtain ⟨a', w', todo, ⟨hd, v, hv, r', H'', K', S', ⟨rfl, rfl⟩, h1, h2, h3⟩, hs⟩ := h.ends (Nat.le_refl _) K S a0 w hr b cs
  rw [← henter] at hs
  exact ⟨.returned v, w', _, ⟨v, K', S', rfl, h1, h2, h3⟩, hs, rfl, rfl, hd, rfl, fn, hf, hv⟩
end
end Go.Ab

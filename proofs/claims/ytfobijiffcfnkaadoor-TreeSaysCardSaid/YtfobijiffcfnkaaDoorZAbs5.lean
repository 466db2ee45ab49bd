/- Single operations: stores, addresses of fields and elements; no condition. -/
import Derived.Test.YtfobijiffcfnkaaDoorZAbs4
namespace Go.Ab

def putB (w : World) (b : Nat) (ob : Obj) : World := { w with heap := w.heap.setIfInBounds b ob }

theorem putB_heap (w : World) (b : Nat) (ob : Obj) (h : b < w.heap.size) : (putB w b ob).heap[b]? = some ob := by
  simp [putB, h]
theorem putB_heap_ne (w : World) (b b' : Nat) (ob : Obj) (h : b' ≠ b) : (putB w b ob).heap[b']? = w.heap[b']? := by
  simp only [putB]
  rw [Array.getElem?_setIfInBounds_ne (by omega)]
theorem putB_size (w : World) (b : Nat) (ob : Obj) : (putB w b ob).heap.size = w.heap.size := by simp [putB]
theorem putB_putB (w : World) (b : Nat) (x y : Obj) : putB (putB w b x) b y = putB w b y := by
  simp [putB]

theorem setCell_eq {w : World} {b off : Nat} {arr : Array Value} {e : TypeId} {fr : Nat × Nat} {v : Value} (h : w.heap[b]? = some (.cells arr e fr)) :
    w.setCell (ad b off) v = putB w b (.cells (arr.setIfInBounds off v) e fr) := by
  simp only [World.setCell, putB, ad]
  congr 1
  apply Array.ext_getElem?
  intro i
  rw [Array.getElem?_modify, Array.getElem?_setIfInBounds]
  have hb : b < w.heap.size := (Array.getElem?_eq_some_iff.1 h).1
  by_cases hi : b = i
  · subst hi
    have hv := (Array.getElem?_eq_some_iff.1 h).2
    simp [hb, hv]
  · simp [hi]

theorem frozen_none {w : World} {b off : Nat} {arr : Array Value} {e : TypeId} (h : w.heap[b]? = some (.cells arr e (0, 0))) : w.frozen? (ad b off) = false := by
  simp [World.frozen?, ad, h]

theorem run_storeCells' (P : Program) (b off : Nat) (e : TypeId) : ∀ (vs : List Value) (i : Nat) (arr : Array Value) (w : World), w.heap[b]? = some (.cells arr e (0, 0)) → off + i + vs.length ≤ arr.size → (∀ v ∈ vs, v.oneCell' = true) →
    ∃ arr' : Array Value, (storeCells (ad b off) vs i).run P w = .ok () (putB w b (.cells arr' e (0, 0))) ∧ arr'.size = arr.size ∧
      ∀ j, arr'[j]? = if off + i ≤ j ∧ j < off + i + vs.length then vs[j - (off + i)]? else arr[j]? := by
  intro vs
  induction vs with
  | nil =>
    intro i arr w h _ _
    refine ⟨arr, ?_, rfl, fun j => ?_⟩
    · have hb : b < w.heap.size := (Array.getElem?_eq_some_iff.1 h).1
      have : putB w b (.cells arr e (0, 0)) = w := by
        simp only [putB]
        congr 1
        apply Array.ext_getElem?
        intro k
        rw [Array.getElem?_setIfInBounds]
        by_cases hk : b = k
        · subst hk
          have hv := (Array.getElem?_eq_some_iff.1 h).2
          simp [hb, hv]
        · simp [hk]
      simp [storeCells, this]
    · simp
      intro h1 h2; omega
  | cons v vs ih =>
    intro i arr w h hle h1
    simp only [List.length_cons] at hle
    have hb : b < w.heap.size := (Array.getElem?_eq_some_iff.1 h).1
    have hc : w.cell? (ad b (off + i)) = some (arr[off + i]'(by omega)) := by
      simp only [World.cell?, ad, h]
      simp [show off + i < arr.size from by omega]
    have hs := run_store P w (ad b (off + i)) v .plain (h1 v (by simp))
    rw [hc] at hs
    simp only [frozen_none h, Bool.false_eq_true, if_false] at hs
    rw [setCell_eq h] at hs
    obtain ⟨arr', k1, k2, k3⟩ := ih (i + 1) (arr.setIfInBounds (off + i) v) _ (putB_heap w b _ hb) (by simp; omega) (fun v hv => h1 v (by simp [hv]))
    refine ⟨arr', ?_, by simpa using k2, fun j => ?_⟩
    · simp only [storeCells, Sem.run_bind, ad_add]
      have hs' : (store (ad b (off + i)) v).run P w = .ok () (putB w b (.cells (arr.setIfInBounds (off + i) v) e (0, 0))) := hs
      rw [hs']
      simp only [Result.andThen_ok]
      rw [k1, putB_putB]
    · rw [k3 j]
      simp only [List.length_cons]
      by_cases hj : j = off + i
      · subst hj
        rw [if_neg (by omega), if_pos (by omega)]
        simp [show off + i < arr.size from by omega]
      · by_cases hj2 : off + (i + 1) ≤ j ∧ j < off + (i + 1) + vs.length
        · rw [if_pos hj2, if_pos (by omega), show j - (off + i) = (j - (off + (i + 1))) + 1 from by omega]
          simp
        · rw [if_neg hj2, if_neg (by omega), Array.getElem?_setIfInBounds_ne (by omega)]

def setR (cs : List AV) (off : Nat) (vs : List AV) : List AV := cs.take off ++ vs ++ cs.drop (off + vs.length)

theorem setR_length {cs : List AV} {off : Nat} {vs : List AV} (h : off + vs.length ≤ cs.length) : (setR cs off vs).length = cs.length := by
  simp [setR]; omega

theorem setR_get {cs : List AV} {off : Nat} {vs : List AV} (h : off + vs.length ≤ cs.length) (j : Nat) :
    (setR cs off vs)[j]? = if off ≤ j ∧ j < off + vs.length then vs[j - off]? else cs[j]? := by
  have hl : (cs.take off).length = off := by simp; omega
  unfold setR
  rw [List.append_assoc]
  by_cases h1 : j < off
  · rw [if_neg (by omega), List.getElem?_append_left (by omega), List.getElem?_take, if_pos h1]
  · rw [List.getElem?_append_right (by omega), hl]
    by_cases h2 : j < off + vs.length
    · rw [if_pos (by omega), List.getElem?_append_left (by omega)]
    · rw [if_neg (by omega), List.getElem?_append_right (by omega), List.getElem?_drop]
      congr 1
      omega

/-- Without its token: what it reads as. -/
def AV.strip : AV → AV
  | .sl sz nil _ xs => .sl sz nil none xs
  | v => v

/-- A cell without a reference. -/
def AV.pureC : AV → Bool
  | .bool _ => true
  | .int _ _ => true
  | .str _ => true
  | .sl _ _ none _ => true
  | .mp _ _ => true
  | .rptr _ => true
  | .iface => true
  | .nilIface => true
  | .nilFunc => true
  | .nils => true
  | _ => false

theorem VRc.pure {K : KM} {S : Stb} {w : World} {y : AV} {u : Value} (h : VRc K S w y u) (hp : y.pureC = true) : PR S w y u := by
  cases y <;> first | (simp [AV.pureC] at hp; done) | skip
  case sl sz nil tok xs => cases tok <;> simp [AV.pureC] at hp; simpa only [VRc, VR0] using h
  all_goals simpa only [VRc, VR0] using h

section ops
variable {P : Program} {tab : Tab} {nG : Nat} {G0 : Nat → Option Obj} {n0 : Nat} {o : Oper} {rd : List Nat} {tm0 : Nat → AV} {hp0 : Nat → Option Blk}

theorem run_storeVar' {t : TypeId} {ti : TI} (h : TIok P t ti) (w : World) (b off : Nat) (arr : Array Value) (e : TypeId) (v : Value) (hh : w.heap[b]? = some (.cells arr e (0, 0)))
    (hs : v.cells.size = ti.size) (hle : off + ti.size ≤ arr.size) (h1 : ∀ (j : Nat) (u : Value), v.cells[j]? = some u → u.oneCell' = true) :
    ∃ arr' : Array Value, (storeVar t (ad b off) v).run P w = .ok () (putB w b (.cells arr' e (0, 0))) ∧ arr'.size = arr.size ∧
      ∀ j, arr'[j]? = if off ≤ j ∧ j < off + ti.size then v.cells[j - off]? else arr[j]? := by
  obtain ⟨arr', k1, k2, k3⟩ := run_storeCells' P b off e v.cells.toList 0 arr w hh (by simp; omega) (fun u hu => by
    obtain ⟨j, hj⟩ := List.mem_iff_getElem?.1 hu
    exact h1 j u (by simpa using hj))
  refine ⟨arr', ?_, k2, fun j => ?_⟩
  · simp only [storeVar, Sem.run_bind, h.run_size, Result.andThen_ok, hs]
    simp [k1]
  · rw [k3 j]
    simp [hs]

theorem snd_store_var {t : TypeId} {ti : TI} {x y : Operand} {id off : Nat} {cs : List AV} (ht : TIok P t ti) (ho : o.op = .store t x y) (he : evA tm0 x = .ref id off) (hb : hp0 id = some (.var cs)) (hid : id ∈ rd)
    (hs : (evA tm0 y).solid = true) (hl : (evA tm0 y).cells.length = ti.size) (hle : off + ti.size ≤ cs.length) :
    OpSnd P nG G0 n0 o .dead [(id, .var (setR cs off (evA tm0 y).cells))] rd tm0 hp0 := by
  refine OpSnd.set hid fun n K S tm hp a w hr hx hh => ?_
  have h1 := hx x (by rw [ho]; simp [Op.operands])
  rw [he] at h1
  obtain ⟨b, hK, hu⟩ := VR_ref h1
  obtain ⟨arr, e, hheap, hsz, hv⟩ := hr.heap.blk id (.var cs) (.var b) ((hh id hid).trans hb) hK
  obtain ⟨hy1, hy2⟩ := (hx y (by rw [ho]; simp [Op.operands])).cells hs
  obtain ⟨arr', k1, k2, k3⟩ := run_storeVar' ht w b off arr e (a.eval y) hheap (by omega) (by omega) (fun j u hu => by
    have hj : j < (evA tm0 y).cells.length := hy1 ▸ (Array.getElem?_eq_some_iff.1 hu).1
    exact (hy2 j _ u (List.getElem?_eq_getElem hj) hu).2)
  have hlt : b < w.heap.size := (Array.getElem?_eq_some_iff.1 hheap).1
  refine ⟨undef, putB w b (.cells arr' e (0, 0)), .var b, b, .inr ⟨?_, rfl⟩, hK, rfl, fun _ _ _ => by simp, rfl, rfl, rfl, putB_size _ _ _, fun b' hb' => putB_heap_ne _ _ _ _ hb', fun hkept => ⟨?_, VR_dead _ _ _ _⟩⟩
  · unfold execOp; rw [ho]
    simp [hu, Instr.storeAt, Instr.sureAddr, k1]
  · refine ⟨arr', e, putB_heap _ _ _ hlt, by rw [k2, hsz, setR_length (by omega)], fun j z u hz hu => ?_⟩
    rw [setR_get (by omega), hl] at hz
    rw [k3 j] at hu
    split at hz
    · rename_i hc
      rw [if_pos hc] at hu
      exact ((hy2 _ z u hz hu).1).mono (KLe.refl _) hkept
    · rename_i hc
      rw [if_neg hc] at hu
      exact (hv j z u hz hu).mono (KLe.refl _) hkept

theorem snd_store_arr {t : TypeId} {ti : TI} {x y : Operand} {sz id i off : Nat} {xs : List (List AV)} (ht : TIok P t ti) (ho : o.op = .store t x y) (he : evA tm0 x = .eref sz id i off) (hb : hp0 id = some (.arr sz xs)) (hid : id ∈ rd)
    (hs : (evA tm0 y).solid = true) (hp : ((evA tm0 y).cells.map AV.strip).all AV.pureC = true) (hl : (evA tm0 y).cells.length = ti.size) (hle : off + ti.size ≤ sz) :
    OpSnd P nG G0 n0 o .dead [(id, .arr sz (xs.set i (setR (xs.getD i []) off ((evA tm0 y).cells.map AV.strip))))] rd tm0 hp0 := by
  refine OpSnd.set hid fun n K S tm hp' a w hr hx hh => ?_
  have h1 := hx x (by rw [ho]; simp [Op.operands])
  rw [he] at h1
  obtain ⟨b, m, hK, hi, hu⟩ := VR_eref h1
  obtain ⟨_, rfl, hxl, arr, e, hheap, hsz, hv⟩ := hr.heap.blk id (.arr sz xs) (.arr b sz m) ((hh id hid).trans hb) hK
  have hmul : ∀ i', i' < xs.length → i' * sz + sz ≤ xs.length * sz := fun i' h => by
    have := Nat.mul_le_mul_right sz (show i' + 1 ≤ xs.length from h)
    rw [Nat.add_mul, Nat.one_mul] at this
    exact this
  have hm := hmul i hi
  obtain ⟨hy1, hy2⟩ := (hx y (by rw [ho]; simp [Op.operands])).cells hs
  obtain ⟨arr', k1, k2, k3⟩ := run_storeVar' ht w b (i * sz + off) arr e (a.eval y) hheap (by omega) (by omega) (fun j u hu => by
    have hj : j < (evA tm0 y).cells.length := hy1 ▸ (Array.getElem?_eq_some_iff.1 hu).1
    exact (hy2 j _ u (List.getElem?_eq_getElem hj) hu).2)
  have hlt : b < w.heap.size := (Array.getElem?_eq_some_iff.1 hheap).1
  have hxi : xs[i]? = some xs[i] := List.getElem?_eq_getElem hi
  have hlen := hxl i _ hxi
  have hgd : xs.getD i [] = xs[i] := by simp [hi]
  refine ⟨undef, putB w b (.cells arr' e (0, 0)), .arr b sz xs.length, b, .inr ⟨?_, rfl⟩, hK, rfl, fun _ _ _ => by simp, rfl, rfl, rfl, putB_size _ _ _, fun b' hb' => putB_heap_ne _ _ _ _ hb', fun hkept => ⟨?_, VR_dead _ _ _ _⟩⟩
  · unfold execOp; rw [ho]
    simp [hu, Instr.storeAt, Instr.sureAddr, k1]
  · refine ⟨rfl, by simp, fun i' z hz => ?_, arr', e, putB_heap _ _ _ hlt, by rw [k2]; simpa using hsz, fun i' z j q u hz hq hu' => ?_⟩
    · by_cases hii : i = i'
      · subst hii
        rw [List.getElem?_set_self hi] at hz
        cases hz
        rw [hgd, setR_length (by simp; omega)]
        exact hlen
      · rw [List.getElem?_set_ne hii] at hz
        exact hxl i' z hz
    · rw [k3] at hu'
      by_cases hii : i = i'
      · subst hii
        rw [List.getElem?_set_self hi] at hz
        cases hz
        rw [hgd, setR_get (by simp; omega)] at hq
        simp only [List.length_map, hl] at hq
        split at hq
        · rename_i hc
          rw [if_pos (by omega), show i * sz + j - (i * sz + off) = j - off from by omega] at hu'
          rw [List.getElem?_map] at hq
          cases hq' : (evA tm0 y).cells[j - off]? with
          | none => rw [hq'] at hq; cases hq
          | some q' =>
            rw [hq'] at hq
            simp at hq
            subst hq
            have hpp := List.all_eq_true.1 hp q'.strip (List.mem_map.2 ⟨q', List.mem_of_getElem? hq', rfl⟩)
            have hvv := (hy2 _ q' u hq' hu').1
            refine PR.mono hkept (VRc.pure (K := K) ?_ hpp)
            cases q' <;> simp only [AV.strip] at hpp ⊢ <;> try exact hvv
            rename_i tok _
            cases tok with
            | none => exact hvv
            | some τ => simp only [VRc, VR0] at hvv ⊢; exact hvv.1
        · rename_i hc
          have hjs : j < sz := by have := (List.getElem?_eq_some_iff.1 hq).1; omega
          rw [if_neg (by omega)] at hu'
          exact (hv i _ j q u hxi hq hu').mono hkept
      · rw [List.getElem?_set_ne hii] at hz
        have hj : j < sz := by
          have h1 := hxl i' z hz
          have h2 := (List.getElem?_eq_some_iff.1 hq).1
          omega
        have hne : ¬(i * sz + off ≤ i' * sz + j ∧ i' * sz + j < i * sz + off + ti.size) := by
          rintro ⟨ha, hb'⟩
          rcases Nat.lt_or_gt_of_ne hii with hlt' | hlt'
          · have := Nat.mul_le_mul_right sz (show i + 1 ≤ i' from hlt')
            rw [Nat.add_mul, Nat.one_mul] at this
            omega
          · have := Nat.mul_le_mul_right sz (show i' + 1 ≤ i from hlt')
            rw [Nat.add_mul, Nat.one_mul] at this
            omega
        rw [if_neg hne] at hu'
        exact (hv i' z j q u hz hq hu').mono hkept

theorem snd_load_eref {t : TypeId} {ti : TI} {x : Operand} {sz id i off : Nat} {xs : List (List AV)} {z cs : List AV} (ht : TIok P t ti) (ho : o.op = .load t x) (he : evA tm0 x = .eref sz id i off) (hb : hp0 id = some (.arr sz xs)) (hid : id ∈ rd)
    (hz : xs[i]? = some z) (hcs : (z.drop off).take ti.size = cs) (hl : cs.length = ti.size) (hs : cs.all (fun y => match y with | .agg _ => false | .tup _ => false | _ => true) = true) :
    OpSnd P nG G0 n0 o (loaded ti cs) [] rd tm0 hp0 := by
  subst hcs
  refine OpSnd.look fun n K S tm hp a w hr hx hh => ?_
  have h1 := hx x (by rw [ho]; simp [Op.operands])
  rw [he] at h1
  obtain ⟨b, m, hK, hi, hu⟩ := VR_eref h1
  obtain ⟨_, rfl, hxl, arr, e, hheap, hsz, hv⟩ := hr.heap.blk id (.arr sz xs) (.arr b sz m) ((hh id hid).trans hb) hK
  have hzl := hxl i z hz
  have hi' : i < xs.length := (List.getElem?_eq_some_iff.1 hz).1
  have hm : i * sz + sz ≤ xs.length * sz := by
    have := Nat.mul_le_mul_right sz (show i + 1 ≤ xs.length from hi')
    rw [Nat.add_mul, Nat.one_mul] at this
    exact this
  have hcell : ∀ j, j < ti.size → w.cell? (ad b (i * sz + off + j)) = some (arr[i * sz + off + j]?.getD undef) := by
    intro j hj
    have : i * sz + off + j < arr.size := by
      simp [List.length_take, List.length_drop] at hl
      omega
    simp [World.cell?, ad, hheap, this]
  refine ⟨_, ?_, VR_loaded ht (f := fun j => arr[i * sz + off + j]?.getD undef) hl (fun j y hy => ?_) (fun y hy zs => ?_)⟩
  · unfold execOp; rw [ho]
    simp only [hu, Instr.loadAt, Instr.sureAddr]
    simp [run_loadVar' ht w b _ _ hcell]
  · have hj : j < ti.size := hl ▸ (List.getElem?_eq_some_iff.1 hy).1
    rw [List.getElem?_take, if_pos hj, List.getElem?_drop] at hy
    have h2 : off + j < z.length := (List.getElem?_eq_some_iff.1 hy).1
    exact (hv i z (off + j) y _ hz hy (by
      have : i * sz + off + j < arr.size := by omega
      simp [show i * sz + (off + j) = i * sz + off + j from by omega, this])).vrc
  · have := List.all_eq_true.1 hs y hy
    cases y <;> simp_all

/-- A pointer moved on. -/
def movP : AV → Nat → AV
  | .ref id off, k => .ref id (off + k)
  | .eref sz id i off, k => .eref sz id i (off + k)
  | .rptr cs, k => .rptr (cs.drop k)
  | _, _ => .dead


theorem movP_run {K : KM} {S : Stb} {w : World} {p : AV} {u : Value} {k : Nat} (h : VR K S w p u) (hn : movP p k ≠ .dead) : ∃ b off, u = .pointer (some (ad b off)) ∧ VR K S w (movP p k) (.pointer (some (ad b (off + k)))) := by
  cases p <;> simp only [movP, ne_eq, not_true_eq_false, reduceCtorEq, not_false_eq_true] at hn
  case ref id off =>
    obtain ⟨b, h1, rfl⟩ := VR_ref h
    refine ⟨b, off, rfl, ?_⟩
    simp only [movP, VR, VRa, VRc, VR0]
    exact ⟨b, h1, rfl⟩
  case eref sz id i off =>
    obtain ⟨b, n, h1, h2, rfl⟩ := VR_eref h
    refine ⟨b, _, rfl, ?_⟩
    simp only [movP, VR, VRa, VRc, VR0]
    exact ⟨b, n, h1, h2, by rw [Nat.add_assoc]⟩
  case rptr cs =>
    have h1 := VR_rptr h
    cases h1 with
    | rptr b off cells f hc hv =>
    refine ⟨b, off, rfl, PR.vr (.rptr b (off + k) _ (fun j => f (k + j)) (fun j y hy => ?_) (fun j y hy => ?_))⟩
    · rw [List.getElem?_drop] at hy
      rw [Nat.add_assoc]
      exact hc _ y hy
    · rw [List.getElem?_drop] at hy
      exact hv _ y hy

theorem snd_fieldAddr {t : TypeId} {ti fi : TI} {x : Operand} {f off ft : Nat} {fs : List (Nat × Nat)} (ht : TIok P t ti) (hk : ti.kind = .struct fs) (hf : fs[f]? = some (off, ft)) (hft : TIok P ft fi) (hz : fi.size ≠ 0) (ho : o.op = .fieldAddr t x f)
    (hn : movP (evA tm0 x) off ≠ .dead) : OpSnd P nG G0 n0 o (movP (evA tm0 x) off) [] rd tm0 hp0 := by
  refine OpSnd.look fun n K S tm hp a w hr hx _ => ?_
  obtain ⟨b, o', hu, hv⟩ := movP_run (hx x (by rw [ho]; simp [Op.operands])) hn
  have hkk := ht.kind
  rw [hk] at hkk
  obtain ⟨fields, hd, hm, _, _⟩ := hkk
  refine ⟨_, ?_, hv⟩
  rw [← hm, List.getElem?_map] at hf
  cases hff : fields.toList[f]? with
  | none => rw [hff] at hf; cases hf
  | some fl =>
    rw [hff] at hf
    simp at hf
    obtain ⟨rfl, rfl⟩ := hf
    have hff' : fields[f]? = some fl := by simpa using hff
    unfold execOp; rw [ho]
    simp [hu, Instr.fieldAt, Instr.sureAddr, run_under hd, hff', fieldPlace, hft.run_size, hz, ad_add]
end ops
end Go.Ab

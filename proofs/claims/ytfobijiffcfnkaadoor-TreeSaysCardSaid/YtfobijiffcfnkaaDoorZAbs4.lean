/- Single operations, one law each: moves, boxes, loads, stores; no condition. -/
import Derived.Test.YtfobijiffcfnkaaDoorZAbs3
namespace Go.Ab

theorem ad_add (b off j : Nat) : (ad b off).add j = ad b (off + j) := by
  unfold Addr.add ad
  split <;> simp_all

section inv
variable {K : KM} {S : Stb} {w : World} {u : Value}

theorem VR_bool {b : Bool} (h : VR K S w (.bool b) u) : u = .bool b := by
  simp only [VR, VRa, VRc, VR0] at h; cases h; rfl
theorem VR_int {k : IntKind} {n : Int} (h : VR K S w (.int k n) u) : u = .int k n := by
  simp only [VR, VRa, VRc, VR0] at h; cases h; rfl
theorem VR_str {s : List UInt8} (h : VR K S w (.str s) u) : u = .string ⟨s.toArray⟩ := by
  simp only [VR, VRa, VRc, VR0] at h; cases h; rfl
theorem VR_ref {id off : Nat} (h : VR K S w (.ref id off) u) : ∃ b, K id = some (.var b) ∧ u = .pointer (some (ad b off)) := by
  simpa only [VR, VRa, VRc, VR0] using h
theorem VR_eref {sz id i off : Nat} (h : VR K S w (.eref sz id i off) u) : ∃ b n, K id = some (.arr b sz n) ∧ i < n ∧ u = .pointer (some (ad b (i * sz + off))) := by
  simpa only [VR, VRa, VRc, VR0] using h
theorem VR_rsl {sz id off len : Nat} (h : VR K S w (.rsl sz id off len) u) : ∃ b n cap, K id = some (.arr b sz n) ∧ off + len ≤ n ∧ len ≤ cap ∧ u = .slice (some (ad b (off * sz))) len cap := by
  simpa only [VR, VRa, VRc, VR0] using h
theorem VR_rptr {cs : List AV} (h : VR K S w (.rptr cs) u) : PR S w (.rptr cs) u := by
  simpa only [VR, VRa, VRc, VR0] using h
theorem VR_sl {sz : Nat} {nil : Bool} {tok : Option Nat} {xs : List (List AV)} (h : VR K S w (.sl sz nil tok xs) u) : PR S w (.sl sz nil none xs) u := by
  cases tok with
  | none => simpa only [VR, VRa, VRc, VR0] using h
  | some τ => simp only [VR, VRa, VRc, VR0] at h; exact h.1
theorem VR_tok {sz : Nat} {nil : Bool} {τ : Nat} {xs : List (List AV)} (h : VR K S w (.sl sz nil (some τ) xs) u) : ∃ loc n, K τ = some (.grow loc sz n) ∧ xs.length ≤ n ∧ (xs.length = n → locMatch loc u) := by
  simp only [VR, VRa, VRc, VR0] at h; exact h.2
theorem VR_agg {ys : List AV} (h : VR K S w (.agg ys) u) : ∃ vs : Array Value, u = .agg vs ∧ vs.size = ys.length ∧ ∀ (j : Nat) (y : AV) (v : Value), ys[j]? = some y → vs[j]? = some v → VRc K S w y v := by
  simpa only [VR, VRa] using h
theorem VR_tup {ys : List AV} (h : VR K S w (.tup ys) u) : ∃ vs : Array Value, u = .tuple vs ∧ vs.size = ys.length ∧ ∀ (j : Nat) (y : AV) (v : Value), ys[j]? = some y → vs[j]? = some v → VRa K S w y v := by
  simpa only [VR] using h
theorem VR_nils (h : VR K S w .nils u) : u = .slice none 0 0 := by
  simp only [VR, VRa, VRc, VR0] at h; cases h; rfl
theorem VR_rmp {id : Nat} (h : VR K S w (.rmp id) u) : ∃ b, K id = some (.mp b) ∧ u = .map (some b) := by
  simpa only [VR, VRa, VRc, VR0] using h
theorem VR_mp {nil : Bool} {es : List (AV × AV)} (h : VR K S w (.mp nil es) u) : PR S w (.mp nil es) u := by
  simpa only [VR, VRa, VRc, VR0] using h
theorem VR_iter {id : Nat} (h : VR K S w (.iter id) u) : ∃ b, K id = some (.iter b) ∧ u = .pointer (some (ad b 0)) := by
  simpa only [VR, VRa, VRc, VR0] using h
theorem VR_func {f : Nat} {cap : List AV} (h : VR K S w (.func f cap) u) : ∃ cs : List Value, u = .func (.func f) #[] cs.toArray ∧ cs.length = cap.length ∧ ∀ (j : Nat) (y : AV) (c : Value), cap[j]? = some y → cs[j]? = some c → VR0 K S w y c := by
  simpa only [VR, VRa, VRc] using h

theorem PR.vr0 {y : AV} (h : PR S w y u) : VR0 K S w y u := by
  cases h <;> simp only [VR0] <;> constructor <;> assumption

theorem PR.vrc {y : AV} (h : PR S w y u) : VRc K S w y u := by
  cases h <;> simp only [VRc] <;> refine PR.vr0 ?_ <;> constructor <;> assumption

theorem PR.vr {y : AV} (h : PR S w y u) : VR K S w y u := by
  cases h <;> simp only [VR, VRa] <;> refine PR.vrc ?_ <;> constructor <;> assumption

theorem PR.one {y : AV} (h : PR S w y u) : u.cells = #[u] ∧ u.oneCell' = true := by
  cases h <;> exact ⟨rfl, rfl⟩

theorem VR0.one {y : AV} (h : VR0 K S w y u) (hd : y ≠ .dead) : u.cells = #[u] ∧ u.oneCell' = true := by
  cases y <;> simp only [VR0] at h <;> try exact PR.one h
  case sl sz nil tok xs =>
    cases tok with
    | none => exact PR.one h
    | some τ => exact PR.one h.1
  case rsl => obtain ⟨_, _, _, _, _, _, rfl⟩ := h; exact ⟨rfl, rfl⟩
  case rmp => obtain ⟨_, _, rfl⟩ := h; exact ⟨rfl, rfl⟩
  case ref => obtain ⟨_, _, rfl⟩ := h; exact ⟨rfl, rfl⟩
  case eref => obtain ⟨_, _, _, _, rfl⟩ := h; exact ⟨rfl, rfl⟩
  case iter => obtain ⟨_, _, rfl⟩ := h; exact ⟨rfl, rfl⟩
  case dead => exact absurd rfl hd

theorem VRc.one {y : AV} (h : VRc K S w y u) (hd : y ≠ .dead) : u.cells = #[u] ∧ u.oneCell' = true := by
  cases y
  case func f cap => obtain ⟨cs, rfl, _⟩ := h; exact ⟨rfl, rfl⟩
  all_goals (simp only [VRc] at h; exact VR0.one h hd)

/-- What can lie in a block. -/
def AV.solid : AV → Bool
  | .tup _ => false
  | .dead => false
  | .agg cs => cs.all fun y => match y with | .dead => false | .agg _ => false | .tup _ => false | _ => true
  | _ => true

theorem VR.cells {y : AV} (h : VR K S w y u) (hs : y.solid = true) :
    u.cells.size = y.cells.length ∧ ∀ (j : Nat) (y' : AV) (u' : Value), y.cells[j]? = some y' → u.cells[j]? = some u' → VRc K S w y' u' ∧ u'.oneCell' = true := by
  cases y
  case agg cs =>
    obtain ⟨vs, rfl, h1, h2⟩ := VR_agg h
    refine ⟨h1, fun j y' u' hy hu => ⟨h2 j y' u' hy hu, ?_⟩⟩
    refine ((h2 j y' u' hy hu).one ?_).2
    rintro rfl
    simp only [AV.solid, List.all_eq_true] at hs
    have := hs _ (List.mem_of_getElem? hy)
    simp at this
  case tup => simp [AV.solid] at hs
  case dead => simp [AV.solid] at hs
  all_goals
    have h' := h
    simp only [VR, VRa] at h'
    obtain ⟨e1, e2⟩ := h'.one (by simp)
    refine ⟨by rw [e1]; rfl, fun j y' u' hy hu => ?_⟩
    rw [e1] at hu
    simp only [AV.cells] at hy
    cases j with
    | zero => simp at hy hu; subst hy; subst hu; exact ⟨h', e2⟩
    | succ j => simp at hy
end inv

theorem VRc.vr' {K : KM} {S : Stb} {w : World} {y : AV} {u : Value} (h : VRc K S w y u) (hn : ∀ zs, y ≠ .agg zs ∧ y ≠ .tup zs) : VR K S w y u := by
  cases y
  case agg zs => exact absurd rfl (hn zs).1
  case tup zs => exact absurd rfl (hn zs).2
  all_goals simpa only [VR, VRa] using h

theorem run_loadCellsFrom (P : Program) (w : World) (b off : Nat) (f : Nat → Value) : ∀ (n i : Nat) (acc : Array Value), (∀ j, j < n → w.cell? (ad b (off + (i + j))) = some (f (i + j))) →
    (loadCellsFrom (ad b off) i n acc).run P w = .ok (acc ++ ((List.range n).map fun j => f (i + j)).toArray) w := by
  intro n
  induction n with
  | zero => intro i acc _; simp [loadCellsFrom]
  | succ n ih =>
    intro i acc h
    have h0 := h 0 (by omega)
    simp only [Nat.add_zero] at h0
    simp only [loadCellsFrom, Sem.run_bind, run_load, ad_add, h0, Result.andThen_ok]
    rw [ih (i + 1) (acc.push (f i)) (fun j hj => by have := h (j + 1) (by omega); rw [show i + 1 + j = i + (j + 1) from by omega]; exact this)]
    congr 1
    simp [List.range_succ_eq_map, Function.comp_def, Nat.add_assoc, Nat.add_comm 1]

theorem run_loadCells' (P : Program) (w : World) (b off : Nat) (f : Nat → Value) (n : Nat) (h : ∀ j, j < n → w.cell? (ad b (off + j)) = some (f j)) :
    (loadCells (ad b off) n).run P w = .ok ((List.range n).map f).toArray w := by
  unfold loadCells
  rw [run_loadCellsFrom P w b off f n 0 #[] (by simpa using h)]
  simp

/-- A variable is loaded. -/
theorem run_loadVar' {P : Program} {t : TypeId} {ti : TI} (h : TIok P t ti) (w : World) (b off : Nat) (f : Nat → Value) (hc : ∀ j, j < ti.size → w.cell? (ad b (off + j)) = some (f j)) :
    (loadVar t (ad b off)).run P w = .ok (if ti.kind.isAgg then .agg ((List.range ti.size).map f).toArray else f 0) w := by
  unfold loadVar
  simp only [Sem.run_bind, h.run_isAgg, Result.andThen_ok]
  cases hk : ti.kind.isAgg with
  | true => simp [h.run_size, run_loadCells' P w b off f ti.size hc]
  | false =>
    have h0 := hc 0 (by have := h.one hk; omega)
    simp only [Nat.add_zero] at h0
    simp [h0]

/-- As the loaded value. -/
def loaded (ti : TI) (cs : List AV) : AV := if ti.kind.isAgg then .agg cs else cs.headD .dead

theorem VR_loaded {P : Program} {t : TypeId} {ti : TI} (h : TIok P t ti) {K : KM} {S : Stb} {w : World} {cs : List AV} {f : Nat → Value} (hl : cs.length = ti.size)
    (hv : ∀ (j : Nat) (y : AV), cs[j]? = some y → VRc K S w y (f j)) (hs : ∀ y ∈ cs, ∀ zs, y ≠ .agg zs ∧ y ≠ .tup zs) :
    VR K S w (loaded ti cs) (if ti.kind.isAgg then .agg ((List.range ti.size).map f).toArray else f 0) := by
  unfold loaded
  cases hk : ti.kind.isAgg with
  | true =>
    simp only [if_true, VR, VRa]
    refine ⟨_, rfl, by simp [hl], fun j y v hy hv' => ?_⟩
    have hj : j < ti.size := hl ▸ (List.getElem?_eq_some_iff.1 hy).1
    simp [hj] at hv'
    subst hv'
    exact hv j y hy
  | false =>
    have h1 := h.one hk
    match cs, hl with
    | [], hl => exact absurd hl (by simp [h1])
    | y :: r, _ =>
      have hy := hv 0 y rfl
      simp only [List.headD_cons, Bool.false_eq_true, if_false]
      exact hy.vr' (hs y (by simp))

section ops
variable {P : Program} {tab : Tab} {nG : Nat} {G0 : Nat → Option Obj} {n0 : Nat} {o : Oper} {rd : List Nat} {tm0 : Nat → AV} {hp0 : Nat → Option Blk}

theorem snd_move {x : Operand} (ho : o.op = .move x ∨ o.op = .assign x) : OpSnd P nG G0 n0 o (evA tm0 x) [] rd tm0 hp0 := by
  refine OpSnd.look fun n K S tm hp a w hr hx _ => ⟨a.eval x, ?_, hx x ?_⟩
  · unfold execOp; rcases ho with ho | ho <;> rw [ho] <;> simp
  · rcases ho with ho | ho <;> rw [ho] <;> simp [Op.operands]

theorem snd_pick {c x y : Operand} {t : Bool} (ho : o.op = .pick c x y) (hc : evA tm0 c = .bool t) : OpSnd P nG G0 n0 o (bif t then evA tm0 x else evA tm0 y) [] rd tm0 hp0 := by
  refine OpSnd.look fun n K S tm hp a w hr hx _ => ⟨if t then a.eval x else a.eval y, ?_, ?_⟩
  · have h1 := hx c (by rw [ho]; simp [Op.operands])
    rw [hc] at h1
    unfold execOp; rw [ho]; simp [VR_bool h1, asBool]
  · cases t
    · exact hx y (by rw [ho]; simp [Op.operands])
    · exact hx x (by rw [ho]; simp [Op.operands])

theorem snd_alloc {t : TypeId} {ti : TI} {id : Nat} (ht : TIok P t ti) (ho : o.op = .alloc t) (hrd : id ∉ rd) : OpSnd P nG G0 n0 o (.ref id 0) [(id, .var (ti.cells.map zeroA))] rd tm0 hp0 := by
  refine OpSnd.new hrd fun n K S tm hp a w hr hx _ => ⟨.pointer (some (ad w.heap.size 0)), .cells ti.zeroV.cells t, .var w.heap.size, 0, ?_, rfl, .inl rfl, fun hK hS => ⟨?_, ?_⟩⟩
  · unfold execOp; rw [ho]; simp [Instr.alloc, ht.run_zero, newVar, newRow, ad]
  · have hz : ti.zeroV.cells = (ti.cells.map zeroC).toArray := by
      unfold TI.zeroV
      cases hk : ti.kind.isAgg with
      | true => rfl
      | false =>
        have h1 := ht.one hk
        have h2 := ht.len
        match hc : ti.cells, h2 with
        | [c], _ => cases c <;> rfl
        | [], h2 => simp at h2; omega
        | _ :: _ :: _, h2 => simp at h2; omega
    refine ⟨ti.zeroV.cells, t, heap_alloc_eq _ _, by rw [hz]; simp, fun j y u hy hu => ?_⟩
    rw [hz] at hu
    simp at hy hu
    obtain ⟨c, hc, rfl⟩ := hy
    obtain ⟨c', hc', rfl⟩ := hu
    rw [hc] at hc'; cases hc'
    cases c <;> simp only [zeroA, zeroC, VRc, VR0]
    · exact .bool _
    · exact .int _ _
    · exact .str []
    · exact .slNil _
    · exact .mpNil
    · exact .nilFunc
    · exact .nilIface
  · simp [VR, VRa, VRc, VR0, updK]

theorem snd_box {t : TypeId} {x : Operand} {id : Nat} (ho : o.op = .box t x) (hs : (evA tm0 x).solid = true) (hrd : id ∉ rd) : OpSnd P nG G0 n0 o (.ref id 0) [(id, .var (evA tm0 x).cells)] rd tm0 hp0 := by
  refine OpSnd.new hrd fun n K S tm hp a w hr hx _ => ⟨.pointer (some (ad w.heap.size 0)), .cells (a.eval x).cells t, .var w.heap.size, 0, ?_, rfl, .inl rfl, fun hK hS => ⟨?_, ?_⟩⟩
  · unfold execOp; rw [ho]; simp [Instr.box, newVar, newRow, ad]
  · obtain ⟨h1, h2⟩ := (hx x (by rw [ho]; simp [Op.operands])).cells hs
    exact ⟨_, t, heap_alloc_eq _ _, h1, fun j y u hy hu => ((h2 j y u hy hu).1).mono hK hS⟩
  · simp [VR, VRa, VRc, VR0, updK]

/-- A load out of a block of variables. -/
theorem snd_load_var {t : TypeId} {ti : TI} {x : Operand} {id off : Nat} {cs : List AV} (ht : TIok P t ti) (ho : o.op = .load t x) (he : evA tm0 x = .ref id off) (hb : hp0 id = some (.var cs)) (hid : id ∈ rd)
    (hl : ((cs.drop off).take ti.size).length = ti.size) (hs : ((cs.drop off).take ti.size).all (fun y => match y with | .agg _ => false | .tup _ => false | _ => true) = true) :
    OpSnd P nG G0 n0 o (loaded ti ((cs.drop off).take ti.size)) [] rd tm0 hp0 := by
  refine OpSnd.look fun n K S tm hp a w hr hx hh => ?_
  have h1 := hx x (by rw [ho]; simp [Op.operands])
  rw [he] at h1
  obtain ⟨b, hK, hu⟩ := VR_ref h1
  have hbl := hr.heap.blk id (.var cs) (.var b) ((hh id hid).trans hb) hK
  obtain ⟨arr, e, hheap, hsz, hv⟩ := hbl
  have hcell : ∀ j, j < ti.size → w.cell? (ad b (off + j)) = some (arr[off + j]?.getD undef) := by
    intro j hj
    have : off + j < arr.size := by
      rw [hsz]
      simp [List.length_take, List.length_drop] at hl
      omega
    simp [World.cell?, ad, hheap, this]
  refine ⟨_, ?_, VR_loaded ht (f := fun j => arr[off + j]?.getD undef) hl (fun j y hy => ?_) (fun y hy zs => ?_)⟩
  · unfold execOp; rw [ho]
    simp only [hu, Instr.loadAt, Instr.sureAddr]
    simp [run_loadVar' ht w b off _ hcell]
  · have hj : j < ti.size := hl ▸ (List.getElem?_eq_some_iff.1 hy).1
    rw [List.getElem?_take, if_pos hj, List.getElem?_drop] at hy
    have h2 : off + j < arr.size := by rw [hsz]; exact (List.getElem?_eq_some_iff.1 hy).1
    exact hv (off + j) y _ hy (by simp [h2])
  · have := List.all_eq_true.1 hs y hy
    cases y <;> simp_all

/-- A load through a pointer to what never turns. -/
theorem snd_load_rptr {t : TypeId} {ti : TI} {x : Operand} {cs : List AV} (ht : TIok P t ti) (ho : o.op = .load t x) (he : evA tm0 x = .rptr cs)
    (hl : (cs.take ti.size).length = ti.size) (hs : (cs.take ti.size).all (fun y => match y with | .agg _ => false | .tup _ => false | _ => true) = true) :
    OpSnd P nG G0 n0 o (loaded ti (cs.take ti.size)) [] rd tm0 hp0 := by
  refine OpSnd.look fun n K S tm hp a w hr hx hh => ?_
  have h1 := hx x (by rw [ho]; simp [Op.operands])
  rw [he] at h1
  have h2 := VR_rptr h1
  generalize hu : a.eval x = u at h2
  cases h2 with
  | rptr b off cells f hc hv =>
  have hlen : ti.size ≤ cs.length := by simp at hl; omega
  have hcell : ∀ j, j < ti.size → w.cell? (ad b (off + j)) = some (f j) := fun j hj => (hc j _ (List.getElem?_eq_getElem (by omega))).2
  refine ⟨_, ?_, VR_loaded ht (f := f) hl (fun j y hy => ?_) (fun y hy zs => ?_)⟩
  · unfold execOp; rw [ho]
    simp only [hu, Instr.loadAt, Instr.sureAddr]
    simp [run_loadVar' ht w b off _ hcell]
  · have hj : j < ti.size := hl ▸ (List.getElem?_eq_some_iff.1 hy).1
    rw [List.getElem?_take, if_pos hj] at hy
    exact (hv j y hy).vrc
  · have := List.all_eq_true.1 hs y hy
    cases y <;> simp_all
end ops
end Go.Ab

/- Single operations: elements, slices, arithmetic, comparisons; no condition. -/
import Derived.Test.YtfobijiffcfnkaaDoorZAbs5
namespace Go.Ab

theorem execOp_eq {ρ : Operand → Value} {o : Oper} {op : Op} (h : o.op = op) : execOp ρ o = execOp ρ { o with op := op } := by
  cases o; simp only at h; subst h; rfl

section ops
variable {P : Program} {tab : Tab} {nG : Nat} {G0 : Nat → Option Obj} {n0 : Nat} {o : Oper} {rd : List Nat} {tm0 : Nat → AV} {hp0 : Nat → Option Blk}

theorem snd_nilCheck {x : Operand} (ho : o.op = .nilCheck x) (hn : movP (evA tm0 x) 0 ≠ .dead) : OpSnd P nG G0 n0 o (evA tm0 x) [] rd tm0 hp0 := by
  refine OpSnd.look fun n K S tm hp a w hr hx _ => ?_
  have h := hx x (by rw [ho]; simp [Op.operands])
  obtain ⟨b, o', hu, _⟩ := movP_run h hn
  refine ⟨_, ?_, h⟩
  rw [execOp_eq ho]; unfold execOp
  simp [hu]

/-- Of a slice that never turns. -/
theorem snd_indexAddr_sl {t e : TypeId} {ti ei : TI} {x i : Operand} {sz : Nat} {nil : Bool} {tok : Option Nat} {xs : List (List AV)} {k : IntKind} {j : Int} {z : List AV} (ht : TIok P t ti) (hk : ti.kind = .slice e) (he : TIok P e ei)
    (ho : o.op = .indexAddr t x i) (hx : evA tm0 x = .sl sz nil tok xs) (hi : evA tm0 i = .int k j) (hsz : sz = ei.size) (h0 : 0 ≤ j) (h1 : xs[j.toNat]? = some z) :
    OpSnd P nG G0 n0 o (.rptr z) [] rd tm0 hp0 := by
  refine OpSnd.look fun n K S tm hp a w hr hxx _ => ?_
  have hX := hxx x (by rw [ho]; simp [Op.operands])
  have hI := VR_int (hi ▸ hxx i (by rw [ho]; simp [Op.operands]))
  rw [hx] at hX
  have hP := VR_sl hX
  have hlt : j.toNat < xs.length := (List.getElem?_eq_some_iff.1 h1).1
  generalize hu : a.eval x = u at hP
  have hkk := ht.kind
  rw [hk] at hkk
  cases hP with
  | slNil => simp at h1
  | slEmpty => simp at h1
  | sl sz b off cap xs f hcap hsl hc hv =>
  refine ⟨.pointer (some (ad b (off + j.toNat * sz))), ?_, PR.vr (.rptr b (off + j.toNat * sz) z (fun q => f j.toNat q) (fun q y hy => ?_) (fun q y hy => hv _ z q y h1 hy))⟩
  · have hb : 0 ≤ j ∧ j < (xs.length : Int) := ⟨h0, by omega⟩
    rw [execOp_eq ho]; unfold execOp
    simp [hu, hI, Instr.indexAt, asIntOf, run_under hkk, hb, he.run_size, ad_add, hsz]
  · have := hc _ z q y h1 hy
    rw [Nat.add_assoc]
    exact this

/-- Of a slice over memory of one's own. -/
theorem snd_indexAddr_rsl {t e : TypeId} {ti ei : TI} {x i : Operand} {sz id off len : Nat} {k : IntKind} {j : Int} (ht : TIok P t ti) (hk : ti.kind = .slice e) (he : TIok P e ei)
    (ho : o.op = .indexAddr t x i) (hx : evA tm0 x = .rsl sz id off len) (hi : evA tm0 i = .int k j) (hsz : sz = ei.size) (h0 : 0 ≤ j) (h1 : j < len) :
    OpSnd P nG G0 n0 o (.eref sz id (off + j.toNat) 0) [] rd tm0 hp0 := by
  refine OpSnd.look fun n K S tm hp a w hr hxx _ => ?_
  have hX := hxx x (by rw [ho]; simp [Op.operands])
  have hI := VR_int (hi ▸ hxx i (by rw [ho]; simp [Op.operands]))
  rw [hx] at hX
  obtain ⟨b, m, cap, hK, h2, h3, hu⟩ := VR_rsl hX
  have hkk := ht.kind
  rw [hk] at hkk
  refine ⟨.pointer (some (ad b ((off + j.toNat) * sz + 0))), ?_, ?_⟩
  · have hb : 0 ≤ j ∧ j < (len : Int) := ⟨h0, h1⟩
    rw [execOp_eq ho]; unfold execOp
    simp [hu, hI, Instr.indexAt, asIntOf, run_under hkk, hb, he.run_size, ad_add, hsz, Nat.add_mul]
  · simp only [VR, VRa, VRc, VR0]
    exact ⟨b, m, hK, by omega, rfl⟩

/-- Of an array behind a pointer. -/
theorem snd_indexAddr_arr {t e m : TypeId} {ti ei : TI} {x i : Operand} {k : IntKind} {j : Int} (ht : TIok P t ti) (hk : ti.kind = .arr m e) (he : TIok P e ei)
    (ho : o.op = .indexAddr t x i) (hi : evA tm0 i = .int k j) (h0 : 0 ≤ j) (h1 : j < m) (hn : movP (evA tm0 x) (j.toNat * ei.size) ≠ .dead) :
    OpSnd P nG G0 n0 o (movP (evA tm0 x) (j.toNat * ei.size)) [] rd tm0 hp0 := by
  refine OpSnd.look fun n K S tm hp a w hr hxx _ => ?_
  have hX := hxx x (by rw [ho]; simp [Op.operands])
  have hI := VR_int (hi ▸ hxx i (by rw [ho]; simp [Op.operands]))
  obtain ⟨b, o', hu, hv⟩ := movP_run hX hn
  have hkk := ht.kind
  rw [hk] at hkk
  refine ⟨_, ?_, hv⟩
  have hb : 0 ≤ j ∧ j < (m : Int) := ⟨h0, h1⟩
  rw [execOp_eq ho]; unfold execOp
  simp [hu, hI, Instr.indexAt, Instr.sureAddr, asIntOf, run_under hkk, hb, he.run_size, ad_add]

theorem snd_index_str {t : TypeId} {ti : TI} {x i : Operand} {s : List UInt8} {k : IntKind} {j : Int} {c : UInt8} (ht : TIok P t ti) (hk : ti.kind = .scalar .str)
    (ho : o.op = .index t x i) (hx : evA tm0 x = .str s) (hi : evA tm0 i = .int k j) (h0 : 0 ≤ j) (h1 : s[j.toNat]? = some c) :
    OpSnd P nG G0 n0 o (.int .u8 c.toNat) [] rd tm0 hp0 := by
  refine OpSnd.look fun n K S tm hp a w hr hxx _ => ?_
  have hX := VR_str (hx ▸ hxx x (by rw [ho]; simp [Op.operands]))
  have hI := VR_int (hi ▸ hxx i (by rw [ho]; simp [Op.operands]))
  have hkk := ht.kind
  rw [hk] at hkk
  obtain ⟨d, hd, hs⟩ := hkk
  cases d <;> simp [scalarDesc] at hs
  refine ⟨_, ?_, (PR.int _ _).vr⟩
  have hlt : j.toNat < s.length := (List.getElem?_eq_some_iff.1 h1).1
  have hg : (⟨s.toArray⟩ : ByteArray)[j.toNat]? = some c := by
    have hs' : j.toNat < (⟨s.toArray⟩ : ByteArray).size := by simpa [ByteArray.size] using hlt
    have h2 := (List.getElem?_eq_some_iff.1 h1).2
    have h3 : (⟨s.toArray⟩ : ByteArray)[j.toNat] = c := by simp [ByteArray.getElem_eq_getElem_data, h2]
    rw [← h3]
    exact getElem?_pos (⟨s.toArray⟩ : ByteArray) j.toNat hs'
  rw [execOp_eq ho]; unfold execOp
  simp [hX, hI, Instr.index, asIntOf, run_under hd, h0, hg]

theorem snd_slice_str {t : TypeId} {ti : TI} {x : Operand} {lo hi : Option Operand} {s : List UInt8} {l h : Nat} (ht : TIok P t ti) (hk : ti.kind = .scalar .str)
    (ho : o.op = .slice t x lo hi none) (hx : evA tm0 x = .str s)
    (hl : match lo with | none => l = 0 | some y => ∃ k, evA tm0 y = .int k l) (hh : match hi with | none => h = s.length | some y => ∃ k, evA tm0 y = .int k h) (h1 : l ≤ h) (h2 : h ≤ s.length) :
    OpSnd P nG G0 n0 o (.str ((s.take h).drop l)) [] rd tm0 hp0 := by
  refine OpSnd.look fun n K S tm hp a w hr hxx _ => ?_
  have hX := VR_str (hx ▸ hxx x (by rw [ho]; simp [Op.operands]))
  have hkk := ht.kind
  rw [hk] at hkk
  obtain ⟨d, hd, hs⟩ := hkk
  cases d <;> simp [scalarDesc] at hs
  refine ⟨.string ((⟨s.toArray⟩ : ByteArray).extract l h), ?_, ?_⟩
  · have hsz : (⟨s.toArray⟩ : ByteArray).size = s.length := by simp [ByteArray.size]
    rw [execOp_eq ho]; unfold execOp
    cases lo with
    | none =>
      subst hl
      cases hi with
      | none =>
        subst hh
        have e : (⟨s.toArray⟩ : ByteArray).extract 0 s.length = ⟨s.toArray⟩ := by apply ByteArray.ext; simp [ByteArray.data_extract]
        simp [hX, Instr.sliceAt, Instr.slice, Instr.sliceBounds, run_under hd, e]
      | some y =>
        obtain ⟨k, hy⟩ := hh
        have hY := VR_int (hy ▸ hxx y (by rw [ho]; simp [Op.operands]))
        simp [hX, hY, Instr.sliceAt, Instr.slice, Instr.sliceBounds, Instr.sliceBound, asIntOf, run_under hd, hsz, h2]
    | some z =>
      obtain ⟨k', hz⟩ := hl
      have hZ := VR_int (hz ▸ hxx z (by rw [ho]; simp [Op.operands]))
      cases hi with
      | none => subst hh; simp [hX, hZ, Instr.sliceAt, Instr.slice, Instr.sliceBounds, Instr.sliceBound, asIntOf, run_under hd, hsz, h1]
      | some y =>
        obtain ⟨k, hy⟩ := hh
        have hY := VR_int (hy ▸ hxx y (by rw [ho]; simp [Op.operands]))
        simp [hX, hY, hZ, Instr.sliceAt, Instr.slice, Instr.sliceBounds, Instr.sliceBound, asIntOf, run_under hd, hsz, h2, h1]
  · have e : (⟨s.toArray⟩ : ByteArray).extract l h = ⟨((s.take h).drop l).toArray⟩ := by
      apply ByteArray.ext
      simp [ByteArray.data_extract, List.drop_take]
    rw [e]
    exact (PR.str _).vr

/-- A slice of a slice. -/
theorem PR_slice {S : Stb} {w : World} {sz : Nat} {nil : Bool} {xs : List (List AV)} {u : Value} (h : PR S w (.sl sz nil none xs) u) {l m : Nat} (h1 : l ≤ m) (h2 : m ≤ xs.length) :
    ∃ a cap, u = .slice a xs.length cap ∧ xs.length ≤ cap ∧ (∀ c, cap - l ≤ c → PR S w (.sl sz nil none ((xs.take m).drop l)) (.slice (a.map (·.add (l * sz))) (m - l) c) ∨ a = none) ∧
      PR S w (.sl sz nil none ((xs.take m).drop l)) (.slice (if cap = l then a else a.map (·.add (l * sz))) (m - l) (cap - l)) := by
  have hlen : ((xs.take m).drop l).length = m - l := by simp; omega
  cases h with
  | slNil =>
    simp at h2; subst h2
    obtain rfl : l = 0 := by omega
    exact ⟨none, 0, rfl, Nat.le_refl _, fun c _ => .inr rfl, by simpa using PR.slNil sz⟩
  | slEmpty _ a cap =>
    simp at h2; subst h2
    obtain rfl : l = 0 := by omega
    refine ⟨some a, cap, rfl, Nat.zero_le _, fun c _ => .inl ?_, ?_⟩
    · simpa using PR.slEmpty sz _ _
    · split <;> simpa using PR.slEmpty sz _ _
  | sl _ b off cap _ f hcap hsl hc hv =>
    have key : ∀ (a' : Addr) c, (m - l = 0 ∨ a' = ad b (off + l * sz)) → m - l ≤ c → PR S w (.sl sz false none ((xs.take m).drop l)) (.slice (some a') (m - l) c) := by
      intro a' c ha hc'
      rcases Nat.eq_zero_or_pos (m - l) with hz | hz
      · have he : (xs.take m).drop l = [] := List.eq_nil_of_length_eq_zero (by omega)
        rw [he, hz]; exact .slEmpty sz a' c
      · obtain rfl := ha.resolve_left (by omega)
        have := PR.sl (S := S) (w := w) sz b (off + l * sz) c ((xs.take m).drop l) (fun i j => f (l + i) j) (by omega) (fun i x hx => ?_) (fun i x j y hx hy => ?_) (fun i x j y hx hy => ?_)
        · rw [hlen] at this; exact this
        all_goals
          rw [List.getElem?_drop, List.getElem?_take] at hx
          split at hx
          rotate_left
          · cases hx
        · exact hsl _ x hx
        · have := hc _ x j y hx hy
          rw [show off + l * sz + (i * sz + j) = off + ((l + i) * sz + j) from by rw [Nat.add_mul]; omega]
          exact this
        · exact hv _ x j y hx hy
    refine ⟨some (ad b off), cap, rfl, hcap, fun c hcc => .inl ?_, ?_⟩
    · simp only [Option.map_some, ad_add]
      exact key _ _ (.inr rfl) (by omega)
    · split
      · rename_i he
        exact key _ _ (.inl (by omega)) (by omega)
      · simp only [Option.map_some, ad_add]
        exact key _ _ (.inr rfl) (by omega)

theorem snd_slice_sl {t e : TypeId} {ti ei : TI} {x : Operand} {lo hi : Option Operand} {sz : Nat} {nil : Bool} {tok : Option Nat} {xs : List (List AV)} {l h : Nat} (ht : TIok P t ti) (hk : ti.kind = .slice e) (he : TIok P e ei)
    (ho : o.op = .slice t x lo hi none) (hx : evA tm0 x = .sl sz nil tok xs) (hsz : sz = ei.size)
    (hl : match lo with | none => l = 0 | some y => ∃ k, evA tm0 y = .int k l) (hh : match hi with | none => h = xs.length | some y => ∃ k, evA tm0 y = .int k h) (h1 : l ≤ h) (h2 : h ≤ xs.length) :
    OpSnd P nG G0 n0 o (.sl sz nil none ((xs.take h).drop l)) [] rd tm0 hp0 := by
  refine OpSnd.look fun n K S tm hp a w hr hxx _ => ?_
  have hX := VR_sl (hx ▸ hxx x (by rw [ho]; simp [Op.operands]))
  have hkk := ht.kind
  rw [hk] at hkk
  obtain ⟨ad', cap, hu, hcap, _, hP⟩ := PR_slice hX h1 h2
  refine ⟨_, ?_, hP.vr⟩
  have h3 : h ≤ cap := Nat.le_trans h2 hcap
  rw [execOp_eq ho]; unfold execOp
  cases lo with
  | none =>
    subst hl
    cases hi with
    | none => subst hh; simp [hu, Instr.sliceAt, Instr.slice, Instr.sliceBounds, run_under hkk, he.run_size, hsz]
    | some y =>
      obtain ⟨k, hy⟩ := hh
      have hY := VR_int (hy ▸ hxx y (by rw [ho]; simp [Op.operands]))
      simp [hu, hY, Instr.sliceAt, Instr.slice, Instr.sliceBounds, Instr.sliceBound, asIntOf, run_under hkk, he.run_size, hsz, h3]
  | some z =>
    obtain ⟨k', hz⟩ := hl
    have hZ := VR_int (hz ▸ hxx z (by rw [ho]; simp [Op.operands]))
    cases hi with
    | none => subst hh; simp [hu, hZ, Instr.sliceAt, Instr.slice, Instr.sliceBounds, Instr.sliceBound, asIntOf, run_under hkk, he.run_size, hsz, h1]
    | some y =>
      obtain ⟨k, hy⟩ := hh
      have hY := VR_int (hy ▸ hxx y (by rw [ho]; simp [Op.operands]))
      simp [hu, hY, hZ, Instr.sliceAt, Instr.slice, Instr.sliceBounds, Instr.sliceBound, asIntOf, run_under hkk, he.run_size, hsz, h3, h1]

/-- A part of a struct or an array. -/
theorem run_part {P : Program} {t : TypeId} {ti : TI} (h : TIok P t ti) (w : World) (vs : Array Value) (off : Nat) (hl : off + ti.size ≤ vs.size) (f : Nat → Value) (hf : ∀ j, j < ti.size → vs[off + j]? = some (f j)) :
    (part t vs off).run P w = .ok (if ti.kind.isAgg then .agg ((List.range ti.size).map f).toArray else f 0) w := by
  unfold part
  simp only [Sem.run_bind, h.run_isAgg, Result.andThen_ok]
  cases hk : ti.kind.isAgg with
  | true =>
    simp only [if_true, Sem.run_bind, h.run_size, Result.andThen_ok, Sem.run_pure]
    congr 2
    apply Array.ext_getElem?
    intro i
    by_cases hi : i < ti.size
    · have := hf i hi
      simp [Array.getElem?_extract, hi, this]
      omega
    · simp [hi]
      omega
  | false =>
    have h0 := hf 0 (by have := h.one hk; omega)
    simp only [Nat.add_zero] at h0
    simp [h0]

theorem snd_field {t ft : TypeId} {ti fi : TI} {x : Operand} {f off : Nat} {fs : List (Nat × Nat)} {cs : List AV} (ht : TIok P t ti) (hk : ti.kind = .struct fs) (hf : fs[f]? = some (off, ft)) (hft : TIok P ft fi) (ho : o.op = .field t x f)
    (hx : evA tm0 x = .agg cs) (hl : ((cs.drop off).take fi.size).length = fi.size) (hs : ((cs.drop off).take fi.size).all (fun y => match y with | .agg _ => false | .tup _ => false | _ => true) = true) :
    OpSnd P nG G0 n0 o (loaded fi ((cs.drop off).take fi.size)) [] rd tm0 hp0 := by
  refine OpSnd.look fun n K S tm hp a w hr hxx _ => ?_
  obtain ⟨vs, hu, hvl, hv⟩ := VR_agg (hx ▸ hxx x (by rw [ho]; simp [Op.operands]))
  have hkk := ht.kind
  rw [hk] at hkk
  obtain ⟨fields, hd, hm, _, _⟩ := hkk
  have hle : off + fi.size ≤ vs.size ∨ fi.size = 0 := by
    simp [List.length_take, List.length_drop] at hl; omega
  rw [← hm, List.getElem?_map] at hf
  cases hff : fields.toList[f]? with
  | none => rw [hff] at hf; cases hf
  | some fl =>
    rw [hff] at hf
    simp at hf
    obtain ⟨rfl, rfl⟩ := hf
    have hff' : fields[f]? = some fl := by simpa using hff
    rcases hle with hle | hz
    · have hrun := run_part hft w vs fl.offset hle (fun j => vs[fl.offset + j]?.getD undef) (fun j hj => by
        have : fl.offset + j < vs.size := by omega
        simp [this])
      refine ⟨_, ?_, VR_loaded hft (f := fun j => vs[fl.offset + j]?.getD undef) hl (fun j y hy => ?_) (fun y hy zs => ?_)⟩
      · rw [execOp_eq ho]; unfold execOp
        simp [hu, Instr.field, run_under hd, hff', asAgg, hrun]
      · have hj : j < fi.size := hl ▸ (List.getElem?_eq_some_iff.1 hy).1
        rw [List.getElem?_take, if_pos hj, List.getElem?_drop] at hy
        have h2 : fl.offset + j < vs.size := by omega
        exact hv _ y _ hy (by simp [h2])
      · have := List.all_eq_true.1 hs y hy
        cases y <;> simp_all
    · cases hag : fi.kind.isAgg with
      | false => have := hft.one hag; omega
      | true =>
        refine ⟨.agg #[], ?_, ?_⟩
        · rw [execOp_eq ho]; unfold execOp
          simp [hu, Instr.field, run_under hd, hff', asAgg, part, hft.run_isAgg, hag, hft.run_size, hz]
          omega
        · simp [loaded, hag, hz, VR, VRa]

theorem snd_index_arr {t e m : TypeId} {ti ei : TI} {x i : Operand} {k : IntKind} {j : Int} {cs : List AV} (ht : TIok P t ti) (hk : ti.kind = .arr m e) (he : TIok P e ei)
    (ho : o.op = .index t x i) (hx : evA tm0 x = .agg cs) (hi : evA tm0 i = .int k j) (h0 : 0 ≤ j) (h1 : j < m) (hle : j.toNat * ei.size + ei.size ≤ cs.length)
    (hs : ((cs.drop (j.toNat * ei.size)).take ei.size).all (fun y => match y with | .agg _ => false | .tup _ => false | _ => true) = true) :
    OpSnd P nG G0 n0 o (loaded ei ((cs.drop (j.toNat * ei.size)).take ei.size)) [] rd tm0 hp0 := by
  refine OpSnd.look fun n K S tm hp a w hr hxx _ => ?_
  obtain ⟨vs, hu, hvl, hv⟩ := VR_agg (hx ▸ hxx x (by rw [ho]; simp [Op.operands]))
  have hI := VR_int (hi ▸ hxx i (by rw [ho]; simp [Op.operands]))
  have hkk := ht.kind
  rw [hk] at hkk
  have hl : ((cs.drop (j.toNat * ei.size)).take ei.size).length = ei.size := by simp; omega
  have hrun := run_part he w vs (j.toNat * ei.size) (by omega) (fun q => vs[j.toNat * ei.size + q]?.getD undef) (fun q hq => by
    have : j.toNat * ei.size + q < vs.size := by omega
    simp [this])
  have hb : 0 ≤ j ∧ j < (m : Int) := ⟨h0, h1⟩
  refine ⟨_, ?_, VR_loaded he (f := fun q => vs[j.toNat * ei.size + q]?.getD undef) hl (fun q y hy => ?_) (fun y hy zs => ?_)⟩
  · rw [execOp_eq ho]; unfold execOp
    simp [hu, hI, Instr.index, asIntOf, run_under hkk, hb, he.run_size, hrun]
  · have hj : q < ei.size := hl ▸ (List.getElem?_eq_some_iff.1 hy).1
    rw [List.getElem?_take, if_pos hj, List.getElem?_drop] at hy
    have h2 : j.toNat * ei.size + q < vs.size := by omega
    exact hv _ y _ hy (by simp [h2])
  · have := List.all_eq_true.1 hs y hy
    cases y <;> simp_all

theorem snd_extract {x : Operand} {i : Nat} {vs : List AV} {y : AV} (ho : o.op = .extract x i) (hx : evA tm0 x = .tup vs) (hi : vs[i]? = some y) (hy : ∀ zs, y ≠ .tup zs) : OpSnd P nG G0 n0 o y [] rd tm0 hp0 := by
  refine OpSnd.look fun n K S tm hp a w hr hxx _ => ?_
  obtain ⟨us, hu, hl, hv⟩ := VR_tup (hx ▸ hxx x (by rw [ho]; simp [Op.operands]))
  have hlt : i < us.size := hl ▸ (List.getElem?_eq_some_iff.1 hi).1
  refine ⟨us[i], ?_, ?_⟩
  · rw [execOp_eq ho]; unfold execOp
    simp [hu, Instr.extract, hlt]
  · have := hv i y us[i] hi (by simp)
    cases y
    case tup zs => exact absurd rfl (hy zs)
    all_goals simpa only [VR] using this

theorem snd_makeFunc {f : Nat} {cap : Array Operand} (ho : o.op = .makeFunc (.func f) #[] cap) (hs : (cap.toList.map (evA tm0)).all (fun y => match y with | .func _ _ => false | .agg _ => false | .tup _ => false | .dead => false | _ => true) = true) :
    OpSnd P nG G0 n0 o (.func f (cap.toList.map (evA tm0))) [] rd tm0 hp0 := by
  refine OpSnd.look fun n K S tm hp a w hr hxx _ => ⟨.func (.func f) #[] (cap.toList.map a.eval).toArray, ?_, ?_⟩
  · rw [execOp_eq ho]; unfold execOp
    simp only [Instr.makeFunc]
    have e : cap.map a.eval = (cap.toList.map a.eval).toArray := by apply Array.ext'; simp
    rw [e]
    simp
  · simp only [VR, VRa, VRc]
    refine ⟨_, rfl, by simp, fun j y c hy hc => ?_⟩
    rw [List.getElem?_map] at hy hc
    cases hq : cap.toList[j]? with
    | none => rw [hq] at hy; cases hy
    | some q =>
      rw [hq] at hy hc
      simp at hy hc
      subst hy; subst hc
      have hm : q ∈ cap := by have := List.mem_of_getElem? hq; simpa using this
      have h1 := hxx q (by rw [ho]; simp [Op.operands, hm])
      have h2 := List.all_eq_true.1 hs (evA tm0 q) (List.mem_map.2 ⟨q, by simpa using hm, rfl⟩)
      revert h1 h2
      generalize evA tm0 q = y
      intro h1 h2
      cases y <;> simp at h2 <;> simpa only [VR, VRa, VRc] using h1

/-- Arithmetic. -/
def arithA (op : BinOp) (k : IntKind) (a b : Int) : Option AV :=
  match op with
  | .add => some (.int k (k.wrap (a + b)))
  | .sub => some (.int k (k.wrap (a - b)))
  | .mul => some (.int k (k.wrap (a * b)))
  | .eql => some (.bool (a == b))
  | .neq => some (.bool (a != b))
  | .lss => some (.bool (decide (a < b)))
  | .leq => some (.bool (decide (a ≤ b)))
  | .gtr => some (.bool (decide (a > b)))
  | .geq => some (.bool (decide (a ≥ b)))
  | .and => some (.int k (k.wrap (BitVec.ofInt k.bits a &&& BitVec.ofInt k.bits b).toNat))
  | .or => some (.int k (k.wrap (BitVec.ofInt k.bits a ||| BitVec.ofInt k.bits b).toNat))
  | .xor => some (.int k (k.wrap (BitVec.ofInt k.bits a ^^^ BitVec.ofInt k.bits b).toNat))
  | _ => none

theorem snd_arith {op : BinOp} {xt yt : TypeId} {x y : Operand} {k : IntKind} {i j : Int} {r : AV} (ho : o.op = .binOp op xt x y yt) (hx : evA tm0 x = .int k i) (hy : evA tm0 y = .int k j) (hr : arithA op k i j = some r) :
    OpSnd P nG G0 n0 o r [] rd tm0 hp0 := by
  refine OpSnd.look fun n K S tm hp a w hr' hxx _ => ?_
  have hX := VR_int (hx ▸ hxx x (by rw [ho]; simp [Op.operands]))
  have hY := VR_int (hy ▸ hxx y (by rw [ho]; simp [Op.operands]))
  have key : ∃ u, (binOp op xt (.int k i) (.int k j)).run P w = .ok u w ∧ VR K S w r u := by
    cases op <;> simp [arithA] at hr <;> subst hr <;> simp [binOp, Op.intArith, Op.intCmp, Op.intBits] <;> first | exact (PR.int _ _).vr | exact (PR.bool _).vr
  obtain ⟨u, h1, h2⟩ := key
  refine ⟨u, ?_, h2⟩
  rw [execOp_eq ho]; unfold execOp
  simp only [hX, hY]
  have hg : (eqGuard op xt x y (.int k i) (.int k j)).run P w = .ok () w := by
    unfold eqGuard
    split <;> simp_all
  simp [hg, h1]

theorem snd_div {op : BinOp} {xt yt : TypeId} {x y : Operand} {k : IntKind} {i j : Int} (ho : o.op = .binOp op xt x y yt) (hx : evA tm0 x = .int k i) (hy : evA tm0 y = .int k j) (hj : j ≠ 0) (hop : op = .quo ∨ op = .rem) :
    OpSnd P nG G0 n0 o (.int k (if op matches .quo then k.wrap (i.tdiv j) else i.tmod j)) [] rd tm0 hp0 := by
  refine OpSnd.look fun n K S tm hp a w hr' hxx _ => ?_
  have hX := VR_int (hx ▸ hxx x (by rw [ho]; simp [Op.operands]))
  have hY := VR_int (hy ▸ hxx y (by rw [ho]; simp [Op.operands]))
  refine ⟨_, ?_, (PR.int _ _).vr⟩
  rw [execOp_eq ho]; unfold execOp
  rcases hop with rfl | rfl <;> simp [hX, hY, eqGuard, binOp, Op.intDiv, hj]

theorem snd_shr {xt yt : TypeId} {x y : Operand} {k k' : IntKind} {i j : Int} (ho : o.op = .binOp .shr xt x y yt) (hx : evA tm0 x = .int k i) (hy : evA tm0 y = .int k' j) (hj : 0 ≤ j) :
    OpSnd P nG G0 n0 o (.int k (i.fdiv (2 ^ min j.toNat k.bits))) [] rd tm0 hp0 := by
  refine OpSnd.look fun n K S tm hp a w hr' hxx _ => ?_
  have hX := VR_int (hx ▸ hxx x (by rw [ho]; simp [Op.operands]))
  have hY := VR_int (hy ▸ hxx y (by rw [ho]; simp [Op.operands]))
  refine ⟨_, ?_, (PR.int _ _).vr⟩
  rw [execOp_eq ho]; unfold execOp
  simp [hX, hY, eqGuard, binOp, Op.shift, show ¬ j < 0 from by omega]

theorem snd_not {t : TypeId} {x : Operand} {b : Bool} (ho : o.op = .unOp .not t x) (hx : evA tm0 x = .bool b) : OpSnd P nG G0 n0 o (.bool (!b)) [] rd tm0 hp0 := by
  refine OpSnd.look fun n K S tm hp a w hr' hxx _ => ?_
  have hX := VR_bool (hx ▸ hxx x (by rw [ho]; simp [Op.operands]))
  refine ⟨_, ?_, (PR.bool _).vr⟩
  rw [execOp_eq ho]; unfold execOp
  simp [hX, Op.unary]
end ops
end Go.Ab

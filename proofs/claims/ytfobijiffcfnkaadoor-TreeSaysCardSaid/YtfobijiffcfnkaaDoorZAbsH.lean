/- A frame and a heap are seen anew: blocks are forgotten, or come to be seen by what they hold; no condition. -/
import Derived.Test.YtfobijiffcfnkaaDoorZAbsG
namespace Go.Ab

def outR (hp : Nat → Option Blk) (ρ : Nat → Option Nat) : AV → AV
  | .ref id off => match ρ id with | some i => .ref i off | none => .dead
  | .eref sz id j off => match ρ id with | some i => .eref sz i j off | none => .dead
  | .rsl sz id off len => match ρ id with | some i => .rsl sz i off len | none => (match hp id with | some (.arr _ xs) => .sl sz false none ((xs.drop off).take len) | _ => .dead)
  | .rmp id => match ρ id with | some i => .rmp i | none => (match hp id with | some (.mp es) => .mp false es | _ => .dead)
  | .iter id => match ρ id with | some i => .iter i | none => .dead
  | .sl sz nil tok xs => match tok with | some τ => .sl sz nil (ρ τ) xs | none => .sl sz nil none xs
  | .func _ _ => .dead
  | .agg _ => .dead
  | .tup _ => .dead
  | v => v

def outC (hp : Nat → Option Blk) (ρ : Nat → Option Nat) : AV → AV
  | .func f cap => .func f (cap.map (outR hp ρ))
  | v => outR hp ρ v

def outA (hp : Nat → Option Blk) (ρ : Nat → Option Nat) : AV → AV
  | .agg cs => .agg (cs.map (outC hp ρ))
  | v => outC hp ρ v

def outV (hp : Nat → Option Blk) (ρ : Nat → Option Nat) : AV → AV
  | .tup vs => .tup (vs.map (outA hp ρ))
  | v => outA hp ρ v

def outB (hp : Nat → Option Blk) (ρ : Nat → Option Nat) : Blk → Blk
  | .var cs => .var (cs.map (outC hp ρ))
  | .iter es _ => .iter es none
  | b => b

/-- The blocks that are left alone have become stable. -/
def outS (K : KM) (S : Stb) (L : List Nat) : Stb := fun b off => S b off ∨ ∃ id, pos L id = none ∧ ∃ ki, K id = some ki ∧ (match ki with | .arr b' _ _ => b' = b | .mp b' => b' = b | _ => False)

def outK (K : KM) (L : List Nat) : KM := fun i => match L[i]? with | some id => K id | none => none

section
variable {nG : Nat} {G0 : Nat → Option Obj} {K : KM} {S : Stb} {hp : Nat → Option Blk} {w : World} {L : List Nat}

theorem outS_kept : Kept S w (outS K S L) w := ⟨fun _ _ h => .inl h, fun _ _ _ => rfl, fun _ _ => rfl⟩

theorem outK_pos {id i : Nat} {ki : KI} (h : pos L id = some i) (hk : K id = some ki) : outK K L i = some ki := by
  simp only [outK, pos_get h]; exact hk

theorem VR0.out (hr : HRel nG G0 K S hp w) {y : AV} {u : Value} (h : VR0 K S w y u) : VR0 (outK K L) (outS K S L) w (outR hp (pos L) y) u := by
  have hkept : Kept S w (outS K S L) w := outS_kept
  cases y <;> simp only [VR0] at h <;> simp only [outR] <;> try (simp only [VR0]; exact h.mono hkept)
  case dead => simp only [VR0]
  case sl sz nil tok xs =>
    cases tok with
    | none => simp only [VR0] at h ⊢; exact h.mono hkept
    | some τ =>
      simp only
      obtain ⟨p, loc, n, hK, hn, hl⟩ := h
      cases hq : pos L τ with
      | none => simp only [VR0]; exact p.mono hkept
      | some i => simp only [VR0]; exact ⟨p.mono hkept, loc, n, outK_pos hq hK, hn, hl⟩
  case ref id off =>
    obtain ⟨b, hK, hu⟩ := h
    cases hq : pos L id with
    | none => simp only [VR0]
    | some i => simp only [VR0]; exact ⟨b, outK_pos hq hK, hu⟩
  case eref sz id j off =>
    obtain ⟨b, n, hK, h1, hu⟩ := h
    cases hq : pos L id with
    | none => simp only [VR0]
    | some i => simp only [VR0]; exact ⟨b, n, outK_pos hq hK, h1, hu⟩
  case iter id =>
    obtain ⟨b, hK, hu⟩ := h
    cases hq : pos L id with
    | none => simp only [VR0]
    | some i => simp only [VR0]; exact ⟨b, outK_pos hq hK, hu⟩
  case rsl sz id off len =>
    obtain ⟨b, n, cap, hK, h1, h2, rfl⟩ := h
    cases hq : pos L id with
    | some i => simp only [VR0]; exact ⟨b, n, cap, outK_pos hq hK, h1, h2, rfl⟩
    | none =>
      simp only
      cases hb : hp id with
      | none => simp only [VR0]
      | some bl =>
        have hbr := hr.blk id bl _ hb hK
        cases bl <;> simp only [BR] at hbr
        rename_i sz2 xs
        obtain ⟨e1, rfl, hxl, arr, e, hheap, hsz, hv⟩ := hbr
        subst e1
        simp only [VR0]
        have hl : ((xs.drop off).take len).length = len := by simp; omega
        have key := PR.sl (S := outS K S L) (w := w) sz2 b (off * sz2) cap ((xs.drop off).take len) (fun i j => arr[(off + i) * sz2 + j]?.getD undef) (by rw [hl]; exact h2) (fun i x hx => ?_) (fun i x j y hx hy => ?_) (fun i x j y hx hy => ?_)
        · rw [hl] at key; exact key
        all_goals
          rw [List.getElem?_take] at hx
          split at hx
          rotate_left
          · cases hx
          rw [List.getElem?_drop] at hx
        · exact hxl _ x hx
        all_goals
          have hj : j < sz2 := by rw [← hxl _ x hx]; exact (List.getElem?_eq_some_iff.1 hy).1
          have hi' : off + i < xs.length := (List.getElem?_eq_some_iff.1 hx).1
          have hlt := idx_lt hi' hj
          have hs : (off + i) * sz2 + j < arr.size := by omega
        · refine ⟨.inr ⟨id, hq, _, hK, rfl⟩, ?_⟩
          rw [cell_arr hheap, show off * sz2 + (i * sz2 + j) = (off + i) * sz2 + j from by rw [Nat.add_mul]; omega]
          simp [hs]
        · exact (hv _ x j y _ hx hy (by simp [hs])).mono hkept
  case rmp id =>
    obtain ⟨b, hK, rfl⟩ := h
    cases hq : pos L id with
    | some i => simp only [VR0]; exact ⟨b, outK_pos hq hK, rfl⟩
    | none =>
      simp only
      cases hb : hp id with
      | none => simp only [VR0]
      | some bl =>
        have hbr := hr.blk id bl _ hb hK
        cases bl <;> simp only [BR] at hbr
        obtain ⟨ents, clock, hheap, hok, hk, hv⟩ := hbr
        simp only [VR0]
        exact .mp b _ ents clock (fun off => .inr ⟨id, hq, _, hK, rfl⟩) hheap hok (fun i p e hp he => (hk i p e hp he).mono hkept) (fun i p e hp he => (hv i p e hp he).mono hkept)

theorem VR0.vrc {y : AV} {u : Value} (h : VR0 K S w y u) : VRc K S w y u := by
  cases y
  case func => simp only [VR0] at h
  all_goals simpa only [VRc] using h

theorem VRc.out (hr : HRel nG G0 K S hp w) {y : AV} {u : Value} (h : VRc K S w y u) : VRc (outK K L) (outS K S L) w (outC hp (pos L) y) u := by
  cases y
  case func f cap =>
    obtain ⟨cs, h1, h2, h3⟩ := h
    simp only [outC, VRc]
    refine ⟨cs, h1, by simpa using h2, fun j y c hy hc => ?_⟩
    rw [List.getElem?_map] at hy
    cases hq : cap[j]? with
    | none => rw [hq] at hy; cases hy
    | some q => rw [hq] at hy; cases hy; exact (h3 j q c hq hc).out hr
  all_goals
    simp only [VRc] at h
    exact (VR0.out hr h).vrc

theorem VRa.out (hr : HRel nG G0 K S hp w) {y : AV} {u : Value} (h : VRa K S w y u) : VRa (outK K L) (outS K S L) w (outA hp (pos L) y) u := by
  cases y
  case agg ys =>
    obtain ⟨vs, h1, h2, h3⟩ := h
    simp only [outA, VRa]
    refine ⟨vs, h1, by simpa using h2, fun j y c hy hc => ?_⟩
    rw [List.getElem?_map] at hy
    cases hq : ys[j]? with
    | none => rw [hq] at hy; cases hy
    | some q => rw [hq] at hy; cases hy; exact (h3 j q c hq hc).out hr
  all_goals
    simp only [VRa] at h
    exact (VRc.out hr h).vra

theorem VR.out (hr : HRel nG G0 K S hp w) {y : AV} {u : Value} (h : VR K S w y u) : VR (outK K L) (outS K S L) w (outV hp (pos L) y) u := by
  cases y
  case tup ys =>
    obtain ⟨vs, h1, h2, h3⟩ := h
    simp only [outV, VR]
    refine ⟨vs, h1, by simpa using h2, fun j y c hy hc => ?_⟩
    rw [List.getElem?_map] at hy
    cases hq : ys[j]? with
    | none => rw [hq] at hy; cases hy
    | some q => rw [hq] at hy; cases hy; exact (h3 j q c hq hc).out hr
  all_goals
    simp only [VR] at h
    exact (VRa.out hr h).vr

theorem BR.out (hr : HRel nG G0 K S hp w) {bl : Blk} {ki : KI} (h : BR K S w bl ki) : BR (outK K L) (outS K S L) w (outB hp (pos L) bl) ki := by
  have hkept : Kept S w (outS K S L) w := outS_kept
  cases bl <;> cases ki <;> simp only [BR, outB] at h ⊢
  case var.var cs b =>
    obtain ⟨arr, e, h1, h2, h3⟩ := h
    refine ⟨arr, e, h1, by simpa using h2, fun j y u hy hu => ?_⟩
    rw [List.getElem?_map] at hy
    cases hq : cs[j]? with
    | none => rw [hq] at hy; cases hy
    | some q => rw [hq] at hy; cases hy; exact (h3 j q u hq hu).out hr
  case arr.arr sz xs b sz' n =>
    obtain ⟨h1, h2, h3, arr, e, h4, h5, h6⟩ := h
    exact ⟨h1, h2, h3, arr, e, h4, h5, fun i x j y u hx hy hu => (h6 i x j y u hx hy hu).mono hkept⟩
  case grow.grow sz n loc sz' n' => exact h
  case mp.mp es b =>
    obtain ⟨ents, clock, h1, h2, h3, h4⟩ := h
    exact ⟨ents, clock, h1, h2, fun i p e hp he => (h3 i p e hp he).mono hkept, fun i p e hp he => (h4 i p e hp he).mono hkept⟩
  case iter.iter es cur b =>
    obtain ⟨m, since, seen, stepped, h1, h2⟩ := h
    refine ⟨m, since, seen, stepped, h1, ?_⟩
    have h3 := h2.mono hkept
    cases m with
    | none => exact ⟨h3.1, rfl⟩
    | some mb =>
      obtain ⟨ents, clock, g1, g2, g3, g4, g5, g6, g7, g8, g9, g10⟩ := h3
      exact ⟨ents, clock, g1, g2, g3, g4, g5, g6, g7, g8, g9, fun p hp => by cases hp⟩

theorem HRel.out {n0 : Nat} (hr : HRel nG G0 K S hp w) (hnd : L.Nodup) (hbase : ∀ i, i < n0 → L[i]? = some i) :
    HRel nG G0 (outK K L) (outS K S L) (hpF (L.map fun id => (hp id).map (outB hp (pos L)))) w ∧ Ext n0 K S w (outK K L) (outS K S L) w := by
  have hK : ∀ i ki, outK K L i = some ki → ∃ id, L[i]? = some id ∧ K id = some ki := by
    intro i ki h
    simp only [outK] at h
    split at h
    · rename_i id hq; exact ⟨id, hq, h⟩
    · cases h
  have hhp : ∀ i, hpF (L.map fun id => (hp id).map (outB hp (pos L))) i = match L[i]? with | some id => (hp id).map (outB hp (pos L)) | none => none := by
    intro i
    simp only [hpF, List.getD_eq_getElem?_getD, List.getElem?_map]
    cases L[i]? <;> simp
  refine ⟨⟨fun i => ?_, fun i bl ki hb hk => ?_, fun i j ki kj b hi hj hbi hbj => ?_, fun b off hs => ?_, fun b off i ki hs hk hbk => ?_, fun i ki b hk hbk => ?_, hr.fix, hr.nG⟩,
    rfl, rfl, rfl, Nat.le_refl _, fun _ _ _ => rfl, fun i ki b hk hb => ?_, outS_kept, fun b off hs => ?_, fun id ki hid hk => ?_⟩
  · rw [hhp]
    simp only [outK]
    cases hq : L[i]? with
    | none => rfl
    | some id => simpa using hr.dom id
  · rw [hhp] at hb
    obtain ⟨id, h1, h2⟩ := hK i ki hk
    rw [h1] at hb
    simp only [Option.map_eq_some_iff] at hb
    obtain ⟨bl0, h3, rfl⟩ := hb
    exact (hr.blk id bl0 ki h3 h2).out hr
  · obtain ⟨id, h1, h2⟩ := hK i ki hi
    obtain ⟨id', h3, h4⟩ := hK j kj hj
    have := hr.inj id id' ki kj b h2 h4 hbi hbj
    subst this
    have e1 := get_pos hnd h1
    have e2 := get_pos hnd h3
    rw [e1] at e2; cases e2; rfl
  · rcases hs with hs | ⟨id, _, ki, hk, hb⟩
    · exact hr.lt b off hs
    · refine hr.klt hk (b := b) ?_
      cases ki <;> simp at hb <;> simp [KI.blk, hb]
  · obtain ⟨id, h1, h2⟩ := hK i ki hk
    rcases hs with hs | ⟨id', hn, ki', hk', hb'⟩
    · exact hr.apart b off id ki hs h2 hbk
    · exfalso
      have hb2 : ki'.blk = some b := by cases ki' <;> simp at hb' <;> simp [KI.blk, hb']
      have := hr.inj id id' ki ki' b h2 hk' hbk hb2
      subst this
      rw [get_pos hnd h1] at hn; cases hn
  · obtain ⟨id, h1, h2⟩ := hK i ki hk
    exact hr.glob id ki b h2 hbk
  · obtain ⟨id, h1, h2⟩ := hK i ki hk
    exact .inl ⟨id, ki, h2, hb⟩
  · rcases hs with hs | ⟨id, _, ki, hk, hb⟩
    · exact .inl hs
    · refine .inr (.inr ⟨id, ki, hk, ?_⟩)
      cases ki <;> simp at hb <;> simp [KI.blk, hb]
  · exact ⟨ki, by simp only [outK, hbase id hid]; exact hk, kle.refl ki⟩
end
end Go.Ab

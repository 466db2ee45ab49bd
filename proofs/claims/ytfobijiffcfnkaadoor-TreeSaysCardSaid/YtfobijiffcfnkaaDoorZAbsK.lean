/- Maps, their walks, new arrays; no condition. -/
import Derived.Test.YtfobijiffcfnkaaDoorZAbsD
import Derived.MapKept
import Derived.Laws.MakeOwn
namespace Go.Ab
open Go.MapKept (run_getObj_map run_setObj_map run_checkKey run_findKey run_keyThatStays IsKey)

def mlook (kd : IntKind) (n : Int) : List (AV × AV) → Option (Option AV)
  | [] => some none
  | p :: r =>
    match p.1 with
    | .int kd' a => bif kd' == kd then (bif a == n then some (some p.2) else mlook kd n r) else none
    | _ => none

def mlookD (kd : IntKind) (n : Int) (d : AV) (es : List (AV × AV)) : Option (AV × Bool) :=
  match mlook kd n es with
  | none => none
  | some none => some (d, false)
  | some (some v) => some (v, true)

def mupd (kd : IntKind) (n : Int) (v : AV) : List (AV × AV) → Option (List (AV × AV))
  | [] => some [(.int kd n, v)]
  | p :: r =>
    match p.1 with
    | .int kd' a => bif kd' == kd then (bif a == n then some ((.int kd n, v) :: r) else (mupd kd n v r).map (p :: ·)) else none
    | _ => none

section
variable {S : Stb} {w : World}

theorem findNow_look {kd kd0 : IntKind} {n : Int} : ∀ (es : List (AV × AV)) (l : List MapEntry) (i0 : Nat) (r : Option AV), l.length = es.length →
    (∀ (i : Nat) (p : AV × AV) (e : MapEntry), es[i]? = some p → l[i]? = some e → PR S w p.1 e.key) → mlook kd n es = some r →
    match r with
    | none => Instr.findNow (.int kd0) (.int kd n) l i0 = some none
    | some v => ∃ (i : Nat) (p : AV × AV) (e : MapEntry), es[i]? = some p ∧ l[i]? = some e ∧ p.2 = v ∧ e.key = .int kd n ∧ Instr.findNow (.int kd0) (.int kd n) l i0 = some (some (i0 + i, e.val))
  | [], [], i0, r, _, _, h => by simp [mlook] at h; subst h; rfl
  | p :: es, e :: l, i0, r, hl, hk, h => by
    simp only [mlook] at h
    split at h
    · rename_i kd' a hp
      have hke := hk 0 p e rfl rfl
      rw [hp] at hke
      generalize hek : e.key = u at hke
      cases hke
      cases hkd : kd' == kd with
      | false => rw [hkd] at h; cases h
      | true =>
        rw [hkd, cond_true] at h
        have hkd : kd' = kd := by simpa using hkd
        subst hkd
        cases ha : a == n with
        | true =>
          rw [ha, cond_true] at h
          have ha : a = n := by simpa using ha
          subst ha
          cases h
          exact ⟨0, p, e, rfl, rfl, rfl, hek, by simp [Instr.findNow, Instr.sameNow, hek]⟩
        | false =>
          rw [ha, cond_false] at h
          have hne : (n == a) = false := by
            have : a ≠ n := by simpa using ha
            simpa using this.symm
          have ih := findNow_look (kd0 := kd0) es l (i0 + 1) r (by simpa using hl) (fun i p e h1 h2 => hk (i + 1) p e (by simpa using h1) (by simpa using h2)) h
          cases r with
          | none => simp only at ih ⊢; simp [Instr.findNow, Instr.sameNow, hek, hne, ih]
          | some v =>
            obtain ⟨i, p', e', h1, h2, h3, h4, h5⟩ := ih
            exact ⟨i + 1, p', e', by simpa using h1, by simpa using h2, h3, h4, by simp [Instr.findNow, Instr.sameNow, hek, hne, h5]; omega⟩
    · cases h
  | [], _ :: _, _, _, hl, _, _ => by simp at hl
  | _ :: _, [], _, _, hl, _, _ => by simp at hl

theorem mupd_spec {kd : IntKind} {n : Int} {v : AV} : ∀ (es es' : List (AV × AV)), mupd kd n v es = some es' →
    (mlook kd n es = some none ∧ es' = es ++ [(.int kd n, v)]) ∨ ∃ (i : Nat) (p : AV × AV), mlook kd n es = some (some p.2) ∧ es[i]? = some p ∧ p.1 = .int kd n ∧ es' = es.set i (.int kd n, v) ∧ ∀ (j : Nat) (q : AV × AV), j < i → es[j]? = some q → ∃ a, q.1 = .int kd a ∧ a ≠ n
  | [], es', h => by simp [mupd] at h; subst h; exact .inl ⟨rfl, rfl⟩
  | p :: r, es', h => by
    simp only [mupd] at h
    split at h
    · rename_i kd' a hp
      cases hkd : kd' == kd with
      | false => rw [hkd] at h; cases h
      | true =>
        rw [hkd, cond_true] at h
        have hkd' : kd' = kd := by simpa using hkd
        subst hkd'
        cases ha : a == n with
        | true =>
          rw [ha, cond_true] at h
          have ha' : a = n := by simpa using ha
          subst ha'
          cases h
          exact .inr ⟨0, p, by simp [mlook, hp], rfl, hp, rfl, fun j q hj => by omega⟩
        | false =>
          rw [ha, cond_false] at h
          simp only [Option.map_eq_some_iff] at h
          obtain ⟨r', hr', rfl⟩ := h
          have ha' : a ≠ n := by simpa using ha
          rcases mupd_spec r r' hr' with ⟨h1, h2⟩ | ⟨i, q, h1, h2, h3, h4, h5⟩
          · exact .inl ⟨by simp [mlook, hp, ha, h1], by simp [h2]⟩
          · refine .inr ⟨i + 1, q, by simp [mlook, hp, ha, h1], by simpa using h2, h3, by simp [h4], fun j q' hj hq' => ?_⟩
            cases j with
            | zero => simp at hq'; subst hq'; exact ⟨a, hp, ha'⟩
            | succ j => exact h5 j q' (by omega) (by simpa using hq')
    · cases h

theorem findNow_at {kd kd0 : IntKind} {n : Int} : ∀ (es : List (AV × AV)) (l : List MapEntry) (i0 i : Nat) (p : AV × AV), l.length = es.length →
    (∀ (i : Nat) (p : AV × AV) (e : MapEntry), es[i]? = some p → l[i]? = some e → PR S w p.1 e.key) → es[i]? = some p → p.1 = .int kd n → (∀ (j : Nat) (q : AV × AV), j < i → es[j]? = some q → ∃ a, q.1 = .int kd a ∧ a ≠ n) →
    ∃ e, l[i]? = some e ∧ e.key = .int kd n ∧ Instr.findNow (.int kd0) (.int kd n) l i0 = some (some (i0 + i, e.val))
  | p0 :: es, e :: l, i0, 0, p, hl, hk, hp, hpk, _ => by
    simp at hp; subst hp
    have hke := hk 0 p0 e rfl rfl
    rw [hpk] at hke
    generalize hek : e.key = u at hke
    cases hke
    exact ⟨e, rfl, hek, by simp [Instr.findNow, Instr.sameNow, hek]⟩
  | p0 :: es, e :: l, i0, i + 1, p, hl, hk, hp, hpk, hj => by
    obtain ⟨a, h1, h2⟩ := hj 0 p0 (by omega) rfl
    have hke := hk 0 p0 e rfl rfl
    rw [h1] at hke
    generalize hek : e.key = u at hke
    cases hke
    obtain ⟨e', h3, h4, h5⟩ := findNow_at (kd0 := kd0) es l (i0 + 1) i p (by simpa using hl) (fun i p e h1 h2 => hk (i + 1) p e (by simpa using h1) (by simpa using h2)) (by simpa using hp) hpk (fun j q hlt hq => hj (j + 1) q (by omega) (by simpa using hq))
    have hne : (n == a) = false := by simpa using h2.symm
    exact ⟨e', by simpa using h3, h4, by simp [Instr.findNow, Instr.sameNow, hek, hne, h5]; omega⟩
  | [], _, _, _, _, _, _, hp, _, _ => by simp at hp
  | _ :: _, [], _, _, _, hl, _, _, _, _ => by simp at hl
end

section ops
variable {P : Program} {tab : Tab} {nG : Nat} {G0 : Nat → Option Obj} {n0 : Nat} {o : Oper} {rd : List Nat} {tm0 : Nat → AV} {hp0 : Nat → Option Blk}

/-- How a map of the abstract side lies in the world. -/
theorem map_ents {S : Stb} {w : World} {nil : Bool} {es : List (AV × AV)} {u : Value} (h : PR S w (.mp nil es) u) :
    ∃ ents : Array MapEntry, ents.size = es.length ∧ ((u = .map none ∧ ents = #[]) ∨ ∃ b clock, u = .map (some b) ∧ w.heap[b]? = some (.map ents clock)) ∧
      (∀ (i : Nat) (p : AV × AV) (e : MapEntry), es[i]? = some p → ents.toList[i]? = some e → PR S w p.1 e.key) ∧ (∀ (i : Nat) (p : AV × AV) (e : MapEntry), es[i]? = some p → ents.toList[i]? = some e → PR S w p.2 e.val) := by
  cases h with
  | mpNil => exact ⟨#[], rfl, .inl ⟨rfl, rfl⟩, fun i p e hp => by simp at hp, fun i p e hp => by simp at hp⟩
  | mp b es ents clock hb hh ho hk hv => exact ⟨ents, ho.size, .inr ⟨b, clock, rfl, hh⟩, fun i p e hp he => hk i p e hp (by simpa using he), fun i p e hp he => hv i p e hp (by simpa using he)⟩

theorem VRc_zero (K : KM) (S : Stb) (w : World) (c : CK) : VRc K S w (zeroA c) (zeroC c) := by
  cases c <;> simp only [zeroA, zeroC, VRc, VR0]
  · constructor
  · constructor
  · exact PR.str []
  · constructor
  · constructor
  · constructor
  · constructor

theorem snd_lookup {t kt et : TypeId} {ti ki ei : TI} {x i : Operand} {ok b : Bool} {es : List (AV × AV)} {kd : IntKind} {n : Int} {v : AV} {c : CK} (ht : TIok P t ti) (hk : ti.kind = .map kt et) (hkt : TIok P kt ki) (hkk : ki.kind = .scalar (.int kd))
    (het : TIok P et ei) (hea : ei.kind.isAgg = false) (hec : ei.cells = [c]) (ho : o.op = .lookup t x i ok)
    (hx : (∃ nil, evA tm0 x = .mp nil es) ∨ ∃ id, evA tm0 x = .rmp id ∧ hp0 id = some (.mp es) ∧ id ∈ rd) (hi : evA tm0 i = .int kd n) (hl : mlookD kd n (zeroA c) es = some (v, b)) :
    OpSnd P nG G0 n0 o (bif ok then .tup [v, .bool b] else v) [] rd tm0 hp0 := by
  refine OpSnd.look fun n1 K S tm hp a w hr hxx hh => ?_
  have hX := hxx x (by rw [ho]; simp [Op.operands])
  have hI := VR_int (hi ▸ hxx i (by rw [ho]; simp [Op.operands]))
  have hkm := ht.kind
  rw [hk] at hkm
  have hkd := hkt.kind
  rw [hkk] at hkd
  obtain ⟨d, hd, hs⟩ := hkd
  cases d <;> simp [scalarDesc] at hs
  rename_i kd0
  subst hs
  obtain ⟨ents, hsz, hu, hkey, hval⟩ : ∃ ents : Array MapEntry, ents.size = es.length ∧ ((a.eval x = .map none ∧ ents = #[]) ∨ ∃ b clock, a.eval x = .map (some b) ∧ w.heap[b]? = some (.map ents clock)) ∧
      (∀ (i : Nat) (p : AV × AV) (e : MapEntry), es[i]? = some p → ents.toList[i]? = some e → PR S w p.1 e.key) ∧ (∀ (i : Nat) (p : AV × AV) (e : MapEntry), es[i]? = some p → ents.toList[i]? = some e → PR S w p.2 e.val) := by
    rcases hx with ⟨nil, hx⟩ | ⟨id, hx, hb, hid⟩
    · rw [hx] at hX; exact map_ents (VR_mp hX)
    · rw [hx] at hX
      obtain ⟨b, hK, hu⟩ := VR_rmp hX
      obtain ⟨ents, clock, h1, h2, h3, h4⟩ := hr.heap.blk id (.mp es) (.mp b) ((hh id hid).trans hb) hK
      exact ⟨ents, h2.size, .inr ⟨b, clock, hu, h1⟩, fun i p e hp he => h3 i p e hp (by simpa using he), fun i p e hp he => h4 i p e hp (by simpa using he)⟩
  -- the look-up itself
  obtain ⟨u, hrun, hv⟩ : ∃ u : Value, ((Instr.findKey kt (.int kd n) ents.toList).run P w = .ok none w ∧ b = false ∧ u = ei.zeroV ∨ ∃ j, (Instr.findKey kt (.int kd n) ents.toList).run P w = .ok (some (j, u)) w ∧ b = true) ∧ VRc K S w v u := by
    unfold mlookD at hl
    split at hl
    · cases hl
    · rename_i hm
      cases hl
      have := findNow_look (kd0 := kd) es ents.toList 0 none (by simpa using hsz) hkey hm
      refine ⟨ei.zeroV, .inl ⟨run_findKey hd this, rfl, rfl⟩, ?_⟩
      unfold TI.zeroV
      rw [hea, hec]
      exact VRc_zero _ _ _ _
    · rename_i v' hm
      cases hl
      obtain ⟨j, p, e, h1, h2, h3, h4, h5⟩ := findNow_look (kd0 := kd) es ents.toList 0 (some _) (by simpa using hsz) hkey hm
      exact ⟨e.val, .inr ⟨_, run_findKey hd h5, rfl⟩, h3 ▸ (hval j p e h1 h2).vrc⟩
  refine ⟨if ok then .tuple #[u, .bool b] else u, ?_, ?_⟩
  · rw [execOp_eq ho]; unfold execOp
    have hck : ∀ em, (Instr.checkKey em 10000 kt (.int kd n)).run P w = .ok () w := fun em => run_checkKey hd (k := .int kd n) rfl em 9999
    rcases hu with ⟨hu, rfl⟩ | ⟨b', clock, hu, hb'⟩
    · rcases hrun with ⟨h1, rfl, rfl⟩ | ⟨j, h1, rfl⟩
      · simp [hu, hI, Instr.lookup, run_under hkm, hck, h1, het.run_zero]
      · simp [hu, hI, Instr.lookup, run_under hkm, hck, h1]
    · rcases hrun with ⟨h1, rfl, rfl⟩ | ⟨j, h1, rfl⟩
      · simp [hu, hI, Instr.lookup, run_under hkm, run_getObj_map hb', hck, h1, het.run_zero]
      · simp [hu, hI, Instr.lookup, run_under hkm, run_getObj_map hb', hck, h1]
  · cases ok with
    | false => simpa using (show VR K S w v u from by
        cases v <;> simp only [VRc, VR0] at hv <;> simp only [VR, VRa, VRc, VR0] <;> exact hv)
    | true =>
      simp only [cond_true, if_true, VR]
      refine ⟨_, rfl, rfl, fun j y z hy hz => ?_⟩
      match j with
      | 0 =>
        simp at hy hz; subst hy; subst hz
        cases v <;> simp only [VRc, VR0] at hv <;> simp only [VRa, VRc, VR0] <;> exact hv
      | 1 => simp at hy hz; subst hy; subst hz; exact PR.bool _
      | j + 2 => simp at hy

theorem snd_makeMap {t : TypeId} {id : Nat} (ho : o.op = .makeMap t none) (hrd : id ∉ rd) : OpSnd P nG G0 n0 o (.rmp id) [(id, .mp [])] rd tm0 hp0 := by
  refine OpSnd.new hrd fun n K S tm hp a w hr hx _ => ⟨.map (some w.heap.size), .map #[] 0, .mp w.heap.size, 0, ?_, rfl, .inl rfl, fun hK hS => ⟨?_, ?_⟩⟩
  · rw [execOp_eq ho]; unfold execOp; simp [Instr.makeMap]
  · exact ⟨#[], 0, heap_alloc_eq _ _, ⟨rfl, fun i e h => by simp at h, fun i j e e' h => by simp at h⟩, fun i p e h => by simp at h, fun i p e h => by simp at h⟩
  · simp [VR, VRa, VRc, VR0, updK]

theorem snd_mapUpdate {t kt et : TypeId} {ti ki : TI} {m i x : Operand} {id : Nat} {es es' : List (AV × AV)} {kd : IntKind} {n : Int} (ht : TIok P t ti) (hk : ti.kind = .map kt et) (hkt : TIok P kt ki) (hkk : ki.kind = .scalar (.int kd))
    (ho : o.op = .mapUpdate t m i x ∨ o.op = .insert t m i x) (hm : evA tm0 m = .rmp id) (hb : hp0 id = some (.mp es)) (hid : id ∈ rd) (hi : evA tm0 i = .int kd n) (hp : (evA tm0 x).pureC = true) (hl : mupd kd n (evA tm0 x) es = some es') :
    OpSnd P nG G0 n0 o .dead [(id, .mp es')] rd tm0 hp0 := by
  refine OpSnd.set hid fun n1 K S tm hp2 a w hr hxx hh => ?_
  have hops : m ∈ o.op.operands ∧ i ∈ o.op.operands ∧ x ∈ o.op.operands := by rcases ho with ho | ho <;> rw [ho] <;> simp [Op.operands]
  have hM := hxx m hops.1
  rw [hm] at hM
  have hI := VR_int (hi ▸ hxx i hops.2.1)
  have hX := hxx x hops.2.2
  have hXP : PR S w (evA tm0 x) (a.eval x) := by
    revert hp hX
    generalize evA tm0 x = y
    intro hp hX
    cases y <;> simp [AV.pureC] at hp <;> try (simpa only [VR, VRa, VRc, VR0] using hX)
    rename_i sz nil tok xs
    cases tok with
    | none => simpa only [VR, VRa, VRc, VR0] using hX
    | some => simp at hp
  have hkm := ht.kind
  rw [hk] at hkm
  have hkd := hkt.kind
  rw [hkk] at hkd
  obtain ⟨d, hd, hs⟩ := hkd
  cases d <;> simp [scalarDesc] at hs
  rename_i kd0
  subst hs
  obtain ⟨b, hK, hu⟩ := VR_rmp hM
  obtain ⟨ents, clock, hheap, hok, hkey, hval⟩ := hr.heap.blk id (.mp es) (.mp b) ((hh id hid).trans hb) hK
  have hkey' : ∀ (i : Nat) (p : AV × AV) (e : MapEntry), es[i]? = some p → ents.toList[i]? = some e → PR S w p.1 e.key := fun i p e h1 h2 => hkey i p e h1 (by simpa using h2)
  have hck : ∀ em, (Instr.checkKey em 10000 kt (.int kd n)).run P w = .ok () w := fun em => run_checkKey hd (k := .int kd n) rfl em 9999
  have hlt : b < w.heap.size := (Array.getElem?_eq_some_iff.1 hheap).1
  have hexec : (execOp a.eval o).run P w = ((Instr.mapUpdate t (a.eval m) (a.eval i) (a.eval x)).run P w).andThen fun _ w' => .ok .skip w' := by
    rcases ho with ho | ho <;> · rw [execOp_eq ho]; unfold execOp; simp
  have hout : ∀ ob : Obj, ∀ b', b' ≠ b → (putB w b ob).heap[b']? = w.heap[b']? := fun ob b' hb' => putB_heap_ne _ _ _ _ hb'
  rcases mupd_spec es es' hl with ⟨h1, h2⟩ | ⟨j, p, h1, h2, h3, h4, h5⟩
  · have hf := findNow_look (kd0 := kd) es ents.toList 0 none (by simpa using hok.size) hkey' h1
    refine ⟨undef, putB w b (.map (ents.push { key := .int kd n, val := a.eval x, born := clock }) (clock + 1)), .mp b, b, .inr ⟨?_, rfl⟩, hK, rfl, fun _ _ _ => by simp, rfl, rfl, rfl, putB_size _ _ _, hout _, fun hkept => ⟨?_, VR_dead _ _ _ _⟩⟩
    · rw [hexec, hu, hI]
      simp only [Instr.mapUpdate, Sem.run_bind, run_under hkm, Result.andThen_ok, run_getObj_map hheap, hck, run_findKey hd hf, run_setObj_map _ hheap]
      rfl
    · subst h2
      refine ⟨_, _, putB_heap _ _ _ hlt, ⟨by simp [hok.size], fun i e he => ?_, fun i i' e e' he he' hbb => ?_⟩, fun i p e hp he => ?_, fun i p e hp he => ?_⟩
      · rw [Array.getElem?_push] at he
        split at he
        · cases he; exact Nat.lt_succ_self _
        · exact Nat.lt_succ_of_lt (hok.born i e he)
      · rw [Array.getElem?_push] at he he'
        split at he <;> split at he'
        · omega
        · cases he; have := hok.born i' e' he'; simp at hbb; omega
        · cases he'; have := hok.born i e he; simp at hbb; omega
        · exact hok.inj i i' e e' he he' hbb
      · rw [Array.getElem?_push] at he
        split at he
        · rename_i hi'
          cases he
          rw [List.getElem?_append_right (by rw [← hok.size]; omega), hi', hok.size] at hp
          simp at hp; subst hp
          exact PR.int _ _
        · rename_i hi'
          have : i < es.length := by rw [← hok.size]; exact (Array.getElem?_eq_some_iff.1 he).1
          rw [List.getElem?_append_left this] at hp
          exact (hkey i p e hp he).mono hkept
      · rw [Array.getElem?_push] at he
        split at he
        · rename_i hi'
          cases he
          rw [List.getElem?_append_right (by rw [← hok.size]; omega), hi', hok.size] at hp
          simp at hp; subst hp
          exact hXP.mono hkept
        · rename_i hi'
          have : i < es.length := by rw [← hok.size]; exact (Array.getElem?_eq_some_iff.1 he).1
          rw [List.getElem?_append_left this] at hp
          exact (hval i p e hp he).mono hkept
  · obtain ⟨e, g1, g2, g3⟩ := findNow_at (kd0 := kd) es ents.toList 0 j p (by simpa using hok.size) hkey' h2 h3 h5
    have g1' : ents[j]? = some e := by simpa using g1
    refine ⟨undef, putB w b (.map (ents.modify j fun e => { e with key := .int kd n, val := a.eval x }) clock), .mp b, b, .inr ⟨?_, rfl⟩, hK, rfl, fun _ _ _ => by simp, rfl, rfl, rfl, putB_size _ _ _, hout _, fun hkept => ⟨?_, VR_dead _ _ _ _⟩⟩
    · rw [hexec, hu, hI]
      have hstay : (Instr.keyThatStays (.int kd n) (.int kd n)).run P w = .ok (.int kd n) w := run_keyThatStays (d := .int kd) rfl
      simp only [Instr.mapUpdate, Sem.run_bind, run_under hkm, Result.andThen_ok, run_getObj_map hheap, hck, run_findKey hd g3, Nat.zero_add, g1', Option.map_some, Option.getD_some, g2, hstay, run_setObj_map _ hheap]
      rfl
    · subst h4
      have hmod : ∀ (i : Nat) (e' : MapEntry), (ents.modify j fun e => { e with key := .int kd n, val := a.eval x })[i]? = some e' → ∃ e0, ents[i]? = some e0 ∧ e'.born = e0.born ∧ (i = j → e'.key = .int kd n ∧ e'.val = a.eval x) ∧ (i ≠ j → e' = e0) := by
        intro i e' he'
        rw [Array.getElem?_modify] at he'
        split at he'
        · rename_i hij
          subst hij
          simp only [Option.map_eq_some_iff] at he'
          obtain ⟨e0, h1, rfl⟩ := he'
          exact ⟨e0, h1, rfl, fun _ => ⟨rfl, rfl⟩, fun h => absurd rfl h⟩
        · rename_i hij
          exact ⟨e', he', rfl, fun h => absurd h.symm hij, fun _ => rfl⟩
      refine ⟨_, _, putB_heap _ _ _ hlt, ⟨by simp [hok.size], fun i e he => ?_, fun i i' e e' he he' hbb => ?_⟩, fun i q e' hq he => ?_, fun i q e' hq he => ?_⟩
      · obtain ⟨e0, k1, k2, _⟩ := hmod i e he
        rw [k2]; exact hok.born i e0 k1
      · obtain ⟨e0, k1, k2, _⟩ := hmod i e he
        obtain ⟨e1, k3, k4, _⟩ := hmod i' e' he'
        exact hok.inj i i' e0 e1 k1 k3 (by rw [← k2, ← k4]; exact hbb)
      · obtain ⟨e0, k1, k2, k3, k4⟩ := hmod i e' he
        rw [List.getElem?_set] at hq
        split at hq
        · rename_i hij
          split at hq
          · cases hq; rw [(k3 hij.symm).1]; exact PR.int _ _
          · cases hq
        · rename_i hij
          rw [k4 (fun h => hij h.symm)]
          exact (hkey i q e0 hq k1).mono hkept
      · obtain ⟨e0, k1, k2, k3, k4⟩ := hmod i e' he
        rw [List.getElem?_set] at hq
        split at hq
        · rename_i hij
          split at hq
          · cases hq; rw [(k3 hij.symm).2]; exact hXP.mono hkept
          · cases hq
        · rename_i hij
          rw [k4 (fun h => hij h.symm)]
          exact (hval i q e0 hq k1).mono hkept

theorem snd_range {t kt et : TypeId} {ti : TI} {x : Operand} {nil : Bool} {es : List (AV × AV)} {id : Nat} (ht : TIok P t ti) (hk : ti.kind = .map kt et) (ho : o.op = .range t x) (hx : evA tm0 x = .mp nil es) (hrd : id ∉ rd) :
    OpSnd P nG G0 n0 o (.iter id) [(id, .iter es none)] rd tm0 hp0 := by
  have hkm := ht.kind
  rw [hk] at hkm
  refine OpSnd.new hrd fun n K S tm hp a w hr hxx _ => ?_
  have hX := VR_mp (hx ▸ hxx x (by rw [ho]; simp [Op.operands]))
  generalize hu : a.eval x = u at hX
  cases hX with
  | mpNil =>
    refine ⟨.pointer (some (ad w.heap.size 0)), .mapIter none 0 #[] 0, .iter w.heap.size, 0, ?_, rfl, .inl rfl, fun hK hS => ⟨⟨none, 0, #[], 0, heap_alloc_eq _ _, rfl, rfl⟩, by simp [VR, VRa, VRc, VR0, updK]⟩⟩
    rw [execOp_eq ho]; unfold execOp; simp [hu, Instr.range, run_under hkm, ad]
  | mp b es ents clock hb hh ho' hk' hv' =>
    refine ⟨.pointer (some (ad w.heap.size 0)), .mapIter (some b) clock #[] clock, .iter w.heap.size, 0, ?_, rfl, .inl rfl, fun hK hS => ⟨⟨some b, clock, #[], clock, heap_alloc_eq _ _, ?_⟩, by simp [VR, VRa, VRc, VR0, updK]⟩⟩
    · rw [execOp_eq ho]; unfold execOp; simp [hu, Instr.range, run_under hkm, run_getObj_map hh, ad]
    · have hfil : (ents.toList.filter fun e => !(#[] : Array Nat).contains e.born) = ents.toList := by simp
      refine ⟨ents, clock, fun off => .inl (hb off), ?_, rfl, rfl, ho'.born, ho'.inj, by rw [hfil]; simpa using ho'.size, fun i p e hp he => ?_, fun i p e hp he => ?_, fun p hp => by cases hp⟩
      · have hlt : b < w.heap.size := (Array.getElem?_eq_some_iff.1 hh).1
        rw [heap_alloc_lt w _ b hlt]; exact hh
      · rw [hfil] at he; exact (hk' i p e hp (by simpa using he)).mono hS
      · rw [hfil] at he; exact (hv' i p e hp (by simpa using he)).mono hS

theorem snd_entry {x : Operand} {id : Nat} {es : List (AV × AV)} {p : AV × AV} (ho : o.op = .entry x) (hx : evA tm0 x = .iter id) (hb : hp0 id = some (.iter es (some p))) (hid : id ∈ rd) :
    OpSnd P nG G0 n0 o (.tup [p.1, p.2]) [] rd tm0 hp0 := by
  refine OpSnd.look fun n K S tm hp a w hr hxx hh => ?_
  obtain ⟨b, hK, hu⟩ := VR_iter (hx ▸ hxx x (by rw [ho]; simp [Op.operands]))
  obtain ⟨m, since, seen, stepped, hheap, hit⟩ := hr.heap.blk id _ (.iter b) ((hh id hid).trans hb) hK
  cases m with
  | none => obtain ⟨_, h⟩ := hit; cases h
  | some mb =>
    obtain ⟨ents, clock, h1, h2, rfl, rfl, h5, h6, h7, h8, h9, h10⟩ := hit
    obtain ⟨e, he, hback, hk, hv⟩ := h10 p rfl
    obtain ⟨i, hi⟩ := List.mem_iff_getElem?.1 he
    have hfind : ents.find? (fun x => x.born == e.born) = some e := by
      cases hf : ents.find? (fun x => x.born == e.born) with
      | none =>
        have := Array.find?_eq_none.1 hf e (by simpa using he)
        simp at this
      | some e' =>
        have hb' := Array.find?_some hf
        have hm' := Array.mem_of_find?_eq_some hf
        obtain ⟨i', hi'⟩ := Array.mem_iff_getElem?.1 hm'
        have := h6 i' i e' e hi' (by simpa using hi) (by simpa using hb')
        subst this
        have hi2 : ents[i']? = some e := by simpa using hi
        rw [hi2] at hi'
        exact hi'.symm ▸ rfl
    refine ⟨.tuple #[e.key, e.val], ?_, ?_⟩
    · rw [execOp_eq ho]; unfold execOp
      have hg : (getObj b).run P w = .ok (.mapIter (some mb) stepped seen stepped) w := by simp [getObj, Sem.run, hheap]
      simp [hu, ad, Instr.entry, hg, hback, run_getObj_map h2, hfind]
    · simp only [VR]
      refine ⟨_, rfl, rfl, fun j y z hy hz => ?_⟩
      match j with
      | 0 => simp at hy hz; subst hy; subst hz; exact (hk.vrc (K := K)).vra
      | 1 => simp at hy hz; subst hy; subst hz; exact (hv.vrc (K := K)).vra
      | j + 2 => simp at hy
end ops
end Go.Ab

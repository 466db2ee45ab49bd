/- That a region whose order is drawn is sound; no condition. -/
import Derived.Test.YtfobijiffcfnkaaDoorZAbsO
namespace Go.Ab

theorem apart_dst {a b : Foot} (h : apart a b = true) {d : Nat} (hd : a.dst = some d) : d ∉ b.ops ∧ b.dst ≠ some d := by
  simp only [apart, Bool.and_eq_true] at h
  have h1 := h.1.1.1
  rw [hd] at h1
  simp only [Bool.and_eq_true, Bool.not_eq_true', List.elem_eq_mem, decide_eq_false_iff_not] at h1
  refine ⟨h1.1, fun e => ?_⟩
  have h2 := h1.2
  rw [e] at h2
  simp at h2

theorem apart_ws {a b : Foot} (h : apart a b = true) {i : Nat} (hi : i ∈ a.ws) : i ∉ b.rd ∧ i ∉ b.ws := by
  simp only [apart, Bool.and_eq_true] at h
  have h1 := List.all_eq_true.1 h.1.2 i hi
  simpa using h1

section
variable {P : Program} {tab : Tab} {nG : Nat} {G0 : Nat → Option Obj} {n0 : Nat}

theorem RelF.fns {n : Nat} {K : KM} {S : Stb} {tm tm' : Nat → AV} {hp hp' : Nat → Option Blk} {a : Act} {w : World} (h : RelF nG G0 n K S tm hp a w) (e1 : tm = tm') (e2 : hp = hp') : RelF nG G0 n K S tm' hp' a w := e1 ▸ e2 ▸ h

theorem yielded_fn {ops : Array Oper} {a : Act} {j d n : Nat} {c : Bool} {K : KM} {S : Stb} {tm : Nat → AV} {hp : Nat → Option Blk} {w : World} (h : RelF nG G0 n K S tm hp a w)
    (hd : (ops.toList[j]?).bind (·.dst) = some d) (hc : tm d = .bool c) : yielded ops a.tmps j = some c := yielded_of h hd hc

theorem draw_snd {ops : Array Oper} {n h0 : Nat} {tm0 : Nat → AV} {hp0 : Nat → Option Blk} {ss : List TStep} {tmN : List AV} {hpN : List (Option Blk)} {Q : Exit → Act → World → Prop} {K0 : KM} {S0 : Stb} {w0 : World}
    (ht : Tr P nG G0 ops.toList n h0 ops.toList tm0 hp0 ss tmN hpN) (hok : drawOk ops.toList (ss.map (·.foot)) = true) (hn0 : n0 ≤ h0) (hfr : ∀ id, h0 ≤ id → hp0 id = none)
    (hq : ∀ a w K S, RelF nG G0 n K S (tmF tmN) (hpF hpN) a w → Ext n0 K0 S0 w0 K S w → Q .normal a w) :
    ∀ (l : List Nat) (D : Nat → Bool), Topo (ops.toList.map edgesOf) D l → (∀ m, D m = true → ∀ j, ((befs (ops.toList.map edgesOf) []).getD m 0).testBit j = true → D j = true) →
      ∀ (K : KM) (S : Stb) (a : Act) (w : World), RelF nG G0 n K S (fld D (ss.map gT) 0 tm0) (fld D (ss.map gH) 0 hp0) a w → Ext n0 K0 S0 w0 K S w → wpOps P ops Q l a w := by
  obtain ⟨hlen, hget⟩ := ht.get
  obtain ⟨hstep, hfinT, hfinH⟩ := hget 0
  simp only [drawOk] at hok
  generalize hB : befs (ops.toList.map edgesOf) [] = B at hok
  obtain ⟨hl2, hrow⟩ := rowsOk_get hok
  have hlenE : (ops.toList.map edgesOf).length = ss.length := by simpa using hl2
  intro l
  induction l with
  | nil =>
    intro D hD _ K S a w hr hx
    simp only [Topo] at hD
    simp only [wpOps]
    refine hq a w K S (hr.fns ?_ ?_) hx
    · rw [hfinT]; funext x
      refine fld_congr _ _ _ _ rfl fun j g hj _ => ?_
      have : j < (ss.map gT).length := (List.getElem?_eq_some_iff.1 hj).1
      rw [Nat.zero_add]
      exact hD j (by rw [hlenE]; simpa using this)
    · rw [hfinH]; funext x
      refine fld_congr _ _ _ _ rfl fun j g hj _ => ?_
      have : j < (ss.map gH).length := (List.getElem?_eq_some_iff.1 hj).1
      rw [Nat.zero_add]
      exact hD j (by rw [hlenE]; simpa using this)
  | cons i l ih =>
    intro D hD hcl K S a w hr hx
    obtain ⟨hi, hDi, hpre, htopo⟩ := hD
    have hiS : i < ss.length := by rw [← hlenE]; exact hi
    have hio : i < ops.toList.length := by rw [hlen]; exact hiS
    obtain ⟨o, ho⟩ : ∃ o, ops.toList[i]? = some o := ⟨_, List.getElem?_eq_getElem hio⟩
    obtain ⟨s, hs⟩ : ∃ s, ss[i]? = some s := ⟨_, List.getElem?_eq_getElem hiS⟩
    have ho' : ops[i]? = some o := by simpa using ho
    obtain ⟨hf, htm, hhp⟩ := hstep i o s ho hs
    simp only [Nat.zero_add] at htm hhp
    have hE : ∀ j es, (ops.toList.map edgesOf)[j]? = some es → (B.getD j 0) = befAt B es := by
      intro j es hes
      have hj : j < ss.length := by rw [← hlenE]; exact (List.getElem?_eq_some_iff.1 hes).1
      have := hrow j es (ss[j].foot) hes (by rw [List.getElem?_map, List.getElem?_eq_getElem hj]; rfl)
      simp only [rowOk, Bool.and_eq_true, beq_iff_eq, Nat.zero_add] at this
      exact this.1.2
    have hes : (ops.toList.map edgesOf)[i]? = some (edgesOf o) := by rw [List.getElem?_map, ho]; rfl
    -- what comes before it has been done
    have hbef : ∀ j, (B.getD i 0).testBit j = true → D j = true := by
      intro j hj
      rw [hE i _ hes] at hj
      obtain ⟨on, h1, h2⟩ := befAt_ex hj
      have hon := hpre _ hes on h1
      rcases h2 with rfl | h2
      · exact hon
      · exact hcl on hon j h2
    -- a pair: told off in the text's order
    have hpair : ∀ j k (sj sk : TStep), j < k → ss[j]? = some sj → ss[k]? = some sk →
        ((B.getD k 0).testBit j = true ∨ (apart sk.foot sj.foot = true ∧ apart sj.foot sk.foot = true)) ∧ (sk.foot.ws.all fun id => sk.foot.rd.elem id || !sj.foot.ws.elem id) = true := by
      intro j k sj sk hjk hj hk
      have hkl : k < ss.length := (List.getElem?_eq_some_iff.1 hk).1
      obtain ⟨es, hes'⟩ : ∃ es, (ops.toList.map edgesOf)[k]? = some es := ⟨_, List.getElem?_eq_getElem (by rw [hlenE]; exact hkl)⟩
      have := hrow k es sk.foot hes' (by rw [List.getElem?_map, hk]; rfl)
      simp only [rowOk, Bool.and_eq_true, Nat.zero_add] at this
      have := go_sound _ _ _ this.2 j sj.foot hjk (by rw [List.getElem?_map, hj]; rfl)
      simpa using this
    -- whoever is done and stands behind it in the text is apart; whoever isn't done and stands before it too
    have hapart : ∀ j sj, j ≠ i → ss[j]? = some sj → D j ≠ decide (j < i) → apart s.foot sj.foot = true ∧ apart sj.foot s.foot = true := by
      intro j sj hne hj hd
      rcases Nat.lt_or_ge j i with hlt | hge
      · rcases (hpair j i sj s hlt hj hs).1 with h1 | h1
        · exact absurd (by rw [hbef j h1]; simp [hlt]) hd
        · exact h1
      · have hlt : i < j := by omega
        rcases (hpair i j s sj hlt hs hj).1 with h1 | h1
        · exfalso
          have hDj : D j = true := by
            cases hDj : D j with
            | true => rfl
            | false => rw [hDj] at hd; simp at hd; omega
          have := hcl j hDj i h1
          rw [hDi] at this
          cases this
        · exact ⟨h1.2, h1.1⟩
    have agreeT : ∀ t, t ∈ s.foot.ops → fld D (ss.map gT) 0 tm0 t = tmF s.tm t := by
      intro t htm'
      rw [htm]
      refine fld_congr _ _ _ _ rfl fun j g hj hg => ?_
      rw [Nat.zero_add]
      rw [List.getElem?_map, Option.map_eq_some_iff] at hj
      obtain ⟨sj, hsj, rfl⟩ := hj
      by_cases hji : j = i
      · subst hji; rw [hDi]; simp
      · apply Classical.byContradiction
        intro hne
        have h1 := hapart j sj hji hsj hne
        have : sj.foot.dst = some t := by
          simp only [gT] at hg
          split at hg
          · assumption
          · cases hg
        exact (apart_dst h1.2 this).1 htm'
    have agreeH : ∀ id, id ∈ s.foot.rd → fld D (ss.map gH) 0 hp0 id = hpF s.hp id := by
      intro id hid
      rw [hhp]
      refine fld_congr _ _ _ _ rfl fun j g hj hg => ?_
      rw [Nat.zero_add]
      rw [List.getElem?_map, Option.map_eq_some_iff] at hj
      obtain ⟨sj, hsj, rfl⟩ := hj
      by_cases hji : j = i
      · subst hji; rw [hDi]; simp
      · apply Classical.byContradiction
        intro hne
        have h1 := hapart j sj hji hsj hne
        have : id ∈ sj.foot.ws := by
          simp only [gH] at hg
          split at hg
          · assumption
          · cases hg
        exact (apart_ws h1.2 this).1 hid
    have freshH : ∀ p ∈ s.ws, p.1 ∉ s.foot.rd → fld D (ss.map gH) 0 hp0 p.1 = none ∧ n0 ≤ p.1 := by
      intro p hp hnr
      have hge : s.hp.length ≤ p.1 := (hf.fresh p hp).resolve_left hnr
      have hpw : p.1 ∈ s.foot.ws := by rw [hf.ws]; exact List.mem_map.2 ⟨p, hp, rfl⟩
      refine ⟨?_, Nat.le_trans hn0 (Nat.le_trans hf.hlen hge)⟩
      rw [fld_base]
      · exact hfr _ (Nat.le_trans hf.hlen hge)
      · intro j g hj hDj
        rw [Nat.zero_add] at hDj
        rw [List.getElem?_map, Option.map_eq_some_iff] at hj
        obtain ⟨sj, hsj, rfl⟩ := hj
        have hji : j ≠ i := by rintro rfl; rw [hDi] at hDj; cases hDj
        have : p.1 ∉ sj.foot.ws := by
          rcases Nat.lt_or_ge j i with hlt | hge2
          · have := List.all_eq_true.1 (hpair j i sj s hlt hsj hs).2 p.1 hpw
            simp only [Bool.or_eq_true, List.elem_eq_mem, decide_eq_true_eq, Bool.not_eq_true', decide_eq_false_iff_not] at this
            exact this.resolve_left hnr
          · have h1 := hapart j sj hji hsj (by rw [hDj]; simp; omega)
            exact (apart_ws h1.1 hpw).2
        simp [gH, this]
    -- the state behind it
    have nextT : fld (fun j => D j || j == i) (ss.map gT) 0 tm0 = upd n (fld D (ss.map gT) 0 tm0) o.dst s.val := by
      funext x
      by_cases hd : o.dst = some x
      · have hlt : x < n := by have := hf.small; rw [hd] at this; simpa [dstOk] using this
        rw [fld_last (ss.map gT) 0 i tm0 (gT s) (v := s.val) (by rw [List.getElem?_map, hs]; rfl) (by simp [gT, hf.dst, hd]) (by simp)]
        · simp [upd, hd, hlt]
        · intro k g hk hg hdk
          rw [List.getElem?_map, Option.map_eq_some_iff] at hg
          obtain ⟨sk, hsk, rfl⟩ := hg
          have hki : k ≠ i := by omega
          have hDk : D k = true := by simpa [hki] using hdk
          have h1 := hapart k sk hki hsk (by rw [hDk]; simp; omega)
          have := (apart_dst h1.1 (hf.dst.trans hd)).2
          simp [gT, this]
      · have : upd n (fld D (ss.map gT) 0 tm0) o.dst s.val x = fld D (ss.map gT) 0 tm0 x := by
          cases hd2 : o.dst with
          | none => rfl
          | some d =>
            have : ¬ x = d := fun e => hd (by rw [hd2, e])
            simp [upd, this]
        rw [this]
        refine fld_congr _ _ _ _ rfl fun j g hj hg => ?_
        rw [Nat.zero_add]
        rw [List.getElem?_map, Option.map_eq_some_iff] at hj
        obtain ⟨sj, hsj, rfl⟩ := hj
        have hji : j ≠ i := by
          rintro rfl
          rw [hs] at hsj; cases hsj
          simp only [gT, hf.dst] at hg
          split at hg
          · exact hd (by assumption)
          · cases hg
        simp [hji]
    have nextH : fld (fun j => D j || j == i) (ss.map gH) 0 hp0 = updH (fld D (ss.map gH) 0 hp0) s.ws := by
      funext x
      rw [updH_eq]
      by_cases hd : x ∈ s.ws.map (·.1)
      · rw [if_pos hd]
        have hw : x ∈ s.foot.ws := by rw [hf.ws]; exact hd
        rw [fld_last (ss.map gH) 0 i hp0 (gH s) (v := updH (fun _ => none) s.ws x) (by rw [List.getElem?_map, hs]; rfl) (by simp only [gH]; rw [if_pos hw]) (by simp)]
        intro k g hk hg hdk
        rw [List.getElem?_map, Option.map_eq_some_iff] at hg
        obtain ⟨sk, hsk, rfl⟩ := hg
        have hki : k ≠ i := by omega
        have hDk : D k = true := by simpa [hki] using hdk
        have h1 := hapart k sk hki hsk (by rw [hDk]; simp; omega)
        have := (apart_ws h1.1 hw).2
        simp only [gH]; rw [if_neg this]
      · rw [if_neg hd]
        have hw : x ∉ s.foot.ws := by rw [hf.ws]; exact hd
        refine fld_congr _ _ _ _ rfl fun j g hj hg => ?_
        rw [Nat.zero_add]
        rw [List.getElem?_map, Option.map_eq_some_iff] at hj
        obtain ⟨sj, hsj, rfl⟩ := hj
        have hji : j ≠ i := by
          rintro rfl
          rw [hs] at hsj; cases hsj
          simp only [gH] at hg
          rw [if_neg hw] at hg
          cases hg
        simp [hji]
    have hcl' : ∀ m, (D m || m == i) = true → ∀ j, (B.getD m 0).testBit j = true → (D j || j == i) = true := by
      intro m hm j hj
      rw [Bool.or_eq_true] at hm ⊢
      rcases hm with hm | hm
      · exact .inl (hcl m hm j hj)
      · have : m = i := by simpa using hm
        subst this
        exact .inl (hbef j hj)
    -- whether it is done at all
    have hwant : Region.wanted o (yielded ops a.tmps) = s.exec := by
      have hg := hf.guard
      unfold guardIs at hg
      unfold Region.wanted
      cases hgo : o.guard with
      | none => rw [hgo] at hg; exact hg.symm
      | some jb =>
        obtain ⟨j, b⟩ := jb
        rw [hgo] at hg
        obtain ⟨d, c, h1, h2, h3⟩ := hg
        have hd : d ∈ s.foot.ops := by
          rw [hf.ops]
          simp only [slots, hgo, h1]
          simp
        have hc : fld D (ss.map gT) 0 tm0 d = .bool c := (agreeT d hd).trans h2
        have := yielded_fn hr h1 hc
        simp only [this, ← h3]
        cases c <;> cases b <;> rfl
    simp only [wpOps, ho']
    cases he : s.exec with
    | true =>
      rw [if_pos (by rw [hwant]; exact he)]
      refine .inl ?_
      refine hf.snd he n0 n K S _ _ a w hr (fun x hxm => ?_) agreeH (fun p hp => ?_) _ Q fun u w' K' S' hv hh hxe hkl => ?_
      · cases x with
        | tmp t =>
          refine agreeT t ?_
          rw [hf.ops]
          refine List.mem_append_left _ (List.mem_filterMap.2 ⟨.tmp t, by simpa using hxm, rfl⟩)
        | const v => rfl
        | global g => rfl
        | func f => rfl
      · by_cases h1 : p.1 ∈ s.foot.rd
        · exact .inl h1
        · exact .inr (freshH p hp h1)
      · refine ih _ htopo hcl' K' S' _ w' ?_ (hx.trans hxe)
        rw [nextT, nextH]
        exact hr.put hkl hxe.kept hv hh o.dst
    | false =>
      rw [if_neg (by rw [hwant, he]; simp)]
      obtain ⟨h1, h2⟩ := hf.skip he
      refine ih _ htopo hcl' K S _ w ?_ hx
      rw [nextT, nextH, h1, h2]
      exact hr.put (KLe.refl K) (Kept.refl S w) (show VR K S w (.tup []) undef from ⟨#[], rfl, rfl, fun j y v hy => by simp at hy⟩) hr.heap o.dst
end
end Go.Ab

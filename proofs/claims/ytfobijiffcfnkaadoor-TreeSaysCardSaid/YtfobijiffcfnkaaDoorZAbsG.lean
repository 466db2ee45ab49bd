/- That the step of one operation is sound, the rest of it; no condition. -/
import Derived.Test.YtfobijiffcfnkaaDoorZAbsF
namespace Go.Ab
section
variable {P : Program} {tab : Tab} {nG : Nat} {G0 : Nat → Option Obj} {tm : List AV} {hp : List (Option Blk)} {o : Oper} {k : OK}

theorem fixCs_len : ∀ (cks : List CK) (cs : List AV), (fixCs cks cs).length = cs.length
  | [], _ => rfl
  | _ :: _, [] => rfl
  | c :: r, v :: s => by simp [fixCs, fixCs_len r s]

theorem fixCs_get : ∀ (cks : List CK) (cs : List AV) (j : Nat) (y : AV), (fixCs cks cs)[j]? = some y → ∃ x, cs[j]? = some x ∧ (y = x ∨ ∃ s, y = fixN s x)
  | [], cs, j, y, h => ⟨y, h, .inl rfl⟩
  | _ :: _, [], j, y, h => by simp [fixCs] at h
  | c :: r, v :: s, 0, y, h => by
    simp only [fixCs, List.getElem?_cons_zero, Option.some.injEq] at h
    refine ⟨v, rfl, ?_⟩
    subst h
    cases c <;> first | exact .inl rfl | exact .inr ⟨_, rfl⟩
  | c :: r, v :: s, j + 1, y, h => by
    simp only [fixCs, List.getElem?_cons_succ] at h ⊢
    exact fixCs_get r s j y h

theorem VRc.fixN {K : KM} {S : Stb} {w : World} {y : AV} {u : Value} (h : VRc K S w y u) (s : Option Nat) : VRc K S w (Go.Ab.fixN s y) u := by
  cases s with
  | none => exact h
  | some sz =>
    cases y <;> try exact h
    simp only [VRc, VR0] at h
    cases h
    exact PR.slNil sz

theorem VR.fixCs {K : KM} {S : Stb} {w : World} {cks : List CK} {cs : List AV} {u : Value} (h : VR K S w (.agg cs) u) : VR K S w (.agg (Go.Ab.fixCs cks cs)) u := by
  obtain ⟨vs, h1, h2, h3⟩ := VR_agg h
  simp only [VR, VRa]
  refine ⟨vs, h1, by rw [fixCs_len]; exact h2, fun j y v hy hv => ?_⟩
  obtain ⟨x, hx, rfl | ⟨s, rfl⟩⟩ := fixCs_get _ _ _ _ hy
  · exact h3 j _ v hx hv
  · exact (h3 j x v hx hv).fixN s

theorem kBuild_snd (hP : ProgOk P tab) {t : TypeId} {parts : Array (Nat × Operand)} (ho : o.op = .build t parts) (h : kBuild tab tm t parts.toList k) : Give P nG G0 o tm hp k := by
  unfold kBuild at h
  simp only [condF, forceL_eq] at h
  split at h
  · exact h.elim
  rename_i ti ht
  have hti := hP.tab t ti ht
  split at h
  · rename_i fs hk
    obtain ⟨h0, h⟩ := h
    split at h
    · rename_i res hf
      refine ⟨_, _, _, Snd.conv (fun n0 => snd_build_struct hP.tab hti hk h0 ho hf) ?_, h⟩
      exact fun K S w u hv => hv.fixCs
    · exact h.elim
  · rename_i m e hk
    split at h
    · exact h.elim
    rename_i ei he
    split at h
    · rename_i res hf
      refine ⟨_, _, _, Snd.conv (fun n0 => snd_build_arr hti hk (hP.tab e ei he) ho hf) ?_, h⟩
      exact fun K S w u hv => hv.fixCs
    · exact h.elim
  · exact h.elim

theorem kBuildSlice_snd (hP : ProgOk P tab) {t : TypeId} {len : Nat} {parts : Array (Nat × Operand)} (ho : o.op = .buildSlice t len parts) (h : kBuildSlice tab tm hp t len parts.toList k) : Give P nG G0 o tm hp k := by
  unfold kBuildSlice at h
  simp only [condF, forceL_eq] at h
  split at h
  · exact h.elim
  rename_i ti ht
  have hti := hP.tab t ti ht
  split at h
  · rename_i e hk
    split at h
    · exact h.elim
    rename_i ei he
    split at h
    · rename_i res hf
      obtain ⟨h0, h⟩ := h
      simp only [Bool.and_eq_true, bne_iff_ne, ne_eq, decide_eq_true_eq] at h0
      exact ⟨_, _, _, fun n0 => snd_buildSlice hti hk (hP.tab e ei he) h0.1.2 h0.2 ho hf h0.1.1 (by simp), h⟩
    · exact h.elim
  · exact h.elim

theorem zipWith_map_right {α β γ δ : Type} (f : α → γ → δ) (g : β → γ) : ∀ (xs : List α) (ys : List β), List.zipWith (fun x y => f x (g y)) xs ys = List.zipWith f xs (ys.map g)
  | [], _ => by simp
  | _ :: _, [] => by simp
  | x :: r, y :: s => by simp [zipWith_map_right f g r s]

theorem kCall_snd {g : Operand} {args : Array Operand} {ts : Array TypeId} {ann : Option Ann} (ho : o.op = .call { callee := .value g, args := args, argTypes := ts })
    (h : kCall P tab nG G0 tm hp g args.toList ts.toList ann k) : Give P nG G0 o tm hp k := by
  unfold kCall at h
  split at h
  · rename_i f cap hg
    split at h
    · exact h.elim
    rename_i fn hfn
    split at h
    · simp only [condF, forceL_eq] at h
      obtain ⟨h0, h⟩ := h
      simp only [Bool.and_eq_true, List.isEmpty_iff, beq_iff_eq] at h0
      obtain ⟨⟨rfl, h1⟩, h2⟩ := h0
      obtain ⟨r, hgood, hpl, hk⟩ := withRet_ex h
      refine ⟨r, [], args.toList.flatMap fun x => viewIds (ev tm x), fun n0 => ?_, hk⟩
      rw [zipWith_map_right (fun x s => viewA (hpF hp) (fixN s (ev tm x))) (szOf tab)] at hgood
      refine snd_call_pure ho hg (by simpa using h1) ?_ hgood ?_ ?_
      · rw [List.all_eq_true] at h2 ⊢
        intro x hx
        have := h2 x hx
        simp only [ev] at this
        generalize evA (tmF tm) x = y at this ⊢
        cases y <;> simp_all [notTup]
      · intro x hx id hid
        exact List.mem_flatMap.2 ⟨x, hx, hid⟩
      · rcases Bool.or_eq_true_iff.1 hpl with h3 | h3
        · exact .inl h3
        · right
          intro x hx
          have h3 := List.isEmpty_iff.1 h3
          have h3 := List.flatMap_eq_nil_iff.1 h3
          exact h3 x hx
    · rename_i an
      simp only [condF, forceL_eq] at h
      obtain ⟨h0, h⟩ := h
      simp only [Bool.and_eq_true, beq_iff_eq] at h0
      obtain ⟨⟨h1, h2⟩, h3⟩ := h0
      obtain ⟨r0, h⟩ := withRet_ex h
      obtain ⟨r, gs, h⟩ := tokRet_ex h
      obtain ⟨HL, hgood, h4, hk⟩ := withBlks_ex h
      simp only [Bool.and_eq_true, beq_iff_eq] at h4
      have hL : ∀ id ∈ an.lent, id < hp.length ∧ (match hpF hp id with | some (.grow _ _) => False | some _ => True | none => False) := by
        intro id hid
        have := List.all_eq_true.1 h3 id hid
        simp only [lendable, Bool.and_eq_true, Nat.blt_eq] at this
        refine ⟨this.1, ?_⟩
        have h5 := this.2
        generalize hpF hp id = b at h5 ⊢
        cases b with
        | none => simp at h5
        | some b => cases b <;> simp_all
      refine ⟨_, _, an.lent, fun n0 => ?_, hk⟩
      rw [zipWith_map_right (fun x s => renV (pos an.lent) (fixN s (ev tm x))) (szOf tab)] at hgood
      refine snd_call_gen ho hg (by simpa using h2) ?_ ?_ (fun id h => h) ?_ (fun id hid => (hL id hid).2) hgood ?_
      · refine List.nodup_append.2 ⟨nodupB_sound h1, List.nodup_range' .., fun a ha b hb e => ?_⟩
        have := (hL a ha).1
        have := (List.mem_range'_1.1 hb).1
        omega
      · simp [h4.1]
      · intro id hid hl
        have := (hL id hl).1
        have := (List.mem_range'_1.1 hid).1
        omega
      · intro id hid i hi he
        have hge := (List.mem_range'_1.1 hid).1
        have hiL : an.lent.length ≤ i := by
          rcases Nat.lt_or_ge i an.lent.length with hlt | hge2
          · rw [List.getElem?_append_left hlt] at hi
            have := (hL id (List.mem_of_getElem? hi)).1
            omega
          · exact hge2
        rw [List.getElem?_append_right (by omega)] at he
        have := List.all_eq_true.1 h4.2 none (List.mem_of_getElem? he)
        cases this
  · exact h.elim

theorem opK_snd (hP : ProgOk P tab) {ann : Option Ann} (h : opK P tab nG G0 tm hp o ann k) : ∃ v ws rd, Snd P nG G0 o tm hp v ws rd ∧ (ws.all fun p => rd.elem p.1 || decide (hp.length ≤ p.1)) = true ∧ k v ws rd := by
  unfold opK at h
  simp only [forceK_eq, condF] at h
  suffices hs : Give P nG G0 o tm hp fun v ws rd => (ws.all fun p => rd.elem p.1 || decide (hp.length ≤ p.1)) = true ∧ k (fixN (szOf tab o.type) v) ws rd by
    obtain ⟨v, ws, rd, h1, h2, h3⟩ := hs
    exact ⟨_, ws, rd, h1.conv fun K S w u hv => hv.fixN _, h2, h3⟩
  split at h
  · rename_i x ho; exact ⟨_, _, _, fun n0 => snd_move (.inl ho), h⟩
  · rename_i x ho; exact ⟨_, _, _, fun n0 => snd_move (.inr ho), h⟩
  · rename_i c x y ho
    split at h
    · rename_i t hc
      refine ⟨_, [], [], fun n0 => snd_pick ho hc, ?_⟩
      rw [ifK_iff] at h
      cases t
      · exact h.2 rfl
      · exact h.1 rfl
    · exact h.elim
  · rename_i t ho
    split at h
    · rename_i ti ht; exact ⟨_, _, _, fun n0 => snd_alloc (hP.tab t ti ht) ho (by simp), h⟩
    · exact h.elim
  · rename_i t x ho; exact ⟨_, _, _, fun n0 => snd_box ho h.1 (by simp), h.2⟩
  · rename_i ho; exact kLoad_snd hP ho h
  · rename_i ho; exact kStore_snd hP ho h
  · rename_i x ho
    exact ⟨_, _, _, fun n0 => snd_nilCheck ho (notDead_ne h.1), h.2⟩
  · rename_i ho; exact kFieldAddr_snd hP ho h
  · rename_i ho; exact kIndexAddr_snd hP ho h
  · rename_i ho; exact kIndex_snd hP ho h
  · rename_i ho; exact kSlice_snd hP ho h
  · rename_i ho; exact kField_snd hP ho h
  · rename_i ho; exact kExtract_snd ho h
  · rename_i f first cap ho
    obtain ⟨h0, h⟩ := h
    have h0 : first = #[] := by simpa using h0
    subst h0
    exact kFunc_snd ho h
  · rename_i ho; exact kBin_snd hP ho h
  · rename_i ho; exact kNot_snd ho h
  · rename_i ho; exact kConv_snd hP ho h
  · rename_i ho; exact kBuild_snd hP ho h
  · rename_i ho; exact kBuildSlice_snd hP ho h
  · rename_i ho; exact kLookup_snd hP ho h
  · rename_i ho; exact ⟨_, _, _, fun n0 => snd_makeMap ho (by simp), h⟩
  · rename_i ho; exact kMapSet_snd hP (.inl ho) h
  · rename_i ho; exact kMapSet_snd hP (.inr ho) h
  · rename_i ho; exact kRange_snd hP ho h
  · rename_i ho; exact kEntry_snd ho h
  · rename_i ho; exact kMakeSlice_snd hP ho h
  · rename_i args ts ho
    split at h
    · rename_i x t hx ht
      rw [arr1 hx, arr1 ht] at ho
      exact kLen_snd hP ho h
    · exact h.elim
  · rename_i args ts ho
    split at h
    · rename_i x y hx
      rw [arr2 hx] at ho
      exact kMin_snd (mx := false) ho h
    · exact h.elim
  · rename_i args ts ho
    split at h
    · rename_i x y hx
      rw [arr2 hx] at ho
      exact kMin_snd (mx := true) ho h
    · exact h.elim
  · rename_i args ts ho
    split at h
    · rename_i x y t t' hx ht
      obtain ⟨h0, h⟩ := h
      have h0 : t = t' := by simpa using h0
      subst h0
      rw [arr2 hx, arr2 ht] at ho
      exact kAppend_snd hP ho h
    · exact h.elim
  · rename_i ho; exact kCall_snd ho h
  · exact h.elim
end
end Go.Ab

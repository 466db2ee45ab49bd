/- The step of a map's walk, new arrays; no condition. -/
import Derived.Test.YtfobijiffcfnkaaDoorZAbsK
import Derived.Laws.NewFold
namespace Go.Ab
open Go.MapKept (run_getObj_map)

theorem filter_born {e : MapEntry} : ∀ (l : List MapEntry) (i : Nat), l[i]? = some e → (l.map (·.born)).Nodup → l.filter (fun x => !(x.born == e.born)) = l.eraseIdx i
  | [], i, h, _ => by simp at h
  | x :: r, 0, h, hn => by
    simp at h; subst h
    simp only [List.map_cons, List.nodup_cons, List.mem_map, not_exists, not_and] at hn
    simp only [List.eraseIdx_cons_zero, List.filter_cons, beq_self_eq_true, Bool.not_true, Bool.false_eq_true, if_false]
    exact List.filter_eq_self.2 fun y hy => by have := hn.1 y hy; simp [this]
  | x :: r, i + 1, h, hn => by
    simp only [List.map_cons, List.nodup_cons, List.mem_map, not_exists, not_and] at hn
    have hm : e ∈ r := List.mem_of_getElem? (by simpa using h)
    have hne : ¬ x.born = e.born := fun hh => hn.1 e hm hh.symm
    simp [hne, filter_born r i (by simpa using h) hn.2]

section ops
variable {P : Program} {tab : Tab} {nG : Nat} {G0 : Nat → Option Obj} {n0 : Nat} {o : Oper}

/-- One step of a walk over a map: over, or any entry that is left. -/
theorem wp_next {x : Operand} {id : Nat} {es : List (AV × AV)} {cur : Option (AV × AV)} {n : Nat} {K : KM} {S : Stb} {tm : Nat → AV} {hp : Nat → Option Blk} {a : Act} {w : World} {next : Act → World → Prop} {QC : Exit → Act → World → Prop}
    (ho : o.op = .next x false) (hr : RelF nG G0 n K S tm hp a w) (hx : evA tm x = .iter id) (hb : hp id = some (.iter es cur))
    (hover : es = [] → ∀ u, VR K S w (.tup [.bool false]) u → next (a.put o.dst u) w)
    (hstep : ∀ (i : Nat) (p : AV × AV), es[i]? = some p → ∀ u w' K' S', VR K' S' w' (.tup [.bool true, p.1, p.2]) u → HRel nG G0 K' S' (updH hp [(id, .iter (es.eraseIdx i) (some p))]) w' → Ext n0 K S w K' S' w' → KLe K K' → next (a.put o.dst u) w') :
    o.wp P a w next QC := by
  obtain ⟨b, hK, hu⟩ := VR_iter (hx ▸ hr.ev x)
  obtain ⟨m, since, seen, stepped, hheap, hit⟩ := hr.heap.blk id _ (.iter b) hb hK
  have hg : ∀ w0 : World, w0.heap[b]? = some (.mapIter m since seen stepped) → (getObj b).run P w0 = .ok (.mapIter m since seen stepped) w0 := fun w0 h => by simp [getObj, Sem.run, h]
  have hovr : VR K S w (.tup [.bool false]) (.tuple #[.bool false]) := by
    simp only [VR]
    refine ⟨_, rfl, rfl, fun j y z hy hz => ?_⟩
    match j with
    | 0 => simp at hy hz; subst hy; subst hz; exact PR.bool _
    | j + 1 => simp at hy
  unfold Oper.wp
  cases m with
  | none =>
    obtain ⟨rfl, _⟩ := hit
    have hrun : (execOp a.eval o).run P w = .ok (.value (.tuple #[.bool false])) w := by
      rw [execOp_eq ho]; unfold execOp
      simp [hu, ad, Instr.next, hg w hheap]
    rw [hrun, Oper.upon_value]
    exact hover rfl _ hovr
  | some mb =>
    obtain ⟨ents, clock, h1, h2, rfl, rfl, h5, h6, h7, h8, h9, h10⟩ := hit
    have hnd : (ents.toList.map (·.born)).Nodup := by
      refine List.pairwise_iff_getElem.2 fun i j hi hj hij hh => ?_
      simp only [List.length_map, Array.length_toList] at hi hj
      simp only [List.getElem_map, Array.getElem_toList] at hh
      have := h6 i j _ _ (Array.getElem?_eq_getElem hi) (Array.getElem?_eq_getElem hj) hh
      omega
    have hborn : ∀ e ∈ ents, e.born < stepped := fun e he => by obtain ⟨i, hi⟩ := Array.mem_iff_getElem?.1 he; exact h5 i e hi
    have hguard : (!seen.isEmpty && !ents.isEmpty && ents.all fun e => decide (e.born ≥ stepped)) = false := by
      cases hE : ents.isEmpty with
      | true => simp
      | false =>
        have hpos : 0 < ents.size := by
          rcases Nat.eq_zero_or_pos ents.size with h0 | h0
          · rw [Array.isEmpty_iff_size_eq_zero.2 h0] at hE; cases hE
          · exact h0
        have hlt := h5 0 ents[0] (Array.getElem?_eq_getElem hpos)
        have : (ents.all fun e => decide (e.born ≥ stepped)) = false := by
          rw [Array.all_eq_false']
          exact ⟨ents[0], Array.getElem_mem hpos, by simp; omega⟩
        simp [this]
    generalize hleft : (ents.filter fun e => !seen.contains e.born) = left
    have hleftL : ents.toList.filter (fun e => !seen.contains e.born) = left.toList := by rw [← hleft]; simp
    rw [hleftL] at h7 h8 h9
    have hold : left.filter (fun e => decide (e.born < stepped)) = left := by
      rw [← hleft, Array.filter_eq_self]
      intro e he
      have := hborn e (Array.mem_filter.1 he).1
      simpa using this
    have hnew : left.filter (fun e => decide (e.born ≥ stepped)) = #[] := by
      rw [← hleft, Array.filter_eq_empty_iff]
      intro e he
      have := hborn e (Array.mem_filter.1 he).1
      simp; omega
    have hlnd : (left.toList.map (·.born)).Nodup := by
      rw [← hleftL]
      exact (List.filter_sublist.map _).nodup hnd
    have hblt : b < w.heap.size := (Array.getElem?_eq_some_iff.1 hheap).1
    have hmne : mb ≠ b := by
      rintro rfl
      rw [h2] at hheap; cases hheap
    rcases Nat.eq_zero_or_pos es.length with h0 | h0
    · have hes : es = [] := List.eq_nil_of_length_eq_zero h0
      have hl0 : left = #[] := by
        apply Array.eq_empty_of_size_eq_zero
        have : left.toList.length = 0 := by rw [h7, h0]
        simpa using this
      have hrun : (execOp a.eval o).run P w = .ok (.value (.tuple #[.bool false])) w := by
        rw [execOp_eq ho]; unfold execOp
        simp only [hu, ad, Instr.next, Sem.run_bind, hg w hheap, Result.andThen_ok, run_getObj_map h2, hguard, Bool.false_eq_true, if_false, hleft, hold, hnew]
        simp [hl0, Question.forced]
      rw [hrun, Oper.upon_value]
      exact hover hes _ hovr
    · have hlsz : left.size = es.length := by simpa using h7
      have hlne : left.isEmpty = false := by
        cases hE : left.isEmpty with
        | false => rfl
        | true => rw [Array.isEmpty_iff_size_eq_zero] at hE; omega
      -- the choice
      obtain ⟨i, w1, hi, hch, hw1⟩ : ∃ (i : Nat) (w1 : World), i < left.size ∧ (choose (.mapNext left.size)).run P w = .ok i w1 ∧ (w1 = w ∨ w1 = w.drew) := by
        rw [run_choose_drew]
        by_cases hf : left.size ≤ 1
        · refine ⟨0, w, by omega, ?_, .inl rfl⟩
          simp [Question.forced, hf]
        · refine ⟨(w.tape w.drawn (.mapNext left.size)) % left.size, w.drew, Nat.mod_lt _ (by omega), ?_, .inr rfl⟩
          simp [Question.forced, hf, Question.cut]
      have hw1h : w1.heap = w.heap ∧ w1.os = w.os ∧ w1.tape = w.tape ∧ w1.output = w.output := by rcases hw1 with rfl | rfl <;> exact ⟨rfl, rfl, rfl, rfl⟩
      obtain ⟨e, he⟩ : ∃ e, left[i]? = some e := ⟨_, Array.getElem?_eq_getElem hi⟩
      obtain ⟨p, hp⟩ : ∃ p, es[i]? = some p := ⟨_, List.getElem?_eq_getElem (by omega)⟩
      have heL : left.toList[i]? = some e := by simpa using he
      have hrun : (execOp a.eval o).run P w = .ok (.value (.tuple #[.bool true, e.key, e.val])) (putB w1 b (.mapIter (some mb) stepped (seen.push e.born) stepped)) := by
        rw [execOp_eq ho]; unfold execOp
        have hcand : ((if left.isEmpty = true then #[none] else #[]) ++ (left ++ #[]).map some : Array (Option MapEntry)) = left.map some := by simp [hlne]
        simp only [hu, ad, Instr.next, Sem.run_bind, hg w hheap, Result.andThen_ok, run_getObj_map h2, hguard, Bool.false_eq_true, if_false, hleft, hold, hnew, hcand, Array.size_map, hch, Array.getElem?_map, he, Option.map_some]
        have hset : (setObj b (.mapIter (some mb) stepped (seen.push e.born) stepped)).run P w1 = .ok () (putB w1 b (.mapIter (some mb) stepped (seen.push e.born) stepped)) := by
          simp [setObj, Sem.run, putB, hw1h.1, hheap]
        simp only [hset, Result.andThen_ok, Sem.run_pure]
      rw [hrun, Oper.upon_value]
      let w' := putB w1 b (.mapIter (some mb) stepped (seen.push e.born) stepped)
      have hw'n : ∀ b', b' ≠ b → w'.heap[b']? = w.heap[b']? := fun b' hb' => by
        rw [show w'.heap[b']? = w1.heap[b']? from putB_heap_ne _ _ _ _ hb', hw1h.1]
      have hw'b : w'.heap[b]? = some (.mapIter (some mb) stepped (seen.push e.born) stepped) := putB_heap w1 b _ (by rw [hw1h.1]; exact hblt)
      have hSb : ∀ b' off, S b' off → b' ≠ b := by
        rintro b' off hs rfl
        obtain ⟨l, sz, n', hki, _⟩ := hr.heap.apart b' off id _ hs hK rfl
        cases hki
      have hkept : Kept S w S w' := ⟨fun _ _ h => h, fun b' off hs => cell_of_heap (hw'n b' (hSb b' off hs)), fun b' hs => hw'n b' (hSb b' 0 (hs 0))⟩
      have hpk := (h8 i p e hp heL).mono hkept
      have hpv := (h9 i p e hp heL).mono hkept
      have hmem : e ∈ ents.toList := by
        have : e ∈ left.toList := List.mem_of_getElem? heL
        rw [← hleftL] at this
        exact (List.mem_filter.1 this).1
      have hnl : ents.toList.filter (fun x => !(seen.push e.born).contains x.born) = left.toList.eraseIdx i := by
        rw [← filter_born left.toList i heL hlnd, ← hleftL, List.filter_filter]
        congr 1
        funext x
        rw [Array.contains_push]
        cases seen.contains x.born <;> simp
      have k8 : ∀ (j : Nat) (q : AV × AV) (e' : MapEntry), (es.eraseIdx i)[j]? = some q → (ents.toList.filter (fun x => !(seen.push e.born).contains x.born))[j]? = some e' → PR S w' q.1 e'.key := by
        intro j q e' hq he'
        rw [hnl, List.getElem?_eraseIdx] at he'
        rw [List.getElem?_eraseIdx] at hq
        split at hq
        · rename_i hji; rw [if_pos hji] at he'; exact (h8 j q e' hq he').mono hkept
        · rename_i hji; rw [if_neg hji] at he'; exact (h8 (j + 1) q e' hq he').mono hkept
      have k9 : ∀ (j : Nat) (q : AV × AV) (e' : MapEntry), (es.eraseIdx i)[j]? = some q → (ents.toList.filter (fun x => !(seen.push e.born).contains x.born))[j]? = some e' → PR S w' q.2 e'.val := by
        intro j q e' hq he'
        rw [hnl, List.getElem?_eraseIdx] at he'
        rw [List.getElem?_eraseIdx] at hq
        split at hq
        · rename_i hji; rw [if_pos hji] at he'; exact (h9 j q e' hq he').mono hkept
        · rename_i hji; rw [if_neg hji] at he'; exact (h9 (j + 1) q e' hq he').mono hkept
      have k10 : ∀ q, some p = some q → ∃ e' ∈ ents.toList, (seen.push e.born).back? = some e'.born ∧ PR S w' q.1 e'.key ∧ PR S w' q.2 e'.val := by
        intro q hq
        cases hq
        exact ⟨e, hmem, by simp, hpk, hpv⟩
      obtain ⟨g1, g2, g3⟩ := hr.heap.gen (n0 := n0) (w' := w') (id := id) (ki' := .iter b) (bl := .iter (es.eraseIdx i) (some p)) (S' := S) hw1h.2.1 hw1h.2.2.1 hw1h.2.2.2 (by show _ ≤ (putB w1 b _).heap.size; rw [putB_size, hw1h.1]; exact Nat.le_refl _)
        (fun b' hb' hne => hw'n b' fun hbb => hne _ hK (by rw [hbb]; rfl)) (fun b' hb' => .inl ⟨_, hK, hb'⟩) (fun b' off hs => cell_of_heap (hw'n b' (hSb b' off hs))) (fun _ _ h => h) (fun _ _ h => .inl h)
        (fun ki hki => by rw [hK] at hki; cases hki; exact rfl) (fun h => by rw [hK] at h; cases h)
        ⟨some mb, stepped, seen.push e.born, stepped, hw'b, ents, stepped, h1, (hw'n mb hmne).trans h2, rfl, rfl, h5, h6, by rw [hnl, List.length_eraseIdx, List.length_eraseIdx, h7], k8, k9, k10⟩
      refine hstep i p hp _ _ _ _ ?_ g1 g2 g3
      simp only [VR]
      refine ⟨_, rfl, rfl, fun j y z hy hz => ?_⟩
      match j with
      | 0 => simp at hy hz; subst hy; subst hz; exact PR.bool _
      | 1 => simp at hy hz; subst hy; subst hz; exact (hpk.vrc (K := _)).vra
      | 2 => simp at hy hz; subst hy; subst hz; exact (hpv.vrc (K := _)).vra
      | j + 3 => simp at hy
end ops
end Go.Ab

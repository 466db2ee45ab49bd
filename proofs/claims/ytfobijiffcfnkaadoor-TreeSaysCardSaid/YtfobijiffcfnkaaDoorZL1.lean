/- TreeSays: whatever list and number come in, the law gives true, and both read as they did; on the card's own conditions alone. -/
import Derived.Test.YtfobijiffcfnkaaDoorZL0
namespace Go.Proofs.YtfobijiffcfnkaaDoor
open Go.Ab Go.Gs Go.ChangeShapes Go.WideShapes Go.ChangeAt Go.RowKit

/-- A list of texts, as it comes in. -/
theorem shp_texts {m : Nat} {e t : TypeId} (ht : Tryd.prog.underlying t = some (.slice e)) (he : Tryd.prog.underlying e = some .string) (hc : Tryd.prog.cellsOf e = 1) {cs : List AV} (h : Shp Tryd.prog (m + 2) t cs) :
    ∃ (nl : Bool) (l : List By), argA Tryd.prog t cs = .sl 1 nl none (l.map S1) ∧ (nl = true → l = []) ∧ l.length ≤ maxLen := by
  simp only [Shp, ht, he] at h
  obtain ⟨nil, xs, rfl, h1, h2, h3⟩ := h
  obtain ⟨l, rfl⟩ : ∃ l : List By, xs = l.map S1 := by
    clear h1 h2
    induction xs with
    | nil => exact ⟨[], rfl⟩
    | cons x r ih =>
      obtain ⟨s, hs, _⟩ := h3 x (by simp)
      obtain ⟨l, hl⟩ := ih fun y hy => h3 y (by simp [hy])
      exact ⟨s :: l, by simp [hl, hs, S1]⟩
  refine ⟨nil, l, ?_, fun hn => by simpa using h1 hn, by simpa using h2⟩
  simp only [argA, ht, hc, List.headD_cons]

theorem shp_int {m : Nat} {t : TypeId} {k : IntKind} (ht : Tryd.prog.underlying t = some (.int k)) {cs : List AV} (h : Shp Tryd.prog (m + 1) t cs) : ∃ n, argA Tryd.prog t cs = .int k n ∧ (Lit.int k n).wf = true := by
  simp only [Shp, ht] at h
  obtain ⟨n, rfl, hw⟩ := h
  exact ⟨n, by simp only [argA, ht, List.headD_cons], hw⟩

theorem shps_two {m : Nat} {t0 t1 : TypeId} {ts : List TypeId} {ys : List AV} (hts : ts = [t0, t1]) (h : Shps Tryd.prog m ts ys) :
    ∃ c0 c1, Shp Tryd.prog m t0 c0 ∧ Shp Tryd.prog m t1 c1 ∧ ys = [argA Tryd.prog t0 c0, argA Tryd.prog t1 c1] := by
  subst hts
  match ys with
  | [y0, y1] =>
    obtain ⟨⟨c0, g0, e0⟩, ⟨⟨c1, g1, e1⟩, _⟩⟩ := h
    exact ⟨c0, c1, g0, g1, by rw [e0, e1]⟩
  | [] => exact h.elim
  | [_] => exact h.2.elim
  | _ :: _ :: _ :: _ => exact h.2.2.elim

theorem treeSays_contract (H : Type) (enc : TypeId × Value → H) (W : World) (base : Nat) (args : Array Value) (ds gs : List (DataW H)) (before : List MemPlace)
    (hval : ∀ (j : Nat) t v, Tryd.f3.params[j]? = some t → args[j]? = some v → Value.okWide Tryd.prog W .any base t v)
    (hW : DataW.Whole enc Tryd.prog Tryd.f3.params.toList Rows.treeSaysSpec.vars false W args.toList ds gs before) (hL : laidMetH Tryd.prog Rows.treeSaysRow.laid W) :
    Calls Tryd.prog 3 args W fun e W' => ∃ v, e = .returned v ∧ Rows.treeSaysSpec.post enc Tryd.prog Tryd.f3 false true false false W args v W' := by
  obtain ⟨hG, hn⟩ := glob_of hL
  have hWW := hW
  obtain ⟨p, q, hA0, hV, _, _, _⟩ := hWW
  have hA : DataW.TrodAll enc Tryd.prog W 0 (fun _ => true) true Tryd.f3.params.toList args.toList ds p := hA0
  rw [Tryd.params3] at hA
  obtain ⟨v0, vs0, d0, ds0, p0, q0, hargs, hds, _, h0, r0⟩ := trodAll_cons hA
  obtain ⟨v1, vs1, d1, ds1, p1, q1, hargs1, hds1, _, h1, r1⟩ := trodAll_cons r0
  obtain ⟨rfl, rfl, rfl⟩ := trodAll_nil r1
  subst hds1
  subst hds
  obtain ⟨rfl, rfl⟩ := trodVars_none hV
  have hpar : ∀ t ∈ Tryd.f3.params.toList, Tryd.prog.readableRec t = true ∧ t < Tryd.prog.types.size ∧ supB Tryd.prog 5 t = true ∧ Tryd.prog.cellsOf t = 1 := by
    rw [Tryd.params3]
    intro t ht
    have ht : t = 22 ∨ t = 3 := by simpa using ht
    rcases ht with rfl | rfl
    · exact ⟨by kernel_rfl, Nat.le_of_ble_eq_true (by kernel_rfl), by kernel_rfl, by kernel_rfl⟩
    · exact ⟨by kernel_rfl, Nat.le_of_ble_eq_true (by kernel_rfl), by kernel_rfl, by kernel_rfl⟩
  refine law_contract (nG := 3) (m := 5) (base := base) laidOutP hpar (bt := 4) (by kernel_rfl) Tryd.underlying4 hval rfl hW rfl rfl rfl hn fun ys hys => ?_
  obtain ⟨c0, c1, g0, g1, rfl⟩ := shps_two (show Tryd.f3.params.toList = [22, 3] by kernel_rfl) hys
  obtain ⟨nl, l, k0, _, _⟩ := shp_texts Tryd.underlying22 Tryd.underlying9 (by kernel_rfl) g0
  obtain ⟨n, k1, _⟩ := shp_int Tryd.underlying3 g1
  rw [k0, k1]
  exact good_TreeSays hG l nl n

/-- A world for the witness. -/
noncomputable def wit0 (os : Os) : World := World.doorLaid Tryd.prog 400 os
set_option maxRecDepth 100000 in
theorem treeSays_lifted (os : Os) (started : os.Started) (H : Type) (enc : TypeId × Value → H) (F : Stop.Interp) :
    ReturnsInHanded {} Tryd.checked os 3 .any ((OpenSpec.ofChange Rows.treeSaysSpec).preRow enc Tryd.prog Tryd.f3 Rows.treeSaysRow.domain false Rows.treeSaysRow.laid) (((OpenSpec.ofChange Rows.treeSaysSpec).at F).post enc Tryd.prog Tryd.f3 false true false false) := by
  have hx : ∃ places, DataW.whole enc Tryd.prog ((wit0 os).forCall (fun _ _ => 0) ⟨#[], #[.slice none 0 0, .int .i64 0], []⟩).memory Tryd.f3.params.toList Rows.treeSaysSpec.vars false #[Value.slice none 0 0, Value.int .i64 0].toList 8 = some ([.nil, .lit (.int .i64 0)], [], places) := ⟨[], by kernel_rfl⟩
  obtain ⟨places, hx⟩ := hx
  refine returnsInHanded_of_row (C := Tryd.checked) (s := OpenSpec.ofChange Rows.treeSaysSpec) own started (by kernel_rfl) Tryd.func3
    (witness_row_at (enc := enc) (C := Tryd.checked) false (wit0 os) #[.slice none 0 0, .int .i64 0] rfl (by kernel_rfl) (by kernel_rfl) (by kernel_rfl)
      (OpenSpec.preRow_of_cond 8 hx (by kernel_rfl) (fun k hk => by cases hk) (by kernel_rfl) (laidMet_of_run' 8 (by kernel_rfl) (by kernel_rfl)))) ?_
  intro W base args ds gs before hval hW _ _ _ hL _ _
  exact treeSays_contract H enc W base args ds gs before hval hW hL

theorem treeSays_said : Rows.TreeSaysSaid :=
  OpenClaim.holds_of_cond 3 Tryd.f3 rfl rfl rfl rfl rfl rfl rfl ⟨rfl, rfl, rfl, rfl, rfl⟩ rfl rfl rfl rfl rfl (by kernel_rfl) Tryd.func3 (by kernel_rfl)
    (of_decide_eq_true (by kernel_rfl)) (by unfold Func.isWrapper; first | (rw [if_pos (by decide +kernel)]; kernel_rfl) | (rw [if_neg (by decide +kernel)]; exact ⟨rfl, rfl⟩))
    (fun os started H enc _ F => by rw [OpenClaim.pre_eq_preRow]; exact treeSays_lifted os started H enc F)

theorem treeSays_plain (f : FuncId) (fn : Func) (hf : Tryd.pinned.checked.prog.funcNamed Rows.treeSaysRow.func = some f) (hfn : Tryd.pinned.checked.prog.funcs[f]? = some fn) :
    false = Tryd.pinned.checked.prog.looks [] ∧ ∀ (j : Nat) t, fn.params[j]? = some t → Tryd.pinned.checked.prog.wantsStandIn t = false := by
  obtain rfl : f = 3 := Option.some.inj ((show Tryd.prog.funcNamed Rows.treeSaysRow.func = some 3 by kernel_rfl).symm.trans hf) |>.symm
  obtain rfl : fn = Tryd.f3 := (Option.some.inj (Tryd.func3.symm.trans hfn)).symm
  refine ⟨by kernel_rfl, fun j t ht => ?_⟩
  rw [Tryd.params3] at ht
  have hm : t ∈ [22, 3] := by simpa using Array.mem_of_getElem? ht
  have hall : ([22, 3].all fun u => !Tryd.prog.wantsStandIn u) = true := by kernel_rfl
  exact (show Tryd.prog.wantsStandIn t = false by simpa using List.all_eq_true.1 hall t hm)

theorem treeSays_card : Rows.TreeSaysCardSaid :=
  Claim7.holds_tied_plain_at .later [] _ _ _ _ treeSays_said (fun _ h => by cases h) (by kernel_rfl) (fun _ h => by cases h) treeSays_row_tie rfl ⟨rfl, rfl⟩ (by kernel_rfl) rfl treeSays_plain (by kernel_rfl)
end Go.Proofs.YtfobijiffcfnkaaDoor

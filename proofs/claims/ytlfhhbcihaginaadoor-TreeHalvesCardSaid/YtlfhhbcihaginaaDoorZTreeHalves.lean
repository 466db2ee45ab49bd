/- TreeHalves: whatever comes in, the law gives true, and what came in reads as it did; on the card's own conditions alone. -/
import Derived.Test.YtlfhhbcihaginaaDoorZAllF
namespace Go.Proofs.YtlfhhbcihaginaaDoor
open Go.Ab Go.Gs Go.ChangeShapes Go.WideShapes Go.ChangeAt Go.RowKit

theorem treeHalves_shps {m : Nat} {ts : List TypeId} {ys : List AV} (hts : ts = [22]) (h : Shps Tryd.prog m ts ys) :
    ∃ c0, Shp Tryd.prog m 22 c0 ∧ ys = [argA Tryd.prog 22 c0] := by
  subst hts
  match ys with
  | [y0] =>
    obtain ⟨⟨c0, g0, e0⟩, _⟩ := h
    exact ⟨c0, g0, by rw [e0]⟩
  | [] => exact h.elim
  | _ :: _ :: _ => exact h.2.elim

set_option maxRecDepth 100000 in
theorem treeHalves_contract (H : Type) (enc : TypeId × Value → H) (W : World) (base : Nat) (args : Array Value) (ds gs : List (DataW H)) (before : List MemPlace)
    (hval : ∀ (j : Nat) t v, Tryd.f10.params[j]? = some t → args[j]? = some v → Value.okWide Tryd.prog W .any base t v)
    (hW : DataW.Whole enc Tryd.prog Tryd.f10.params.toList Rows.treeHalvesSpec.vars false W args.toList ds gs before) (hsz : (DataW.weightsEach Tryd.prog (Tryd.f10.params.toList ++ []) (ds ++ gs)).all (· ≤ reachBytes) = true) (hL : laidMetH Tryd.prog Rows.treeHalvesRow.laid W) :
    Calls Tryd.prog 10 args W fun e W' => ∃ v, e = .returned v ∧ Rows.treeHalvesSpec.post enc Tryd.prog Tryd.f10 false true false false W args v W' := by
  have hM : laidMet Tryd.prog Rows.treeHalvesRow.laid W := hL
  obtain ⟨hG, hn⟩ := glob_ofM (rest := Rows.treeHalvesRow.laid.drop 3) hM
  have hE := err_of hM.tail.tail.tail
  have hWW := hW
  obtain ⟨p, q, hA0, hV, _, _, _⟩ := hWW
  obtain ⟨rfl, rfl⟩ := trodVars_none hV
  have hreach : ∀ k ∈ DataW.weightsEach Tryd.prog Tryd.f10.params.toList ds, k ≤ reachBytes := by
    intro k hk
    rw [List.append_nil, List.append_nil] at hsz
    simpa using List.all_eq_true.1 hsz k hk
  have hA : DataW.TrodAll enc Tryd.prog W 0 (fun _ => true) true Tryd.f10.params.toList args.toList ds p := hA0
  rw [Tryd.params10] at hA
  obtain ⟨v0, vs0, d0, ds0, p0, q0, _, hds0, _, h0, r0⟩ := trodAll_cons hA
  obtain ⟨rfl, rfl, rfl⟩ := trodAll_nil r0
  subst hds0
  have hpar : ∀ t ∈ Tryd.f10.params.toList, Tryd.prog.readableRec t = true ∧ t < Tryd.prog.types.size ∧ argB Tryd.prog 9 t = true := by
    intro t ht
    have hall : ([22].all fun t => Tryd.prog.readableRec t && Nat.ble (t + 1) Tryd.prog.types.size && argB Tryd.prog 9 t) = true := by kernel_rfl
    have hp : Tryd.f10.params.toList = [22] := by kernel_rfl
    have := List.all_eq_true.1 hall t (by rw [← hp]; exact ht)
    simp only [Bool.and_eq_true, Nat.ble_eq] at this
    exact ⟨this.1.1, this.1.2, this.2⟩
  refine law_contract (nG := nG) (m := 9) (base := base) laidOutP hpar (bt := 4) (by kernel_rfl) Tryd.underlying4 hval rfl hW rfl rfl rfl hn hreach fun ys hys => ?_
  obtain ⟨c0, g0, rfl⟩ := treeHalves_shps (show Tryd.f10.params.toList = [22] by kernel_rfl) hys
  obtain ⟨nl0, a0, k0, _, _, _⟩ := arg_texts Tryd.underlying22 Tryd.underlying9 (by kernel_rfl) (by kernel_rfl) g0
  rw [k0]
  exact good_TreeHalves hG hE a0 nl0

set_option maxRecDepth 100000 in
theorem treeHalves_lifted (os : Os) (started : os.Started) (H : Type) (enc : TypeId × Value → H) (F : Stop.Interp) :
    ReturnsInHanded {} Tryd.checked os 10 .any ((OpenSpec.ofChange Rows.treeHalvesSpec).preRow enc Tryd.prog Tryd.f10 Rows.treeHalvesRow.domain false Rows.treeHalvesRow.laid) (((OpenSpec.ofChange Rows.treeHalvesSpec).at F).post enc Tryd.prog Tryd.f10 false true false false) := by
  have hx : ∃ places, DataW.whole enc Tryd.prog ((wit0 os).forCall (fun _ _ => 0) ⟨#[], #[.slice none 0 0], []⟩).memory Tryd.f10.params.toList Rows.treeHalvesSpec.vars false #[Value.slice none 0 0].toList 8 = some ([.nil], [], places) := ⟨[], by kernel_rfl⟩
  obtain ⟨places, hx⟩ := hx
  refine returnsInHanded_of_row (C := Tryd.checked) (s := OpenSpec.ofChange Rows.treeHalvesSpec) own started (by kernel_rfl) Tryd.func10
    (witness_row_at (enc := enc) (C := Tryd.checked) false (wit0 os) #[.slice none 0 0] rfl (by kernel_rfl) (by kernel_rfl) (by kernel_rfl)
      (OpenSpec.preRow_of_cond 8 hx (by kernel_rfl) (fun k hk => by cases hk) (by kernel_rfl) (laidMet_of_run' 8 (by kernel_rfl) (by kernel_rfl)))) ?_
  intro W base args ds gs before hval hW _ _ hsz hL _ _
  exact treeHalves_contract H enc W base args ds gs before hval hW hsz hL

theorem treeHalves_said : Rows.TreeHalvesSaid :=
  OpenClaim.holds_of_cond 10 Tryd.f10 rfl rfl rfl rfl rfl rfl rfl ⟨rfl, rfl, rfl, rfl, rfl⟩ rfl rfl rfl rfl rfl (by kernel_rfl) Tryd.func10 (by kernel_rfl)
    (of_decide_eq_true (by kernel_rfl)) (by unfold Func.isWrapper; first | (rw [if_pos (by decide +kernel)]; kernel_rfl) | (rw [if_neg (by decide +kernel)]; exact ⟨rfl, rfl⟩))
    (fun os started H enc _ F => by rw [OpenClaim.pre_eq_preRow]; exact treeHalves_lifted os started H enc F)

theorem treeHalves_plain (f : FuncId) (fn : Func) (hf : Tryd.pinned.checked.prog.funcNamed Rows.treeHalvesRow.func = some f) (hfn : Tryd.pinned.checked.prog.funcs[f]? = some fn) :
    true = Tryd.pinned.checked.prog.looks [] ∧ ∀ (j : Nat) t, fn.params[j]? = some t → Tryd.pinned.checked.prog.wantsStandIn t = false := by
  obtain rfl : f = 10 := Option.some.inj ((show Tryd.prog.funcNamed Rows.treeHalvesRow.func = some 10 by kernel_rfl).symm.trans hf) |>.symm
  obtain rfl : fn = Tryd.f10 := (Option.some.inj (Tryd.func10.symm.trans hfn)).symm
  refine ⟨by kernel_rfl, fun j t ht => ?_⟩
  rw [Tryd.params10] at ht
  have hm : t ∈ [22] := by simpa using Array.mem_of_getElem? ht
  have hall : ([22].all fun u => !Tryd.prog.wantsStandIn u) = true := by kernel_rfl
  exact (show Tryd.prog.wantsStandIn t = false by simpa using List.all_eq_true.1 hall t hm)

theorem treeHalves_card : Rows.TreeHalvesCardSaid :=
  Claim7.holds_tied_plain_at .later [] _ _ _ _ treeHalves_said (fun _ h => by cases h) (by kernel_rfl) (fun _ h => by cases h) treeHalves_row_tie rfl ⟨rfl, rfl⟩ (by kernel_rfl) rfl treeHalves_plain (by kernel_rfl)
end Go.Proofs.YtlfhhbcihaginaaDoor

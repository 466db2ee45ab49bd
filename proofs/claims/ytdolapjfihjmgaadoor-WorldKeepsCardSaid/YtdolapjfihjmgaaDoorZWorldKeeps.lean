/- WorldKeeps: whatever comes in, the law gives true, and what came in reads as it did; on the card's own conditions alone. -/
import Derived.Test.YtdolapjfihjmgaaDoorZAllI
namespace Go.Proofs.YtdolapjfihjmgaaDoor
open Go.Ab Go.Gs Go.ChangeShapes Go.WideShapes Go.ChangeAt Go.RowKit

theorem worldKeeps_shps {m : Nat} {ts : List TypeId} {ys : List AV} (hts : ts = [29, 35]) (h : Shps Tryd.prog m ts ys) :
    ∃ c0 c1, Shp Tryd.prog m 29 c0 ∧ Shp Tryd.prog m 35 c1 ∧ ys = [argA Tryd.prog 29 c0, argA Tryd.prog 35 c1] := by
  subst hts
  match ys with
  | [y0, y1] =>
    obtain ⟨⟨c0, g0, e0⟩, ⟨c1, g1, e1⟩, _⟩ := h
    exact ⟨c0, c1, g0, g1, by rw [e0, e1]⟩
  | [] => exact h.elim
  | [_] => exact h.2.elim
  | _ :: _ :: _ :: _ => exact h.2.2.elim

set_option maxRecDepth 100000 in
theorem worldKeeps_contract (H : Type) (enc : TypeId × Value → H) (W : World) (base : Nat) (args : Array Value) (ds gs : List (DataW H)) (before : List MemPlace)
    (hval : ∀ (j : Nat) t v, Tryd.f5.params[j]? = some t → args[j]? = some v → Value.okWide Tryd.prog W .any base t v)
    (hW : DataW.Whole enc Tryd.prog Tryd.f5.params.toList Rows.worldKeepsSpec.vars false W args.toList ds gs before) (hsz : (DataW.weightsEach Tryd.prog (Tryd.f5.params.toList ++ []) (ds ++ gs)).all (· ≤ reachBytes) = true) (hL : laidMetH Tryd.prog Rows.worldKeepsRow.laid W) :
    Calls Tryd.prog 5 args W fun e W' => ∃ v, e = .returned v ∧ Rows.worldKeepsSpec.post enc Tryd.prog Tryd.f5 false true false false W args v W' := by
  obtain ⟨hG, hn⟩ := glob_of hL
  have hWW := hW
  obtain ⟨p, q, hA0, hV, _, _, _⟩ := hWW
  obtain ⟨rfl, rfl⟩ := trodVars_none hV
  have hreach : ∀ k ∈ DataW.weightsEach Tryd.prog Tryd.f5.params.toList ds, k ≤ reachBytes := by
    intro k hk
    rw [List.append_nil, List.append_nil] at hsz
    simpa using List.all_eq_true.1 hsz k hk
  have hA : DataW.TrodAll enc Tryd.prog W 0 (fun _ => true) true Tryd.f5.params.toList args.toList ds p := hA0
  rw [Tryd.params5] at hA
  obtain ⟨v0, vs0, d0, ds0, p0, q0, _, hds0, _, h0, r0⟩ := trodAll_cons hA
  obtain ⟨v1, vs1, d1, ds1, p1, q1, _, hds1, _, h1, r1⟩ := trodAll_cons r0
  obtain ⟨rfl, rfl, rfl⟩ := trodAll_nil r1
  subst hds1
  subst hds0
  have hpar : ∀ t ∈ Tryd.f5.params.toList, Tryd.prog.readableRec t = true ∧ t < Tryd.prog.types.size ∧ argB Tryd.prog 9 t = true := by
    intro t ht
    have hall : ([29, 35].all fun t => Tryd.prog.readableRec t && Nat.ble (t + 1) Tryd.prog.types.size && argB Tryd.prog 9 t) = true := by kernel_rfl
    have hp : Tryd.f5.params.toList = [29, 35] := by kernel_rfl
    have := List.all_eq_true.1 hall t (by rw [← hp]; exact ht)
    simp only [Bool.and_eq_true, Nat.ble_eq] at this
    exact ⟨this.1.1, this.1.2, this.2⟩
  refine law_contract (nG := nG) (m := 9) (base := base) laidOutP hpar (bt := 4) (by kernel_rfl) Tryd.underlying4 hval rfl hW rfl rfl rfl hn hreach fun ys hys => ?_
  obtain ⟨c0, c1, g0, g1, rfl⟩ := worldKeeps_shps (show Tryd.f5.params.toList = [29, 35] by kernel_rfl) hys
  obtain ⟨n0_0, n1_0, n2_0, w0_0, w1_0, w2_0, k0, h0_0, h1_0, h2_0, _, _, _, _, _, _⟩ := arg_world Tryd.underlying29 rfl Tryd.underlying26 Tryd.underlying25 rfl Tryd.underlying23 Tryd.underlying33 rfl Tryd.underlying3 Tryd.underlying9 (by kernel_rfl) (by kernel_rfl) Tryd.underlying27 Tryd.underlying44 rfl Tryd.underlying42 rfl Tryd.underlying3 Tryd.underlying9 Tryd.underlying9 Tryd.underlying4 (by kernel_rfl) (by kernel_rfl) g0
  obtain ⟨a1, k1, _, _⟩ := arg_happening Tryd.underlying35 rfl Tryd.underlying3 Tryd.underlying3 Tryd.underlying3 Tryd.underlying3 Tryd.underlying33 rfl Tryd.underlying3 Tryd.underlying9 g1
  rw [k0, k1]
  exact good_WorldKeeps hG n0_0 n1_0 n2_0 w0_0 w1_0 w2_0 h0_0 h1_0 h2_0 a1

set_option maxRecDepth 100000 in
theorem worldKeeps_lifted (os : Os) (started : os.Started) (H : Type) (enc : TypeId × Value → H) (F : Stop.Interp) :
    ReturnsInHanded {} Tryd.checked os 5 .any ((OpenSpec.ofChange Rows.worldKeepsSpec).preRow enc Tryd.prog Tryd.f5 Rows.worldKeepsRow.domain false Rows.worldKeepsRow.laid) (((OpenSpec.ofChange Rows.worldKeepsSpec).at F).post enc Tryd.prog Tryd.f5 false true false false) := by
  have hx : ∃ places, DataW.whole enc Tryd.prog ((wit0 os).forCall (fun _ _ => 0) ⟨#[], #[.agg #[.slice none 0 0, .slice none 0 0, .slice none 0 0], .agg #[.int .i64 0, .int .i64 0, .int .i64 0, .int .i64 0, .int .i64 0, .string .empty]], []⟩).memory Tryd.f5.params.toList Rows.worldKeepsSpec.vars false #[Value.agg #[.slice none 0 0, .slice none 0 0, .slice none 0 0], .agg #[.int .i64 0, .int .i64 0, .int .i64 0, .int .i64 0, .int .i64 0, .string .empty]].toList 8 = some ([.agg [.agg [.agg [.nil], .agg [.nil]], .nil], .agg [.lit (.int .i64 0), .lit (.int .i64 0), .lit (.int .i64 0), .lit (.int .i64 0), .agg [.lit (.int .i64 0), .lit (.string [])]]], [], places) := ⟨[], by kernel_rfl⟩
  obtain ⟨places, hx⟩ := hx
  refine returnsInHanded_of_row (C := Tryd.checked) (s := OpenSpec.ofChange Rows.worldKeepsSpec) own started (by kernel_rfl) Tryd.func5
    (witness_row_at (enc := enc) (C := Tryd.checked) false (wit0 os) #[.agg #[.slice none 0 0, .slice none 0 0, .slice none 0 0], .agg #[.int .i64 0, .int .i64 0, .int .i64 0, .int .i64 0, .int .i64 0, .string .empty]] rfl (by kernel_rfl) (by kernel_rfl) (by kernel_rfl)
      (OpenSpec.preRow_of_cond 8 hx (by kernel_rfl) (fun k hk => by cases hk) (by kernel_rfl) (laidMet_of_run' 8 (by kernel_rfl) (by kernel_rfl)))) ?_
  intro W base args ds gs before hval hW _ _ hsz hL _ _
  exact worldKeeps_contract H enc W base args ds gs before hval hW hsz hL

theorem worldKeeps_said : Rows.WorldKeepsSaid :=
  OpenClaim.holds_of_cond 5 Tryd.f5 rfl rfl rfl rfl rfl rfl rfl ⟨rfl, rfl, rfl, rfl, rfl⟩ rfl rfl rfl rfl rfl (by kernel_rfl) Tryd.func5 (by kernel_rfl)
    (of_decide_eq_true (by kernel_rfl)) (by unfold Func.isWrapper; first | (rw [if_pos (by decide +kernel)]; kernel_rfl) | (rw [if_neg (by decide +kernel)]; exact ⟨rfl, rfl⟩))
    (fun os started H enc _ F => by rw [OpenClaim.pre_eq_preRow]; exact worldKeeps_lifted os started H enc F)

theorem worldKeeps_plain (f : FuncId) (fn : Func) (hf : Tryd.pinned.checked.prog.funcNamed Rows.worldKeepsRow.func = some f) (hfn : Tryd.pinned.checked.prog.funcs[f]? = some fn) :
    false = Tryd.pinned.checked.prog.looks [] ∧ ∀ (j : Nat) t, fn.params[j]? = some t → Tryd.pinned.checked.prog.wantsStandIn t = false := by
  obtain rfl : f = 5 := Option.some.inj ((show Tryd.prog.funcNamed Rows.worldKeepsRow.func = some 5 by kernel_rfl).symm.trans hf) |>.symm
  obtain rfl : fn = Tryd.f5 := (Option.some.inj (Tryd.func5.symm.trans hfn)).symm
  refine ⟨by kernel_rfl, fun j t ht => ?_⟩
  rw [Tryd.params5] at ht
  have hm : t ∈ [29, 35] := by simpa using Array.mem_of_getElem? ht
  have hall : ([29, 35].all fun u => !Tryd.prog.wantsStandIn u) = true := by kernel_rfl
  exact (show Tryd.prog.wantsStandIn t = false by simpa using List.all_eq_true.1 hall t hm)

theorem worldKeeps_card : Rows.WorldKeepsCardSaid :=
  Claim7.holds_tied_plain_at .later [] _ _ _ _ worldKeeps_said (fun _ h => by cases h) (by kernel_rfl) (fun _ h => by cases h) worldKeeps_row_tie rfl ⟨rfl, rfl⟩ (by kernel_rfl) rfl worldKeeps_plain (by kernel_rfl)
end Go.Proofs.YtdolapjfihjmgaaDoor

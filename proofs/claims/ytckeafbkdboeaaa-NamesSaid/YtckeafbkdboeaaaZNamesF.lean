/- Names: the law gives true -/
import Derived.Test.YtckeafbkdboeaaaZNamesE
import Derived.Test.YtckeafbkdboeaaaRows
import Derived.OpenShut
import Derived.LaidMore
import Derived.Deep.DeepHandedRow


namespace Go.Proofs.Ytckeafbkdboeaaa
open Go.Ab Go.ChangeShapes Go.WideShapes Go.ChangeAt Go.RowKit

theorem own : ownKnob Try.prog.godebug = none := by kernel_rfl
theorem laidOutP : laidOutB Try.prog = true := by kernel_rfl

/-- A world for the witness. -/
noncomputable def wit0 (os : Os) : World := World.doorLaid Try.prog 400 os

set_option maxRecDepth 100000 in
theorem names_contract (H : Type) (enc : TypeId × Value → H) (W : World) (base : Nat) (args : Array Value) (ds gs : List (DataW H)) (before : List MemPlace)
    (hval : ∀ (j : Nat) t v, Try.f3.params[j]? = some t → args[j]? = some v → Value.okWide Try.prog W .any base t v)
    (hW : DataW.Whole enc Try.prog Try.f3.params.toList Rows.namesSpec.vars false W args.toList ds gs before) (hsz : (DataW.weightsEach Try.prog (Try.f3.params.toList ++ []) (ds ++ gs)).all (· ≤ reachBytes) = true) :
    Calls Try.prog 3 args W fun e W' => ∃ v, e = .returned v ∧ Rows.namesSpec.post enc Try.prog Try.f3 false true false false W args v W' := by
  have hWW := hW
  obtain ⟨p, q, hA0, hV, _, _, _⟩ := hWW
  obtain ⟨rfl, rfl⟩ := trodVars_none hV
  have hreach : ∀ k ∈ DataW.weightsEach Try.prog Try.f3.params.toList ds, k ≤ reachBytes := by
    intro k hk
    rw [List.append_nil, List.append_nil] at hsz
    simpa using List.all_eq_true.1 hsz k hk
  have hA : DataW.TrodAll enc Try.prog W 0 (fun _ => true) true Try.f3.params.toList args.toList ds p := hA0
  rw [Try.params3] at hA
  obtain ⟨_, hd, _⟩ := trodAll_nil hA
  subst hd
  have hp : Try.f3.params.toList = [] := by kernel_rfl
  have hpar : ∀ t ∈ Try.f3.params.toList, Try.prog.readableRec t = true ∧ t < Try.prog.types.size ∧ argB Try.prog 9 t = true := by
    intro t ht
    rw [hp] at ht
    cases ht
  refine law_contract (nG := 0) (m := 9) (base := base) laidOutP hpar (bt := 4) (by kernel_rfl) Try.underlying4 hval rfl hW rfl rfl rfl (Nat.zero_le _) hreach fun ys hys => ?_
  rw [hp] at hys
  match ys with
  | [] => exact good_Names
  | _ :: _ => exact hys.elim

set_option maxRecDepth 100000 in
theorem names_lifted (os : Os) (started : os.Started) (H : Type) (enc : TypeId × Value → H) (F : Stop.Interp) :
    ReturnsInHanded {} Try.checked os 3 .any ((OpenSpec.ofChange Rows.namesSpec).preRow enc Try.prog Try.f3 Rows.namesRow.domain false Rows.namesRow.laid) (((OpenSpec.ofChange Rows.namesSpec).at F).post enc Try.prog Try.f3 false true false false) := by
  have hx : ∃ places, DataW.whole enc Try.prog ((wit0 os).forCall (fun _ _ => 0) ⟨#[], #[], []⟩).memory Try.f3.params.toList Rows.namesSpec.vars false (#[] : Array Value).toList 8 = some ([], [], places) := ⟨[], by kernel_rfl⟩
  obtain ⟨places, hx⟩ := hx
  refine returnsInHanded_of_row (C := Try.checked) (s := OpenSpec.ofChange Rows.namesSpec) own started (by kernel_rfl) Try.func3
    (witness_row_at (enc := enc) (C := Try.checked) false (wit0 os) #[] rfl (by kernel_rfl) (by kernel_rfl) (by kernel_rfl)
      (OpenSpec.preRow_of_cond 8 hx (by kernel_rfl) (fun k hk => by cases hk) (by kernel_rfl) (laidMet_of_run' 8 (by kernel_rfl) (by kernel_rfl)))) ?_
  intro W base args ds gs before hval hW _ _ hsz _ _ _
  exact names_contract H enc W base args ds gs before hval hW hsz

theorem names_said : Rows.NamesSaid :=
  OpenClaim.holds_of_cond 3 Try.f3 rfl rfl rfl rfl rfl rfl rfl ⟨rfl, rfl, rfl, rfl, rfl⟩ rfl rfl rfl rfl rfl (by kernel_rfl) Try.func3 (by kernel_rfl)
    (of_decide_eq_true (by kernel_rfl)) (by unfold Func.isWrapper; first | (rw [if_pos (by decide +kernel)]; kernel_rfl) | (rw [if_neg (by decide +kernel)]; exact ⟨rfl, rfl⟩))
    (fun os started H enc _ F => by rw [OpenClaim.pre_eq_preRow]; exact names_lifted os started H enc F)
end Go.Proofs.Ytckeafbkdboeaaa

/- SealOne: whatever comes in, the law gives true, and what came in reads as it did; on the card's own conditions alone. -/
import Derived.Test.YtlfhhbcihaginaaDoorZAllF
namespace Go.Proofs.YtlfhhbcihaginaaDoor
open Go.Ab Go.Gs Go.ChangeShapes Go.WideShapes Go.ChangeAt Go.RowKit

theorem sealOne_shps {m : Nat} {ts : List TypeId} {ys : List AV} (hts : ts = [9, 9, 9, 9]) (h : Shps Tryd.prog m ts ys) :
    ∃ c0 c1 c2 c3, Shp Tryd.prog m 9 c0 ∧ Shp Tryd.prog m 9 c1 ∧ Shp Tryd.prog m 9 c2 ∧ Shp Tryd.prog m 9 c3 ∧ ys = [argA Tryd.prog 9 c0, argA Tryd.prog 9 c1, argA Tryd.prog 9 c2, argA Tryd.prog 9 c3] := by
  subst hts
  match ys with
  | [y0, y1, y2, y3] =>
    obtain ⟨⟨c0, g0, e0⟩, ⟨c1, g1, e1⟩, ⟨c2, g2, e2⟩, ⟨c3, g3, e3⟩, _⟩ := h
    exact ⟨c0, c1, c2, c3, g0, g1, g2, g3, by rw [e0, e1, e2, e3]⟩
  | [] => exact h.elim
  | [_] => exact h.2.elim
  | [_, _] => exact h.2.2.elim
  | [_, _, _] => exact h.2.2.2.elim
  | _ :: _ :: _ :: _ :: _ :: _ => exact h.2.2.2.2.elim

set_option maxRecDepth 100000 in
theorem sealOne_contract (H : Type) (enc : TypeId × Value → H) (W : World) (base : Nat) (args : Array Value) (ds gs : List (DataW H)) (before : List MemPlace)
    (hval : ∀ (j : Nat) t v, Tryd.f7.params[j]? = some t → args[j]? = some v → Value.okWide Tryd.prog W .any base t v)
    (hW : DataW.Whole enc Tryd.prog Tryd.f7.params.toList Rows.sealOneSpec.vars false W args.toList ds gs before) (hsz : (DataW.weightsEach Tryd.prog (Tryd.f7.params.toList ++ []) (ds ++ gs)).all (· ≤ reachBytes) = true) (hL : laidMetH Tryd.prog Rows.sealOneRow.laid W) :
    Calls Tryd.prog 7 args W fun e W' => ∃ v, e = .returned v ∧ Rows.sealOneSpec.post enc Tryd.prog Tryd.f7 false true false false W args v W' := by
  have hM : laidMet Tryd.prog Rows.sealOneRow.laid W := hL
  obtain ⟨hG, hn⟩ := glob_ofM (rest := Rows.sealOneRow.laid.drop 3) hM
  have hE := err_of hM.tail.tail.tail
  have hWW := hW
  obtain ⟨p, q, hA0, hV, _, _, _⟩ := hWW
  obtain ⟨rfl, rfl⟩ := trodVars_none hV
  have hreach : ∀ k ∈ DataW.weightsEach Tryd.prog Tryd.f7.params.toList ds, k ≤ reachBytes := by
    intro k hk
    rw [List.append_nil, List.append_nil] at hsz
    simpa using List.all_eq_true.1 hsz k hk
  have hA : DataW.TrodAll enc Tryd.prog W 0 (fun _ => true) true Tryd.f7.params.toList args.toList ds p := hA0
  rw [Tryd.params7] at hA
  obtain ⟨v0, vs0, d0, ds0, p0, q0, _, hds0, _, h0, r0⟩ := trodAll_cons hA
  obtain ⟨v1, vs1, d1, ds1, p1, q1, _, hds1, _, h1, r1⟩ := trodAll_cons r0
  obtain ⟨v2, vs2, d2, ds2, p2, q2, _, hds2, _, h2, r2⟩ := trodAll_cons r1
  obtain ⟨v3, vs3, d3, ds3, p3, q3, _, hds3, _, h3, r3⟩ := trodAll_cons r2
  obtain ⟨rfl, rfl, rfl⟩ := trodAll_nil r3
  subst hds3
  subst hds2
  subst hds1
  subst hds0
  have hpar : ∀ t ∈ Tryd.f7.params.toList, Tryd.prog.readableRec t = true ∧ t < Tryd.prog.types.size ∧ argB Tryd.prog 9 t = true := by
    intro t ht
    have hall : ([9, 9, 9, 9].all fun t => Tryd.prog.readableRec t && Nat.ble (t + 1) Tryd.prog.types.size && argB Tryd.prog 9 t) = true := by kernel_rfl
    have hp : Tryd.f7.params.toList = [9, 9, 9, 9] := by kernel_rfl
    have := List.all_eq_true.1 hall t (by rw [← hp]; exact ht)
    simp only [Bool.and_eq_true, Nat.ble_eq] at this
    exact ⟨this.1.1, this.1.2, this.2⟩
  refine law_contract (nG := nG) (m := 9) (base := base) laidOutP hpar (bt := 4) (by kernel_rfl) Tryd.underlying4 hval rfl hW rfl rfl rfl hn hreach fun ys hys => ?_
  obtain ⟨c0, c1, c2, c3, g0, g1, g2, g3, rfl⟩ := sealOne_shps (show Tryd.f7.params.toList = [9, 9, 9, 9] by kernel_rfl) hys
  obtain ⟨a0, k0, _⟩ := arg_str Tryd.underlying9 g0
  obtain ⟨a1, k1, _⟩ := arg_str Tryd.underlying9 g1
  obtain ⟨a2, k2, l2⟩ := arg_str Tryd.underlying9 g2
  obtain ⟨a3, k3, _⟩ := arg_str Tryd.underlying9 g3
  rw [k0, k1, k2, k3]
  exact good_SealOne hG hE a0 a1 a2 a3 l2

set_option maxRecDepth 100000 in
theorem sealOne_lifted (os : Os) (started : os.Started) (H : Type) (enc : TypeId × Value → H) (F : Stop.Interp) :
    ReturnsInHanded {} Tryd.checked os 7 .any ((OpenSpec.ofChange Rows.sealOneSpec).preRow enc Tryd.prog Tryd.f7 Rows.sealOneRow.domain false Rows.sealOneRow.laid) (((OpenSpec.ofChange Rows.sealOneSpec).at F).post enc Tryd.prog Tryd.f7 false true false false) := by
  have hx : ∃ places, DataW.whole enc Tryd.prog ((wit0 os).forCall (fun _ _ => 0) ⟨#[], #[.string .empty, .string .empty, .string .empty, .string .empty], []⟩).memory Tryd.f7.params.toList Rows.sealOneSpec.vars false #[Value.string .empty, .string .empty, .string .empty, .string .empty].toList 8 = some ([.lit (.string []), .lit (.string []), .lit (.string []), .lit (.string [])], [], places) := ⟨[], by kernel_rfl⟩
  obtain ⟨places, hx⟩ := hx
  refine returnsInHanded_of_row (C := Tryd.checked) (s := OpenSpec.ofChange Rows.sealOneSpec) own started (by kernel_rfl) Tryd.func7
    (witness_row_at (enc := enc) (C := Tryd.checked) false (wit0 os) #[.string .empty, .string .empty, .string .empty, .string .empty] rfl (by kernel_rfl) (by kernel_rfl) (by kernel_rfl)
      (OpenSpec.preRow_of_cond 8 hx (by kernel_rfl) (fun k hk => by cases hk) (by kernel_rfl) (laidMet_of_run' 8 (by kernel_rfl) (by kernel_rfl)))) ?_
  intro W base args ds gs before hval hW _ _ hsz hL _ _
  exact sealOne_contract H enc W base args ds gs before hval hW hsz hL

theorem sealOne_said : Rows.SealOneSaid :=
  OpenClaim.holds_of_cond 7 Tryd.f7 rfl rfl rfl rfl rfl rfl rfl ⟨rfl, rfl, rfl, rfl, rfl⟩ rfl rfl rfl rfl rfl (by kernel_rfl) Tryd.func7 (by kernel_rfl)
    (of_decide_eq_true (by kernel_rfl)) (by unfold Func.isWrapper; first | (rw [if_pos (by decide +kernel)]; kernel_rfl) | (rw [if_neg (by decide +kernel)]; exact ⟨rfl, rfl⟩))
    (fun os started H enc _ F => by rw [OpenClaim.pre_eq_preRow]; exact sealOne_lifted os started H enc F)

theorem sealOne_plain (f : FuncId) (fn : Func) (hf : Tryd.pinned.checked.prog.funcNamed Rows.sealOneRow.func = some f) (hfn : Tryd.pinned.checked.prog.funcs[f]? = some fn) :
    true = Tryd.pinned.checked.prog.looks [] ∧ ∀ (j : Nat) t, fn.params[j]? = some t → Tryd.pinned.checked.prog.wantsStandIn t = false := by
  obtain rfl : f = 7 := Option.some.inj ((show Tryd.prog.funcNamed Rows.sealOneRow.func = some 7 by kernel_rfl).symm.trans hf) |>.symm
  obtain rfl : fn = Tryd.f7 := (Option.some.inj (Tryd.func7.symm.trans hfn)).symm
  refine ⟨by kernel_rfl, fun j t ht => ?_⟩
  rw [Tryd.params7] at ht
  have hm : t ∈ [9, 9, 9, 9] := by simpa using Array.mem_of_getElem? ht
  have hall : ([9, 9, 9, 9].all fun u => !Tryd.prog.wantsStandIn u) = true := by kernel_rfl
  exact (show Tryd.prog.wantsStandIn t = false by simpa using List.all_eq_true.1 hall t hm)

theorem sealOne_card : Rows.SealOneCardSaid :=
  Claim7.holds_tied_plain_at .later [] _ _ _ _ sealOne_said (fun _ h => by cases h) (by kernel_rfl) (fun _ h => by cases h) sealOne_row_tie rfl ⟨rfl, rfl⟩ (by kernel_rfl) rfl sealOne_plain (by kernel_rfl)
end Go.Proofs.YtlfhhbcihaginaaDoor

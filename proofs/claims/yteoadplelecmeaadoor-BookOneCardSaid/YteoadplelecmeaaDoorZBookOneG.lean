/- BookOne: whatever comes in, the law gives true, and what came in reads as it did; on the card's own conditions alone. -/
import Derived.Test.YteoadplelecmeaaDoorZBookOneF
import Derived.Test.YteoadplelecmeaaDoorCards
import Derived.Test.YteoadplelecmeaaDoorTie
import Derived.OpenShut
import Derived.LaidMore
import Derived.Deep.DeepHandedRow
import Derived.Lib.LaidTab
namespace Go.Proofs.YteoadplelecmeaaDoor
open Go.Ab Go.Gs Go.ChangeShapes Go.WideShapes Go.ChangeAt Go.RowKit

theorem own : ownKnob Tryd.prog.godebug = none := by kernel_rfl
theorem laidOutP : laidOutB Tryd.prog = true := by kernel_rfl

/-- The three tables, as the rows list them. -/
def tabs : List (String × DataW Unit) := Rows.bookOneRow.laid

theorem var_heap {W : World} {name : String} {cs : Array Value} {g : Nat} (hg : Tryd.prog.globalNamed name = some g) (h : W.var? Tryd.prog name = some cs) : g < W.heap.size := by
  simp only [World.var?, hg, Option.bind_some] at h
  split at h
  · rename_i hh; exact (Array.getElem?_eq_some_iff.1 hh).1
  · cases h

theorem var_same {W w : World} {name : String} {g : Nat} (hg : Tryd.prog.globalNamed name = some g) (h : w.heap[g]? = W.heap[g]?) : w.var? Tryd.prog name = W.var? Tryd.prog name := by
  simp only [World.var?, hg, Option.bind_some, h]

theorem glob_of {W : World} (h : laidMetH Tryd.prog Rows.bookOneRow.laid W) : GlobOk (fun b => W.heap[b]?) ∧ nG ≤ W.heap.size := by
  have h : laidMet Tryd.prog Rows.bookOneRow.laid W := h
  obtain ⟨ps, ⟨g0, t0, cs0, f0, p0, q0, hg0, ht0, hv0, hd0, ⟨g1, t1, cs1, f1, p1, q1, hg1, ht1, hv1, hd1, ⟨g2, t2, cs2, f2, p2, q2, hg2, ht2, hv2, hd2, _, _⟩, _⟩, _⟩, _⟩ := h
  have hn0 : Tryd.prog.globalNamed "math/bits.deBruijn32tab" = some 1 := by kernel_rfl
  have hn1 : Tryd.prog.globalNamed "math/bits.deBruijn64tab" = some 2 := by kernel_rfl
  have hn2 : Tryd.prog.globalNamed "internal/strconv.uint64pow10" = some 0 := by kernel_rfl
  have l1 := var_heap hn1 hv1
  have hng : nG = 3 := rfl
  refine ⟨fun w hw => ?_, by omega⟩
  have hty : (Tryd.prog.globals[0]?).map (·.type) = some 131 := by kernel_rfl
  obtain rfl := Option.some.inj (hn2.symm.trans hg2)
  obtain rfl := Option.some.inj (hty.symm.trans ht2)
  unfold Lib.TabIs
  rw [var_same hn2 (hw 0 (by decide)), hv2]
  have := Lib.cells_of_tab (k := .u64) (zs := Lib.pow10Tab) (n := 20) Tryd.underlying131 Tryd.underlying124 (by kernel_rfl) (by kernel_rfl) (show DataW.trod (fun _ => ()) Tryd.prog W 0 (fun _ => true) false f2 131 cs2.toList = some (Lib.tabData .u64 Lib.pow10Tab, p2) from hd2)
  rw [← this]

/-- A world for the witness. -/
noncomputable def wit0 (os : Os) : World := World.doorLaid Tryd.prog 400 os

end Go.Proofs.YteoadplelecmeaaDoor

namespace Go.Proofs.YteoadplelecmeaaDoor
open Go.Ab Go.Gs Go.ChangeShapes Go.WideShapes Go.ChangeAt Go.RowKit

theorem bookOne_shps {m : Nat} {ts : List TypeId} {ys : List AV} (hts : ts = [24, 24, 26]) (h : Shps Tryd.prog m ts ys) :
    ∃ c0 c1 c2, Shp Tryd.prog m 24 c0 ∧ Shp Tryd.prog m 24 c1 ∧ Shp Tryd.prog m 26 c2 ∧ ys = [argA Tryd.prog 24 c0, argA Tryd.prog 24 c1, argA Tryd.prog 26 c2] := by
  subst hts
  match ys with
  | [y0, y1, y2] =>
    obtain ⟨⟨c0, g0, e0⟩, ⟨c1, g1, e1⟩, ⟨c2, g2, e2⟩, _⟩ := h
    exact ⟨c0, c1, c2, g0, g1, g2, by rw [e0, e1, e2]⟩
  | [] => exact h.elim
  | [_] => exact h.2.elim
  | [_, _] => exact h.2.2.elim
  | _ :: _ :: _ :: _ :: _ => exact h.2.2.2.elim

set_option maxRecDepth 100000 in
theorem bookOne_contract (H : Type) (enc : TypeId × Value → H) (W : World) (base : Nat) (args : Array Value) (ds gs : List (DataW H)) (before : List MemPlace)
    (hval : ∀ (j : Nat) t v, Tryd.f3.params[j]? = some t → args[j]? = some v → Value.okWide Tryd.prog W .any base t v)
    (hW : DataW.Whole enc Tryd.prog Tryd.f3.params.toList Rows.bookOneSpec.vars false W args.toList ds gs before) (hsz : (DataW.weightsEach Tryd.prog (Tryd.f3.params.toList ++ []) (ds ++ gs)).all (· ≤ reachBytes) = true) (hL : laidMetH Tryd.prog Rows.bookOneRow.laid W) :
    Calls Tryd.prog 3 args W fun e W' => ∃ v, e = .returned v ∧ Rows.bookOneSpec.post enc Tryd.prog Tryd.f3 false true false false W args v W' := by
  obtain ⟨hG, hn⟩ := glob_of hL
  have hWW := hW
  obtain ⟨p, q, hA0, hV, _, _, _⟩ := hWW
  obtain ⟨rfl, rfl⟩ := trodVars_none hV
  have hreach : ∀ k ∈ DataW.weightsEach Tryd.prog Tryd.f3.params.toList ds, k ≤ reachBytes := by
    intro k hk
    rw [List.append_nil, List.append_nil] at hsz
    simpa using List.all_eq_true.1 hsz k hk
  have hA : DataW.TrodAll enc Tryd.prog W 0 (fun _ => true) true Tryd.f3.params.toList args.toList ds p := hA0
  rw [Tryd.params3] at hA
  obtain ⟨v0, vs0, d0, ds0, p0, q0, _, hds0, _, h0, r0⟩ := trodAll_cons hA
  obtain ⟨v1, vs1, d1, ds1, p1, q1, _, hds1, _, h1, r1⟩ := trodAll_cons r0
  obtain ⟨v2, vs2, d2, ds2, p2, q2, _, hds2, _, h2, r2⟩ := trodAll_cons r1
  obtain ⟨rfl, rfl, rfl⟩ := trodAll_nil r2
  subst hds2
  subst hds1
  subst hds0
  have hpar : ∀ t ∈ Tryd.f3.params.toList, Tryd.prog.readableRec t = true ∧ t < Tryd.prog.types.size ∧ argB Tryd.prog 9 t = true := by
    intro t ht
    have hall : ([24, 24, 26].all fun t => Tryd.prog.readableRec t && Nat.ble (t + 1) Tryd.prog.types.size && argB Tryd.prog 9 t) = true := by kernel_rfl
    have hp : Tryd.f3.params.toList = [24, 24, 26] := by kernel_rfl
    have := List.all_eq_true.1 hall t (by rw [← hp]; exact ht)
    simp only [Bool.and_eq_true, Nat.ble_eq] at this
    exact ⟨this.1.1, this.1.2, this.2⟩
  refine law_contract (nG := nG) (m := 9) (base := base) laidOutP hpar (bt := 4) (by kernel_rfl) Tryd.underlying4 hval rfl hW rfl rfl rfl hn hreach fun ys hys => ?_
  obtain ⟨c0, c1, c2, g0, g1, g2, rfl⟩ := bookOne_shps (show Tryd.f3.params.toList = [24, 24, 26] by kernel_rfl) hys
  obtain ⟨nl0, a0, k0, h0, _, _⟩ := arg_book Tryd.underlying24 rfl Tryd.underlying22 Tryd.underlying26 rfl Tryd.underlying3 Tryd.underlying9 (by kernel_rfl) (by kernel_rfl) g0
  obtain ⟨nl1, a1, k1, _, _, _⟩ := arg_book Tryd.underlying24 rfl Tryd.underlying22 Tryd.underlying26 rfl Tryd.underlying3 Tryd.underlying9 (by kernel_rfl) (by kernel_rfl) g1
  obtain ⟨a2, k2, _, _⟩ := arg_entry Tryd.underlying26 rfl Tryd.underlying3 Tryd.underlying9 g2
  rw [k0, k1, k2]
  exact good_BookOne hG a0 a1 nl0 nl1 h0 a2

set_option maxRecDepth 100000 in
theorem bookOne_lifted (os : Os) (started : os.Started) (H : Type) (enc : TypeId × Value → H) (F : Stop.Interp) :
    ReturnsInHanded {} Tryd.checked os 3 .any ((OpenSpec.ofChange Rows.bookOneSpec).preRow enc Tryd.prog Tryd.f3 Rows.bookOneRow.domain false Rows.bookOneRow.laid) (((OpenSpec.ofChange Rows.bookOneSpec).at F).post enc Tryd.prog Tryd.f3 false true false false) := by
  have hx : ∃ places, DataW.whole enc Tryd.prog ((wit0 os).forCall (fun _ _ => 0) ⟨#[], #[.agg #[.slice none 0 0], .agg #[.slice none 0 0], .agg #[.int .i64 0, .string .empty]], []⟩).memory Tryd.f3.params.toList Rows.bookOneSpec.vars false #[Value.agg #[.slice none 0 0], .agg #[.slice none 0 0], .agg #[.int .i64 0, .string .empty]].toList 8 = some ([.agg [.nil], .agg [.nil], .agg [.lit (.int .i64 0), .lit (.string [])]], [], places) := ⟨[], by kernel_rfl⟩
  obtain ⟨places, hx⟩ := hx
  refine returnsInHanded_of_row (C := Tryd.checked) (s := OpenSpec.ofChange Rows.bookOneSpec) own started (by kernel_rfl) Tryd.func3
    (witness_row_at (enc := enc) (C := Tryd.checked) false (wit0 os) #[.agg #[.slice none 0 0], .agg #[.slice none 0 0], .agg #[.int .i64 0, .string .empty]] rfl (by kernel_rfl) (by kernel_rfl) (by kernel_rfl)
      (OpenSpec.preRow_of_cond 8 hx (by kernel_rfl) (fun k hk => by cases hk) (by kernel_rfl) (laidMet_of_run' 8 (by kernel_rfl) (by kernel_rfl)))) ?_
  intro W base args ds gs before hval hW _ _ hsz hL _ _
  exact bookOne_contract H enc W base args ds gs before hval hW hsz hL

theorem bookOne_said : Rows.BookOneSaid :=
  OpenClaim.holds_of_cond 3 Tryd.f3 rfl rfl rfl rfl rfl rfl rfl ⟨rfl, rfl, rfl, rfl, rfl⟩ rfl rfl rfl rfl rfl (by kernel_rfl) Tryd.func3 (by kernel_rfl)
    (of_decide_eq_true (by kernel_rfl)) (by unfold Func.isWrapper; first | (rw [if_pos (by decide +kernel)]; kernel_rfl) | (rw [if_neg (by decide +kernel)]; exact ⟨rfl, rfl⟩))
    (fun os started H enc _ F => by rw [OpenClaim.pre_eq_preRow]; exact bookOne_lifted os started H enc F)

theorem bookOne_plain (f : FuncId) (fn : Func) (hf : Tryd.pinned.checked.prog.funcNamed Rows.bookOneRow.func = some f) (hfn : Tryd.pinned.checked.prog.funcs[f]? = some fn) :
    false = Tryd.pinned.checked.prog.looks [] ∧ ∀ (j : Nat) t, fn.params[j]? = some t → Tryd.pinned.checked.prog.wantsStandIn t = false := by
  obtain rfl : f = 3 := Option.some.inj ((show Tryd.prog.funcNamed Rows.bookOneRow.func = some 3 by kernel_rfl).symm.trans hf) |>.symm
  obtain rfl : fn = Tryd.f3 := (Option.some.inj (Tryd.func3.symm.trans hfn)).symm
  refine ⟨by kernel_rfl, fun j t ht => ?_⟩
  rw [Tryd.params3] at ht
  have hm : t ∈ [24, 24, 26] := by simpa using Array.mem_of_getElem? ht
  have hall : ([24, 24, 26].all fun u => !Tryd.prog.wantsStandIn u) = true := by kernel_rfl
  exact (show Tryd.prog.wantsStandIn t = false by simpa using List.all_eq_true.1 hall t hm)

theorem bookOne_card : Rows.BookOneCardSaid :=
  Claim7.holds_tied_plain_at .later [] _ _ _ _ bookOne_said (fun _ h => by cases h) (by kernel_rfl) (fun _ h => by cases h) bookOne_row_tie rfl ⟨rfl, rfl⟩ (by kernel_rfl) rfl bookOne_plain (by kernel_rfl)
end Go.Proofs.YteoadplelecmeaaDoor

/-
  'cantileverlaw06.CheckLess': whatever it is handed, it says true, and all it was handed reads as before: the tied card. Condition: the listed variables hold at the start what the program's text lays (the card ties them).
-/
import Derived.Test.YtblnhcafobifgaaGreatDoorPls10
import Derived.Test.YtblnhcafobifgaaGreatDoorCards
import Derived.Test.YtblnhcafobifgaaGreatDoorTie
import Derived.ProofKit
import Derived.OpenShut
import Derived.Deep.DeepHandedRow
set_option linter.unusedVariables false
namespace Go.Proofs.YtblnhcafobifgaaGreatDoor.checkLess
open Go.ChangeShapes Go.WideShapes Go.ChangeAt Go.RowKit Go.Abs

theorem own : ownKnob Tryz.prog.godebug = none := by kernel_rfl

theorem fits (H : Type) (ds : List (DataW H)) (h : ds.length = Tryz.f4.params.toList.length) : (Rows.checkLessSpec.fn H ds).results = [.lit (.bool true)] ∧ (Rows.checkLessSpec.fn H ds).args = ds ∧ (Rows.checkLessSpec.fn H ds).vars = [] := by
  rw [Tryz.params4] at h
  match ds, h with
  | [d0, d1, d2], _ => exact ⟨rfl, rfl, rfl⟩

set_option maxRecDepth 100000 in
theorem contract (H : Type) (enc : TypeId × Value → H) (W : World) (base : Nat) (args : Array Value) (ds gs : List (DataW H)) (before : List MemPlace)
    (hval : ∀ (j : Nat) t v, Tryz.f4.params[j]? = some t → args[j]? = some v → Value.okWide Tryz.prog W .any base t v)
    (hW : DataW.Whole enc Tryz.prog Tryz.f4.params.toList Rows.checkLessSpec.vars false W args.toList ds gs before) (hL : laidMetH Tryz.prog Rows.checkLessRow.laid W) :
    Calls Tryz.prog 4 args W fun e W' => ∃ v, e = .returned v ∧ Rows.checkLessSpec.post enc Tryz.prog Tryz.f4 false true false false W args v W' :=
  law_calls clLaw.solid (by kernel_rfl) clLaw.opens clLaw.law rfl fits (by kernel_rfl) Tryz.underlying4 (runLives.globs hL) hval hW

/-- A world for the witness: the settled one, the tables holding what their initialisers lay. -/
noncomputable def laidHeap (os : Os) : Array Obj :=
  (fun h => h.modify 1 fun
    | .cells _ t frozen => .cells #[.bool false, .bool false, .int .i64 0, .bool true, .bool false, .int .i64 0, .bool false, .bool true, .int .i64 0, .bool false, .bool false, 
    .int .i64 1, .bool false, .bool false, .int .i64 1, .bool false, .bool false, .int .i64 2, .bool false, .bool false, .int .i64 2, .bool false, 
    .bool false, .int .i64 2, .bool false, .bool false, .int .i64 2, .bool false, .bool false, .int .i64 2, .bool false, .bool false, .int .i64 2, 
    .bool false, .bool false, .int .i64 2, .bool false, .bool false, .int .i64 2, .bool false, .bool false, .int .i64 2, .bool false, .bool false, 
    .int .i64 2, .bool false, .bool false, .int .i64 2, .bool false, .bool false, .int .i64 2] t frozen
    | o => o) <|
  (fun h => h.modify 2 fun
    | .cells _ t frozen => .cells #[.bool false, .bool false, .bool false, .int .i64 0, .bool false, .bool false, .bool true, .bool false, .bool false, .int .i64 1, .bool false, 
    .bool false, .bool true, .bool true, .bool true, .int .i64 0, .bool false, .bool false, .bool false, .bool true, .bool true, .int .i64 1, .bool false, 
    .bool false, .bool true, .bool true, .bool true, .int .i64 2, .bool false, .bool false, .bool true, .bool true, .bool true, .int .i64 1, .bool false, 
    .bool false, .bool true, .bool true, .bool true, .int .i64 1, .bool false, .bool false, .bool false, .bool false, .bool true, .int .i64 0, .bool false, 
    .bool false, .bool false, .bool false, .bool false, .int .i64 1, .bool false, .bool false, .bool false, .bool false, .bool false, .int .i64 1, 
    .bool false, .bool false, .bool false, .bool false, .bool false, .int .i64 1, .bool true, .bool true, .bool false, .bool false, .bool false, 
    .int .i64 1, .bool true, .bool false] t frozen
    | o => o) <|
  (fun h => h.modify 0 fun
    | .cells _ t frozen => .cells #[.bool false, .bool false, .bool false, .bool false, .bool false, .bool false, .bool false, .bool false, .bool false, .bool false, .bool false, 
    .bool false, .bool false, .bool false, .bool false, .bool true, .bool true, .bool true, .bool false, .bool false, .bool true, .bool false, .bool true, 
    .bool true, .bool false, .bool true, .bool false, .bool true, .bool false, .bool false, .bool true, .bool true, .bool true, .bool true, .bool true, 
    .bool false, .bool false, .bool true, .bool true, .bool true, .bool true, .bool true, .bool false, .bool false, .bool true, .bool true, .bool true, 
    .bool true, .bool true, .bool false, .bool false, .bool false, .bool true, .bool true, .bool true, .bool true] t frozen
    | o => o) <|
  (World.holding Tryz.prog os ⟨#[], #[], []⟩).heap
noncomputable def laidWorld (os : Os) : World := { World.holding Tryz.prog os ⟨#[], #[], []⟩ with heap := laidHeap os }
def wit : Array Value := #[.agg #[.slice none 0 0, .slice none 0 0], .int .i64 0, .int .i64 0]
theorem laid_met (os : Os) : laidMet Tryz.prog Rows.checkLessRow.laid ((laidWorld os).forCall (fun _ _ => 0) ⟨#[], wit, []⟩).memory :=
  laidMet_of_run' 8 (by kernel_rfl) (by kernel_rfl)
theorem reads (os : Os) {H : Type} (enc : TypeId × Value → H) : ∃ ds places, DataW.whole enc Tryz.prog ((laidWorld os).forCall (fun _ _ => 0) ⟨#[], wit, []⟩).memory Tryz.f4.params.toList Rows.checkLessSpec.vars false wit.toList 8 = some (ds, [], places) :=
  ⟨[.agg [.nil, .nil], .lit (.int .i64 0), .lit (.int .i64 0)], [], by kernel_rfl⟩

set_option maxRecDepth 100000 in
theorem lifted (os : Os) (started : os.Started) (H : Type) (enc : TypeId × Value → H) (F : Stop.Interp) :
    ReturnsInHanded {} Tryz.checked os 4 .any ((OpenSpec.ofChange Rows.checkLessSpec).preRow enc Tryz.prog Tryz.f4 Rows.checkLessRow.domain false Rows.checkLessRow.laid) (((OpenSpec.ofChange Rows.checkLessSpec).at F).post enc Tryz.prog Tryz.f4 false true false false) := by
  obtain ⟨ds0, places, hx⟩ := reads os enc
  refine returnsInHanded_of_row (C := Tryz.checked) (s := OpenSpec.ofChange Rows.checkLessSpec) own started (by kernel_rfl) Tryz.func4
    (witness_row_at (enc := enc) (C := Tryz.checked) false (laidWorld os) wit rfl (by kernel_rfl) (by kernel_rfl) (by kernel_rfl)
      (OpenSpec.preRow_of_cond 8 hx (by kernel_rfl) (fun k hk => by cases hk) (by kernel_rfl) (laid_met os))) ?_
  intro W base args ds gs before hval hW _ _ _ hL _ _
  exact contract H enc W base args ds gs before hval hW hL

theorem said : Rows.CheckLessSaid :=
  OpenClaim.holds_of_cond 4 Tryz.f4 rfl rfl rfl rfl rfl rfl rfl ⟨rfl, rfl, rfl, rfl, rfl⟩ rfl rfl rfl rfl rfl (by kernel_rfl) Tryz.func4 (by kernel_rfl)
    (of_decide_eq_true (by kernel_rfl)) (by unfold Func.isWrapper; first | (rw [if_pos (by decide +kernel)]; kernel_rfl) | (rw [if_neg (by decide +kernel)]; exact ⟨rfl, rfl⟩))
    (fun os started H enc _ F => by rw [OpenClaim.pre_eq_preRow]; exact lifted os started H enc F)

theorem plain (f : FuncId) (fn : Func) (hf : Tryz.pinned.checked.prog.funcNamed "cantilever/cantileverlaw06.CheckLess" = some f) (hfn : Tryz.pinned.checked.prog.funcs[f]? = some fn) :
    false = Tryz.pinned.checked.prog.looks [] ∧ ∀ (j : Nat) t, fn.params[j]? = some t → Tryz.pinned.checked.prog.wantsStandIn t = false := by
  obtain rfl : f = 4 := Option.some.inj ((show Tryz.prog.funcNamed "cantilever/cantileverlaw06.CheckLess" = some 4 by kernel_rfl).symm.trans hf) |>.symm
  obtain rfl : fn = Tryz.f4 := (Option.some.inj (Tryz.func4.symm.trans hfn)).symm
  refine ⟨by kernel_rfl, fun j t ht => ?_⟩
  rw [Tryz.params4] at ht
  have hall : ∀ t ∈ Tryz.f4.params.toList, Tryz.pinned.checked.prog.wantsStandIn t = false := fun t ht => by
    have hA : (Tryz.f4.params.toList.all fun t => !Tryz.pinned.checked.prog.wantsStandIn t) = true := by kernel_rfl
    simpa using List.all_eq_true.1 hA t ht
  exact hall t (by rw [Tryz.params4]; exact Array.mem_toList_iff.2 (Array.mem_of_getElem? ht))

/-- The card. -/
theorem card : Rows.CheckLessCardSaid :=
  Claim7.holds_tied_plain_at .later [] _ _ _ _ said (fun _ h => by cases h) (by kernel_rfl) (fun _ h => by cases h) checkLess_row_tie rfl ⟨rfl, rfl⟩ (by kernel_rfl) rfl plain (by kernel_rfl)
#print axioms card
end Go.Proofs.YtblnhcafobifgaaGreatDoor.checkLess

/-
  'cantileverlaw03.AstCopy': whatever it is handed, it says true, and all it was handed reads as before: the tied card. Condition: the listed variables hold at the start what the program's text lays (the card ties them).
-/
import Derived.Test.YtajhailaofchlaaDoorXc7
import Derived.Test.YtajhailaofchlaaDoorCards
import Derived.Test.YtajhailaofchlaaDoorTie
import Derived.ProofKit
import Derived.OpenShut
import Derived.Deep.DeepHandedRow
set_option linter.unusedVariables false
namespace Go.Proofs.YtajhailaofchlaaDoor.astCopy
open Go.ChangeShapes Go.WideShapes Go.ChangeAt Go.RowKit Go.Abs

theorem own : ownKnob Tryd.prog.godebug = none := by kernel_rfl

theorem fits (H : Type) (ds : List (DataW H)) (h : ds.length = Tryd.f6.params.toList.length) : (Rows.astCopySpec.fn H ds).results = [.lit (.bool true)] ∧ (Rows.astCopySpec.fn H ds).args = ds ∧ (Rows.astCopySpec.fn H ds).vars = [] := by
  rw [Tryd.params6] at h
  match ds, h with
  | [d0], _ => exact ⟨rfl, rfl, rfl⟩

set_option maxRecDepth 100000 in
theorem contract (H : Type) (enc : TypeId × Value → H) (W : World) (base : Nat) (args : Array Value) (ds gs : List (DataW H)) (before : List MemPlace)
    (hval : ∀ (j : Nat) t v, Tryd.f6.params[j]? = some t → args[j]? = some v → Value.okWide Tryd.prog W .any base t v)
    (hW : DataW.Whole enc Tryd.prog Tryd.f6.params.toList Rows.astCopySpec.vars false W args.toList ds gs before) (hL : laidMetH Tryd.prog Rows.astCopyRow.laid W) :
    Calls Tryd.prog 6 args W fun e W' => ∃ v, e = .returned v ∧ Rows.astCopySpec.post enc Tryd.prog Tryd.f6 false true false false W args v W' :=
  law_calls ayLaw.solid (by kernel_rfl) ayLaw.opens ayLaw.law rfl fits (by kernel_rfl) Tryd.underlying4 (runLives.globs hL) hval hW

/-- A world for the witness: the settled one, the tables holding what their initialisers lay. -/
noncomputable def laidHeap (os : Os) : Array Obj :=
  (fun h => h.modify 0 fun
    | .cells _ t frozen => .cells #[.bool false, .bool false, .int .i64 0, .bool true, .bool false, .int .i64 0, .bool false, .bool true, .int .i64 0, .bool false, .bool false, 
    .int .i64 1, .bool false, .bool false, .int .i64 1, .bool false, .bool false, .int .i64 2, .bool false, .bool false, .int .i64 2, .bool false, 
    .bool false, .int .i64 2, .bool false, .bool false, .int .i64 2, .bool false, .bool false, .int .i64 2, .bool false, .bool false, .int .i64 2, 
    .bool false, .bool false, .int .i64 2, .bool false, .bool false, .int .i64 2, .bool false, .bool false, .int .i64 2, .bool false, .bool false, 
    .int .i64 2, .bool false, .bool false, .int .i64 2, .bool false, .bool false, .int .i64 2] t frozen
    | o => o) <|
  (fun h => h.modify 1 fun
    | .cells _ t frozen => .cells #[.bool false, .bool false, .bool false, .int .i64 0, .bool false, .bool false, .bool true, .bool false, .bool false, .int .i64 1, .bool false, 
    .bool false, .bool true, .bool true, .bool true, .int .i64 0, .bool false, .bool false, .bool false, .bool true, .bool true, .int .i64 1, .bool false, 
    .bool false, .bool true, .bool true, .bool true, .int .i64 2, .bool false, .bool false, .bool true, .bool true, .bool true, .int .i64 1, .bool false, 
    .bool false, .bool true, .bool true, .bool true, .int .i64 1, .bool false, .bool false, .bool false, .bool false, .bool true, .int .i64 0, .bool false, 
    .bool false, .bool false, .bool false, .bool false, .int .i64 1, .bool false, .bool false, .bool false, .bool false, .bool false, .int .i64 1, 
    .bool false, .bool false, .bool false, .bool false, .bool false, .int .i64 1, .bool true, .bool true, .bool false, .bool false, .bool false, 
    .int .i64 1, .bool true, .bool false] t frozen
    | o => o) <|
  (World.holding Tryd.prog os ⟨#[], #[], []⟩).heap
noncomputable def laidWorld (os : Os) : World := { World.holding Tryd.prog os ⟨#[], #[], []⟩ with heap := laidHeap os }
def wit : Array Value := #[.agg #[.slice none 0 0, .slice none 0 0]]
theorem laid_met (os : Os) : laidMet Tryd.prog Rows.astCopyRow.laid ((laidWorld os).forCall (fun _ _ => 0) ⟨#[], wit, []⟩).memory :=
  laidMet_of_run' 8 (by kernel_rfl) (by kernel_rfl)
theorem reads (os : Os) {H : Type} (enc : TypeId × Value → H) : ∃ ds places, DataW.whole enc Tryd.prog ((laidWorld os).forCall (fun _ _ => 0) ⟨#[], wit, []⟩).memory Tryd.f6.params.toList Rows.astCopySpec.vars false wit.toList 8 = some (ds, [], places) :=
  ⟨[.agg [.nil, .nil]], [], by kernel_rfl⟩

set_option maxRecDepth 100000 in
theorem lifted (os : Os) (started : os.Started) (H : Type) (enc : TypeId × Value → H) (F : Stop.Interp) :
    ReturnsInHanded {} Tryd.checked os 6 .any ((OpenSpec.ofChange Rows.astCopySpec).preRow enc Tryd.prog Tryd.f6 Rows.astCopyRow.domain false Rows.astCopyRow.laid) (((OpenSpec.ofChange Rows.astCopySpec).at F).post enc Tryd.prog Tryd.f6 false true false false) := by
  obtain ⟨ds0, places, hx⟩ := reads os enc
  refine returnsInHanded_of_row (C := Tryd.checked) (s := OpenSpec.ofChange Rows.astCopySpec) own started (by kernel_rfl) Tryd.func6
    (witness_row_at (enc := enc) (C := Tryd.checked) false (laidWorld os) wit rfl (by kernel_rfl) (by kernel_rfl) (by kernel_rfl)
      (OpenSpec.preRow_of_cond 8 hx (by kernel_rfl) (fun k hk => by cases hk) (by kernel_rfl) (laid_met os))) ?_
  intro W base args ds gs before hval hW _ _ _ hL _ _
  exact contract H enc W base args ds gs before hval hW hL

theorem said : Rows.AstCopySaid :=
  OpenClaim.holds_of_cond 6 Tryd.f6 rfl rfl rfl rfl rfl rfl rfl ⟨rfl, rfl, rfl, rfl, rfl⟩ rfl rfl rfl rfl rfl (by kernel_rfl) Tryd.func6 (by kernel_rfl)
    (of_decide_eq_true (by kernel_rfl)) (by unfold Func.isWrapper; first | (rw [if_pos (by decide +kernel)]; kernel_rfl) | (rw [if_neg (by decide +kernel)]; exact ⟨rfl, rfl⟩))
    (fun os started H enc _ F => by rw [OpenClaim.pre_eq_preRow]; exact lifted os started H enc F)

theorem plain (f : FuncId) (fn : Func) (hf : Tryd.pinned.checked.prog.funcNamed "cantilever/cantileverlaw03.AstCopy" = some f) (hfn : Tryd.pinned.checked.prog.funcs[f]? = some fn) :
    false = Tryd.pinned.checked.prog.looks [] ∧ ∀ (j : Nat) t, fn.params[j]? = some t → Tryd.pinned.checked.prog.wantsStandIn t = false := by
  obtain rfl : f = 6 := Option.some.inj ((show Tryd.prog.funcNamed "cantilever/cantileverlaw03.AstCopy" = some 6 by kernel_rfl).symm.trans hf) |>.symm
  obtain rfl : fn = Tryd.f6 := (Option.some.inj (Tryd.func6.symm.trans hfn)).symm
  refine ⟨by kernel_rfl, fun j t ht => ?_⟩
  rw [Tryd.params6] at ht
  have hall : ∀ t ∈ Tryd.f6.params.toList, Tryd.pinned.checked.prog.wantsStandIn t = false := fun t ht => by
    have hA : (Tryd.f6.params.toList.all fun t => !Tryd.pinned.checked.prog.wantsStandIn t) = true := by kernel_rfl
    simpa using List.all_eq_true.1 hA t ht
  exact hall t (by rw [Tryd.params6]; exact Array.mem_toList_iff.2 (Array.mem_of_getElem? ht))

/-- The card. -/
theorem card : Rows.AstCopyCardSaid :=
  Claim7.holds_tied_plain_at .later [] _ _ _ _ said (fun _ h => by cases h) (by kernel_rfl) (fun _ h => by cases h) astCopy_row_tie rfl ⟨rfl, rfl⟩ (by kernel_rfl) rfl plain (by kernel_rfl)
#print axioms card
end Go.Proofs.YtajhailaofchlaaDoor.astCopy

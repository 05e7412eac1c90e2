/-
  'cantileverlaw06.CheckNames': the chapter's examples come out as it tells: the tied card. Condition: the listed variables hold at the start what the program's text lays (the card ties them). The code is run by an abstract interpreter that was proved sound (the texts Abs1 to Abs30).
-/
import Derived.Test.YtblnhcafobifgaaGreatDoorPack7
import Derived.Test.YtblnhcafobifgaaGreatDoorCards
import Derived.Test.YtblnhcafobifgaaGreatDoorTie
import Derived.ProofKit
import Derived.OpenShut
import Derived.Deep.DeepHandedRow
set_option linter.unusedVariables false
namespace Go.Proofs.YtblnhcafobifgaaGreatDoor.checkNames
open Go.ChangeShapes Go.WideShapes Go.ChangeAt Go.RowKit Go.Abs

theorem own : ownKnob Tryz.prog.godebug = none := by kernel_rfl

theorem known : tblO [(5, []), (7, [])] 5 [] [] = some (.bool true, []) := by kernel_rfl
theorem glob {W : World} (h : laidMetH Tryz.prog Rows.checkNamesRow.laid W) : GlOK runCheckNames.gl (snap0 W) := runCheckNames.globs h

set_option maxRecDepth 100000 in
/-- What the run gives, in every world that holds the tables. -/
theorem contract (H : Type) (enc : TypeId × Value → H) (W : World) (base : Nat) (args : Array Value) (ds gs : List (DataW H)) (before : List MemPlace)
    (hW : DataW.Whole enc Tryz.prog Tryz.f5.params.toList Rows.checkNamesSpec.vars false W args.toList ds gs before) (hL : laidMetH Tryz.prog Rows.checkNamesRow.laid W) :
    Calls Tryz.prog 5 args W fun e W' => ∃ v, e = .returned v ∧ Rows.checkNamesSpec.post enc Tryz.prog Tryz.f5 false true false false W args v W' := by
  have hW' := hW
  obtain ⟨p, q, hA0, hV, rfl, hfz, hnd⟩ := hW
  have hA : DataW.TrodAll enc Tryz.prog W 0 (fun _ => true) true Tryz.f5.params.toList args.toList ds p := hA0
  rw [Tryz.params5] at hA
  obtain ⟨h1, rfl, rfl⟩ := trodAll_nil hA
  obtain rfl : args = #[] := by apply Array.ext'; simpa using h1
  obtain ⟨rfl, rfl⟩ := trodVars_none hV
  have hc : Calls Tryz.prog 5 #[] W fun e W' => e = .returned (.bool true) ∧ Below W.heap.size W W' :=
    closed_calls (P := Tryz.prog) (gl := runCheckNames.gl) (orc := tblO [(5, []), (7, [])]) (f := 5) (b := true) (H := []) Tryz.func5 runCheckNames.known known (glob hL)
  refine hc.mono fun e W' ⟨he, hg⟩ => ?_
  subst he
  exact ⟨_, rfl, post_below (pa := []) (pv := []) hW' (fun _ _ _ => trodAll_cons_mk (shut_bool Tryz.underlying4 _) trodAll_mk0) (fun _ _ => trodAll_mk0) (fun _ _ => rfl) rfl
    hg (ok_one (by kernel_rfl) (by kernel_rfl) (okWide_bool_mk Tryz.underlying4 _))⟩

/-- A world for the witness: the settled one, the tables holding what their initialisers lay. -/
noncomputable def laidHeap (os : Os) : Array Obj :=
  (fun h => h.modify 1 fun
    | .cells _ t frozen => .cells #[.bool false, .bool false, .int .i64 0, .bool true, .bool false, .int .i64 0, .bool false, .bool true, .int .i64 0, .bool false, .bool false, 
    .int .i64 1, .bool false, .bool false, .int .i64 1, .bool false, .bool false, .int .i64 2, .bool false, .bool false, .int .i64 2, .bool false, 
    .bool false, .int .i64 2, .bool false, .bool false, .int .i64 2, .bool false, .bool false, .int .i64 2, .bool false, .bool false, .int .i64 2, 
    .bool false, .bool false, .int .i64 2, .bool false, .bool false, .int .i64 2, .bool false, .bool false, .int .i64 2, .bool false, .bool false, 
    .int .i64 2, .bool false, .bool false, .int .i64 2, .bool false, .bool false, .int .i64 2] t frozen
    | o => o) <|
  (fun h => h.modify 2 fun
    | .cells _ t frozen => .cells #[.bool false, .bool false, .bool false, .int .i64 0, .bool false, .bool false, .bool true, .bool false, .bool false, .int .i64 1, .bool false, 
    .bool false, .bool true, .bool true, .bool true, .int .i64 0, .bool false, .bool false, .bool false, .bool true, .bool true, .int .i64 1, .bool false, 
    .bool false, .bool true, .bool true, .bool true, .int .i64 2, .bool false, .bool false, .bool true, .bool true, .bool true, .int .i64 1, .bool false, 
    .bool false, .bool true, .bool true, .bool true, .int .i64 1, .bool false, .bool false, .bool false, .bool false, .bool true, .int .i64 0, .bool false, 
    .bool false, .bool false, .bool false, .bool false, .int .i64 1, .bool false, .bool false, .bool false, .bool false, .bool false, .int .i64 1, 
    .bool false, .bool false, .bool false, .bool false, .bool false, .int .i64 1, .bool true, .bool true, .bool false, .bool false, .bool false, 
    .int .i64 1, .bool true, .bool false] t frozen
    | o => o) <|
  (fun h => h.modify 0 fun
    | .cells _ t frozen => .cells #[.bool false, .bool false, .bool false, .bool false, .bool false, .bool false, .bool false, .bool false, .bool false, .bool false, .bool false, 
    .bool false, .bool false, .bool false, .bool false, .bool true, .bool true, .bool true, .bool false, .bool false, .bool true, .bool false, .bool true, 
    .bool true, .bool false, .bool true, .bool false, .bool true, .bool false, .bool false, .bool true, .bool true, .bool true, .bool true, .bool true, 
    .bool false, .bool false, .bool true, .bool true, .bool true, .bool true, .bool true, .bool false, .bool false, .bool true, .bool true, .bool true, 
    .bool true, .bool true, .bool false, .bool false, .bool false, .bool true, .bool true, .bool true, .bool true] t frozen
    | o => o) <|
  (World.holding Tryz.prog os ⟨#[], #[], []⟩).heap
noncomputable def laidWorld (os : Os) : World := { World.holding Tryz.prog os ⟨#[], #[], []⟩ with heap := laidHeap os }
theorem laid_met (os : Os) : laidMet Tryz.prog Rows.checkNamesRow.laid ((laidWorld os).forCall (fun _ _ => 0) ⟨#[], #[], []⟩).memory :=
  laidMet_of_run' 8 (by kernel_rfl) (by kernel_rfl)
theorem reads (os : Os) {H : Type} (enc : TypeId × Value → H) : ∃ places, DataW.whole enc Tryz.prog ((laidWorld os).forCall (fun _ _ => 0) ⟨#[], #[], []⟩).memory Tryz.f5.params.toList Rows.checkNamesSpec.vars false (#[] : Array Value).toList 8 = some ([], [], places) :=
  ⟨[], by kernel_rfl⟩

set_option maxRecDepth 100000 in
theorem lifted (os : Os) (started : os.Started) (H : Type) (enc : TypeId × Value → H) (F : Stop.Interp) :
    ReturnsInHanded {} Tryz.checked os 5 .any ((OpenSpec.ofChange Rows.checkNamesSpec).preRow enc Tryz.prog Tryz.f5 Rows.checkNamesRow.domain false Rows.checkNamesRow.laid) (((OpenSpec.ofChange Rows.checkNamesSpec).at F).post enc Tryz.prog Tryz.f5 false true false false) := by
  obtain ⟨places, hx⟩ := reads os enc
  refine returnsInHanded_of_row (C := Tryz.checked) (s := OpenSpec.ofChange Rows.checkNamesSpec) own started (by kernel_rfl) Tryz.func5
    (witness_row_at (enc := enc) (C := Tryz.checked) false (laidWorld os) #[] rfl (by kernel_rfl) (by kernel_rfl) (by kernel_rfl)
      (OpenSpec.preRow_of_cond 8 hx (by kernel_rfl) (fun k hk => by cases hk) (by kernel_rfl) (laid_met os))) ?_
  intro W base args ds gs before _ hW _ _ _ hL _ _
  exact contract H enc W base args ds gs before hW hL

theorem said : Rows.CheckNamesSaid :=
  OpenClaim.holds_of_cond 5 Tryz.f5 rfl rfl rfl rfl rfl rfl rfl ⟨rfl, rfl, rfl, rfl, rfl⟩ rfl rfl rfl rfl rfl (by kernel_rfl) Tryz.func5 (by kernel_rfl)
    (of_decide_eq_true (by kernel_rfl)) (by unfold Func.isWrapper; first | (rw [if_pos (by decide +kernel)]; kernel_rfl) | (rw [if_neg (by decide +kernel)]; exact ⟨rfl, rfl⟩))
    (fun os started H enc _ F => by rw [OpenClaim.pre_eq_preRow]; exact lifted os started H enc F)

theorem plain (f : FuncId) (fn : Func) (hf : Tryz.pinned.checked.prog.funcNamed "cantilever/cantileverlaw06.CheckNames" = some f) (hfn : Tryz.pinned.checked.prog.funcs[f]? = some fn) :
    false = Tryz.pinned.checked.prog.looks [] ∧ ∀ (j : Nat) t, fn.params[j]? = some t → Tryz.pinned.checked.prog.wantsStandIn t = false := by
  obtain rfl : f = 5 := Option.some.inj ((show Tryz.prog.funcNamed "cantilever/cantileverlaw06.CheckNames" = some 5 by kernel_rfl).symm.trans hf) |>.symm
  obtain rfl : fn = Tryz.f5 := (Option.some.inj (Tryz.func5.symm.trans hfn)).symm
  refine ⟨by kernel_rfl, fun j t ht => ?_⟩
  rw [Tryz.params5] at ht
  simp at ht

/-- The card. -/
theorem card : Rows.CheckNamesCardSaid :=
  Claim7.holds_tied_plain_at .later [] _ _ _ _ said (fun _ h => by cases h) (by kernel_rfl) (fun _ h => by cases h) checkNames_row_tie rfl ⟨rfl, rfl⟩ (by kernel_rfl) rfl plain (by kernel_rfl)
#print axioms card
end Go.Proofs.YtblnhcafobifgaaGreatDoor.checkNames

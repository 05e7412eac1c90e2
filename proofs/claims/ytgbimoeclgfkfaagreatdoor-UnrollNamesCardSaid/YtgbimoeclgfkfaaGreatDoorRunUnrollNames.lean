/-
  Of 'cantileverlaw11': the variables that the statement lists, as the abstract interpreter knows them; 'lives' and the chapter's examples, run by the kernel.
-/
import Derived.Test.YtgbimoeclgfkfaaGreatDoorRows
import Derived.Test.YtgbimoeclgfkfaaGreatDoorAbs31
import Derived.KernelRfl
set_option linter.unusedVariables false
namespace Go.Proofs.YtgbimoeclgfkfaaGreatDoor.runUnrollNames
open Go.RowKit Go.Abs

/-- 'ir.shapes', cell by cell. -/
def tbl0 : List AV := [.bool false, .bool false, .bool false, .bool false, .int .i64 (.ofNat 0), .bool true, .bool false, .bool false, .bool false, .int .i64 (.ofNat 1), 
    .bool true, .bool true, .bool true, .bool false, .int .i64 (.ofNat 0), .bool false, .bool true, .bool true, .bool false, .int .i64 (.ofNat 1), 
    .bool true, .bool true, .bool true, .bool false, .int .i64 (.ofNat 2), .bool true, .bool true, .bool true, .bool false, .int .i64 (.ofNat 1), 
    .bool true, .bool true, .bool true, .bool false, .int .i64 (.ofNat 1), .bool false, .bool false, .bool true, .bool false, .int .i64 (.ofNat 0), 
    .bool false, .bool false, .bool false, .bool false, .int .i64 (.ofNat 1), .bool false, .bool false, .bool false, .bool false, .int .i64 (.ofNat 1), 
    .bool false, .bool false, .bool false, .bool true, .int .i64 (.ofNat 0), .bool false, .bool false, .bool false, .bool true, .int .i64 (.ofNat 1), 
    .bool false, .bool false, .bool false, .bool false, .int .i64 (.ofNat 0), .bool false, .bool false, .bool false, .bool false, .int .i64 (.ofNat 0)]

def gl : Glob := fun g => if Nat.beq g 0 then some tbl0 else none

set_option maxRecDepth 100000

theorem follows : Tryz.prog.follows .mixedOrders = true := by kernel_rfl

theorem noNumAll : (Tryz.prog.funcs.toList.all fun fn => !(fn.name == "runtime.NumGoroutine")) = true := by kernel_rfl

theorem noNum : NoNum Tryz.prog := fun g fn h => by
  have h1 := List.all_eq_true.1 noNumAll fn (Array.mem_toList_iff.2 (Array.mem_of_getElem? h))
  simpa using h1

theorem laid_skip {P : Program} {W : World} {name : String} {d : DataW Unit} {rest : List (String × DataW Unit)} {ps : List MemPlace} (h : DataW.LaidVars P W ((name, d) :: rest) ps) : ∃ qs, DataW.LaidVars P W rest qs := by
  obtain ⟨_, _, _, _, _, q, _, _, _, _, hr, _⟩ := h
  exact ⟨q, hr⟩

theorem n0 : Tryz.prog.globalNamed "cantilever/ir.shapes" = some 0 := by kernel_rfl
theorem ty0 : (Tryz.prog.globals[0]?).map (·.type) = some 92 := by kernel_rfl
theorem av0 : avOf Tryz.prog 6 92 (Rows.laid_cantilever_ir_shapes (H := Unit)) = some tbl0 := by kernel_rfl

theorem globs {W : World} (h : laidMetH Tryz.prog [("cantilever/ir.shapes", Rows.laid_cantilever_ir_shapes)] W) : GlOK gl (snap0 W) := by
  have h' : laidMet Tryz.prog [("cantilever/ir.shapes", Rows.laid_cantilever_ir_shapes)] W := h
  obtain ⟨_, hv, _⟩ := id h'
  obtain ⟨m0, _⟩ := laid_glob n0 ty0 av0 hv
  intro g cs hg
  unfold gl at hg
  split at hg
  · rename_i e; have := Nat.eq_of_beq_eq_true e; subst this; simp at hg; subst hg; exact m0
  cases hg

theorem lives : saysTrue (frun Tryz.prog gl [] 100000 100 6 [] TH.empty) = true := by kernel_rfl
theorem knownLives : OrcSound Tryz.prog gl (tblO [(6, [])]) := known_true follows noNum tblO_nil rfl lives

theorem names : saysTrue (frun Tryz.prog gl [(6, [])] 100000 100 3 [] TH.empty) = true := by kernel_rfl
theorem known : OrcSound Tryz.prog gl (tblO [(3, []), (6, [])]) := known_true follows noNum knownLives rfl names
end Go.Proofs.YtgbimoeclgfkfaaGreatDoor.runUnrollNames

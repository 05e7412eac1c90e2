/-
  Of 'cantileverlaw07': the variable that the statements list, as the abstract interpreter knows it, and 'lives' and the chapter's examples, run by the kernel.
-/
import Derived.Test.YtdpdllaebdbddaaDoorRows
import Derived.Test.YtdpdllaebdbddaaDoorAbs30
import Derived.KernelRfl
set_option linter.unusedVariables false
namespace Go.Proofs.YtdpdllaebdbddaaDoor.Run
open Go.RowKit Go.Abs

def kind3 (b c : Bool) (n : Int) : List AV := [.bool b, .bool c, .int .i64 n]

/-- The table 'ast.shapes', cell by cell. -/
def shapes : List AV := kind3 false false 0 ++ (kind3 true false 0 ++ (kind3 false true 0 ++ (kind3 false false 1 ++ (kind3 false false 1 ++ repl 12 (kind3 false false 2)))))

def gl : Glob := fun g => if Nat.beq g 0 then some shapes else none

set_option maxRecDepth 100000

theorem follows : Tryd.prog.follows .mixedOrders = true := by kernel_rfl

theorem noNumAll : (Tryd.prog.funcs.toList.all fun fn => !(fn.name == "runtime.NumGoroutine")) = true := by kernel_rfl

theorem noNum : NoNum Tryd.prog := fun g fn h => by
  have h1 := List.all_eq_true.1 noNumAll fn (Array.mem_toList_iff.2 (Array.mem_of_getElem? h))
  simpa using h1

theorem gShapes : Tryd.prog.globalNamed "cantilever/ast.shapes" = some 0 := by kernel_rfl
theorem gShapesType : (Tryd.prog.globals[0]?).map (·.type) = some 68 := by kernel_rfl
theorem shapesAv : avOf Tryd.prog 5 68 (Rows.laid_cantilever_ast_shapes (H := Unit)) = some shapes := by kernel_rfl

theorem globs {W : World} (h : laidMetH Tryd.prog [("cantilever/ast.shapes", Rows.laid_cantilever_ast_shapes)] W) : GlOK gl (snap0 W) := by
  intro g cs hg
  unfold gl at hg
  split at hg <;> simp at hg
  subst hg; rename_i e
  have := Nat.eq_of_beq_eq_true e; subst this
  have h' : laidMet Tryd.prog [("cantilever/ast.shapes", Rows.laid_cantilever_ast_shapes)] W := h
  obtain ⟨ps, hv, _⟩ := h'
  exact (laid_glob gShapes gShapesType shapesAv hv).1

theorem lives : saysTrue (frun Tryd.prog gl [] 100000 100 6 [] TH.empty) = true := by kernel_rfl
theorem known6 : OrcSound Tryd.prog gl (tblO [(6, [])]) := known_true follows noNum tblO_nil rfl lives

theorem names : saysTrue (frun Tryd.prog gl [(6, [])] 100000 100 5 [] TH.empty) = true := by kernel_rfl
theorem known5 : OrcSound Tryd.prog gl (tblO [(5, []), (6, [])]) := known_true follows noNum known6 rfl names
end Go.Proofs.YtdpdllaebdbddaaDoor.Run

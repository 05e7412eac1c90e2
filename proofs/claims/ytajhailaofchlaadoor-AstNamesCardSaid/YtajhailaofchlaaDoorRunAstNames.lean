/-
  Of 'cantileverlaw03': the variables that the statement lists, as the abstract interpreter knows them; 'lives' and the chapter's examples, run by the kernel.
-/
import Derived.Test.YtajhailaofchlaaDoorRows
import Derived.Test.YtajhailaofchlaaDoorSh
import Derived.KernelRfl
set_option linter.unusedVariables false
namespace Go.Proofs.YtajhailaofchlaaDoor.runAstNames
open Go.RowKit Go.Abs

/-- 'ast.shapes', cell by cell. -/
def tbl0 : List AV := [.bool false, .bool false, .int .i64 (.ofNat 0), .bool true, .bool false, .int .i64 (.ofNat 0), .bool false, .bool true, .int .i64 (.ofNat 0), 
    .bool false, .bool false, .int .i64 (.ofNat 1), .bool false, .bool false, .int .i64 (.ofNat 1), .bool false, .bool false, .int .i64 (.ofNat 2), 
    .bool false, .bool false, .int .i64 (.ofNat 2), .bool false, .bool false, .int .i64 (.ofNat 2), .bool false, .bool false, .int .i64 (.ofNat 2), 
    .bool false, .bool false, .int .i64 (.ofNat 2), .bool false, .bool false, .int .i64 (.ofNat 2), .bool false, .bool false, .int .i64 (.ofNat 2), 
    .bool false, .bool false, .int .i64 (.ofNat 2), .bool false, .bool false, .int .i64 (.ofNat 2), .bool false, .bool false, .int .i64 (.ofNat 2), 
    .bool false, .bool false, .int .i64 (.ofNat 2), .bool false, .bool false, .int .i64 (.ofNat 2)]

/-- 'ast.forms', cell by cell. -/
def tbl1 : List AV := [.bool false, .bool false, .bool false, .int .i64 (.ofNat 0), .bool false, .bool false, .bool true, .bool false, .bool false, .int .i64 (.ofNat 1), 
    .bool false, .bool false, .bool true, .bool true, .bool true, .int .i64 (.ofNat 0), .bool false, .bool false, .bool false, .bool true, .bool true, 
    .int .i64 (.ofNat 1), .bool false, .bool false, .bool true, .bool true, .bool true, .int .i64 (.ofNat 2), .bool false, .bool false, .bool true, 
    .bool true, .bool true, .int .i64 (.ofNat 1), .bool false, .bool false, .bool true, .bool true, .bool true, .int .i64 (.ofNat 1), .bool false, 
    .bool false, .bool false, .bool false, .bool true, .int .i64 (.ofNat 0), .bool false, .bool false, .bool false, .bool false, .bool false, 
    .int .i64 (.ofNat 1), .bool false, .bool false, .bool false, .bool false, .bool false, .int .i64 (.ofNat 1), .bool false, .bool false, .bool false, 
    .bool false, .bool false, .int .i64 (.ofNat 1), .bool true, .bool true, .bool false, .bool false, .bool false, .int .i64 (.ofNat 1), .bool true, 
    .bool false]

def gl : Glob := fun g => if Nat.beq g 0 then some tbl0 else if Nat.beq g 1 then some tbl1 else none

set_option maxRecDepth 100000

theorem follows : Tryd.prog.follows .mixedOrders = true := by kernel_rfl

theorem noNumAll : (Tryd.prog.funcs.toList.all fun fn => !(fn.name == "runtime.NumGoroutine")) = true := by kernel_rfl

theorem noNum : NoNum Tryd.prog := fun g fn h => by
  have h1 := List.all_eq_true.1 noNumAll fn (Array.mem_toList_iff.2 (Array.mem_of_getElem? h))
  simpa using h1

theorem laid_skip {P : Program} {W : World} {name : String} {d : DataW Unit} {rest : List (String × DataW Unit)} {ps : List MemPlace} (h : DataW.LaidVars P W ((name, d) :: rest) ps) : ∃ qs, DataW.LaidVars P W rest qs := by
  obtain ⟨_, _, _, _, _, q, _, _, _, _, hr, _⟩ := h
  exact ⟨q, hr⟩

theorem n0 : Tryd.prog.globalNamed "cantilever/ast.shapes" = some 0 := by kernel_rfl
theorem ty0 : (Tryd.prog.globals[0]?).map (·.type) = some 92 := by kernel_rfl
theorem av0 : avOf Tryd.prog 6 92 (Rows.laid_cantilever_ast_shapes (H := Unit)) = some tbl0 := by kernel_rfl
theorem n1 : Tryd.prog.globalNamed "cantilever/ast.forms" = some 1 := by kernel_rfl
theorem ty1 : (Tryd.prog.globals[1]?).map (·.type) = some 95 := by kernel_rfl
theorem av1 : avOf Tryd.prog 6 95 (Rows.laid_cantilever_ast_forms (H := Unit)) = some tbl1 := by kernel_rfl

theorem globs {W : World} (h : laidMetH Tryd.prog [("cantilever/ast.shapes", Rows.laid_cantilever_ast_shapes), ("cantilever/ast.forms", Rows.laid_cantilever_ast_forms)] W) : GlOK gl (snap0 W) := by
  have h' : laidMet Tryd.prog [("cantilever/ast.shapes", Rows.laid_cantilever_ast_shapes), ("cantilever/ast.forms", Rows.laid_cantilever_ast_forms)] W := h
  obtain ⟨_, hv, _⟩ := id h'
  obtain ⟨m0, _⟩ := laid_glob n0 ty0 av0 hv
  have h' := laidMet.tail h'
  obtain ⟨_, hv, _⟩ := id h'
  obtain ⟨m1, _⟩ := laid_glob n1 ty1 av1 hv
  intro g cs hg
  unfold gl at hg
  split at hg
  · rename_i e; have := Nat.eq_of_beq_eq_true e; subst this; simp at hg; subst hg; exact m0
  split at hg
  · rename_i e; have := Nat.eq_of_beq_eq_true e; subst this; simp at hg; subst hg; exact m1
  cases hg

def isS (l : List (Nat × List AV)) : Nat → List AV → Bool := fun f args => Nat.beq f 64 || memA f args l
noncomputable def foS (l : List (Nat × List AV)) : FOrc := forcThen (fun f _ => Nat.beq f 64) (fsortO 64 84) (ftblO l)
def toS (l : List (Nat × List AV)) : Orc := orcIf (fun f _ => Nat.beq f 64) (sortO 64 84) (tblO l)
theorem simS (l : List (Nat × List AV)) : OrcSim (foS l) (toS l) := forcThen_sim (fsortO_sim 64 84) (ftblO_sim l)
theorem lives : saysTrue (frunG Tryd.prog gl (isS []) (foS []) 100000 100 8 [] TH.empty) = true := by kernel_rfl
theorem knownLives : OrcSound Tryd.prog gl (tblO [(8, [])]) := known_trueG follows noNum (simS []) (orcIf_sound shelf.sound tblO_nil) tblO_nil rfl lives

theorem names : saysTrue (frunG Tryd.prog gl (isS [(8, [])]) (foS [(8, [])]) 100000 100 3 [] TH.empty) = true := by kernel_rfl
theorem known : OrcSound Tryd.prog gl (tblO [(3, []), (8, [])]) := known_trueG follows noNum (simS [(8, [])]) (orcIf_sound shelf.sound knownLives) knownLives rfl names
end Go.Proofs.YtajhailaofchlaaDoor.runAstNames

/-
  NARROWER THAN 'FOR EVERY INPUT', by the rows' own cells (each row's printed sentence says how): CheckMay: laid · CheckLess: loops, laid · CheckNames: laid · CheckCalls: loops, laid.
  DERIVED. THE GIVEN ROWS OF THIS SEAT. 4 by the template 'for every input the law returns true; each argument reads behind the call as it read before'; 0 by the template 'total and deterministic' (their statements: YtblnhcafobifgaaGreatDoorTotals.lean).
  GIVEN WITH THE SEED: the statements are not yours to turn. If you find one false, say at which input.
  Laid BY PROGRAM, IN A SANDBOX (cutbox-rows.mjs): the forced cells as the released guide's own fill.sh prints them over the translation 0ed79020c11074d0… (all of the seat's roots in one cut). By AI agents, Wed Nov 11 2026. No macro, syntax, notation, axiom, sorry.
-/
import Derived.Test.YtblnhcafobifgaaGreatDoorChecked
import GoSem.Claim
import GoSem.ClaimJoined
import GoSem.ClaimMapViews
import Derived.JoinedTies
import Derived.KernelRfl
namespace Go.Proofs.YtblnhcafobifgaaGreatDoor
/- THE CELL 'sum', in the pinned program and in every row, IS THE sha256 OF THE DUMP (.gsa) THAT YtblnhcafobifgaaGreatDoorProg.lean LOADS. Nothing in Lean hashes anything: it is a label: what it is worth is what the hold of that sum in a sandbox is worth. -/
noncomputable def Tryz.pinned : Pinned := { name := "ytblnhcafobifgaagreatdoor", sum := "0ed79020c11074d07a170834d5be55f9bfc475f0ecc3aa6465ed118dfab2da6a", checked := Tryz.checked }
namespace Rows
def none {H : Type} : Left H := { results := [], args := [] }

/- WHAT THE LISTED PACKAGE-LEVEL VARIABLES READ AS WHEN THE CALL BEGINS. Each datum BY PROGRAM (the guide's laid-datum.mjs) off the statement by which the dump's own 'gosem.cut.vars' lays the variable. In a bare row this is a premise. The card (YtblnhcafobifgaaGreatDoorCards.lean) ties it to the program's text. -/
def laid_cantilever_ast_shapes {H : Type} : DataW H := .agg [.agg [.lit (.bool false), .lit (.bool false), .lit (.int .i64 0)], .agg [.lit (.bool true), .lit (.bool false), .lit (.int .i64 0)], .agg [.lit (.bool false), .lit (.bool true), .lit (.int .i64 0)], .agg [.lit (.bool false), .lit (.bool false), .lit (.int .i64 1)], .agg [.lit (.bool false), .lit (.bool false), .lit (.int .i64 1)], .agg [.lit (.bool false), .lit (.bool false), .lit (.int .i64 2)], .agg [.lit (.bool false), .lit (.bool false), .lit (.int .i64 2)], .agg [.lit (.bool false), .lit (.bool false), .lit (.int .i64 2)], .agg [.lit (.bool false), .lit (.bool false), .lit (.int .i64 2)], .agg [.lit (.bool false), .lit (.bool false), .lit (.int .i64 2)], .agg [.lit (.bool false), .lit (.bool false), .lit (.int .i64 2)], .agg [.lit (.bool false), .lit (.bool false), .lit (.int .i64 2)], .agg [.lit (.bool false), .lit (.bool false), .lit (.int .i64 2)], .agg [.lit (.bool false), .lit (.bool false), .lit (.int .i64 2)], .agg [.lit (.bool false), .lit (.bool false), .lit (.int .i64 2)], .agg [.lit (.bool false), .lit (.bool false), .lit (.int .i64 2)], .agg [.lit (.bool false), .lit (.bool false), .lit (.int .i64 2)]]
def laid_cantilever_ast_forms {H : Type} : DataW H := .agg [.agg [.lit (.bool false), .lit (.bool false), .lit (.bool false), .lit (.int .i64 0), .lit (.bool false), .lit (.bool false)], .agg [.lit (.bool true), .lit (.bool false), .lit (.bool false), .lit (.int .i64 1), .lit (.bool false), .lit (.bool false)], .agg [.lit (.bool true), .lit (.bool true), .lit (.bool true), .lit (.int .i64 0), .lit (.bool false), .lit (.bool false)], .agg [.lit (.bool false), .lit (.bool true), .lit (.bool true), .lit (.int .i64 1), .lit (.bool false), .lit (.bool false)], .agg [.lit (.bool true), .lit (.bool true), .lit (.bool true), .lit (.int .i64 2), .lit (.bool false), .lit (.bool false)], .agg [.lit (.bool true), .lit (.bool true), .lit (.bool true), .lit (.int .i64 1), .lit (.bool false), .lit (.bool false)], .agg [.lit (.bool true), .lit (.bool true), .lit (.bool true), .lit (.int .i64 1), .lit (.bool false), .lit (.bool false)], .agg [.lit (.bool false), .lit (.bool false), .lit (.bool true), .lit (.int .i64 0), .lit (.bool false), .lit (.bool false)], .agg [.lit (.bool false), .lit (.bool false), .lit (.bool false), .lit (.int .i64 1), .lit (.bool false), .lit (.bool false)], .agg [.lit (.bool false), .lit (.bool false), .lit (.bool false), .lit (.int .i64 1), .lit (.bool false), .lit (.bool false)], .agg [.lit (.bool false), .lit (.bool false), .lit (.bool false), .lit (.int .i64 1), .lit (.bool true), .lit (.bool true)], .agg [.lit (.bool false), .lit (.bool false), .lit (.bool false), .lit (.int .i64 1), .lit (.bool true), .lit (.bool false)]]
def laid_cantilever_check_may {H : Type} : DataW H := .agg [.agg [.lit (.bool false), .lit (.bool false), .lit (.bool false), .lit (.bool false), .lit (.bool false), .lit (.bool false), .lit (.bool false)], .agg [.lit (.bool false), .lit (.bool false), .lit (.bool false), .lit (.bool false), .lit (.bool false), .lit (.bool false), .lit (.bool false)], .agg [.lit (.bool false), .lit (.bool true), .lit (.bool true), .lit (.bool true), .lit (.bool false), .lit (.bool false), .lit (.bool true)], .agg [.lit (.bool false), .lit (.bool true), .lit (.bool true), .lit (.bool false), .lit (.bool true), .lit (.bool false), .lit (.bool true)], .agg [.lit (.bool false), .lit (.bool false), .lit (.bool true), .lit (.bool true), .lit (.bool true), .lit (.bool true), .lit (.bool true)], .agg [.lit (.bool false), .lit (.bool false), .lit (.bool true), .lit (.bool true), .lit (.bool true), .lit (.bool true), .lit (.bool true)], .agg [.lit (.bool false), .lit (.bool false), .lit (.bool true), .lit (.bool true), .lit (.bool true), .lit (.bool true), .lit (.bool true)], .agg [.lit (.bool false), .lit (.bool false), .lit (.bool false), .lit (.bool true), .lit (.bool true), .lit (.bool true), .lit (.bool true)]]

/-- 'cantileverlaw06.CheckMay': WHATEVER THE INPUT: true; the input reads as it did. -/
def checkMaySpec : ChangeSpec := { name := "checkMay", fn := fun _ => fun
  | [d1, d2, d3] => { results := [.lit (.bool true)], args := [d1, d2, d3] }
  | _ => none }
def checkMayRow : OpenClaim := { program := "ytblnhcafobifgaagreatdoor", sum := "0ed79020c11074d07a170834d5be55f9bfc475f0ecc3aa6465ed118dfab2da6a", func := "cantilever/cantileverlaw06.CheckMay", spec := "checkMay", unfollowed := true, recurses := true, named := ["cantilever/ast.shapes", "cantilever/ast.forms", "cantilever/check.may"], apart := false, laid := [("cantilever/ast.shapes", laid_cantilever_ast_shapes), ("cantilever/ast.forms", laid_cantilever_ast_forms), ("cantilever/check.may", laid_cantilever_check_may)] }
def CheckMaySaid : Prop := checkMayRow.holds Tryz.pinned (OpenSpec.ofChange checkMaySpec)

/-- ITS FALSE NEIGHBOUR: 'it returns false'. Refute it at one input. -/
def checkMayWrong : ChangeSpec := { name := "checkMay", fn := fun _ => fun
  | [d1, d2, d3] => { results := [.lit (.bool false)], args := [d1, d2, d3] }
  | _ => none }
def CheckMayWrongFalsely : Prop := checkMayRow.holds Tryz.pinned (OpenSpec.ofChange checkMayWrong)

/-- 'cantileverlaw06.CheckLess': WHATEVER THE INPUT: true; the input reads as it did. -/
def checkLessSpec : ChangeSpec := { name := "checkLess", fn := fun _ => fun
  | [d1, d2, d3] => { results := [.lit (.bool true)], args := [d1, d2, d3] }
  | _ => none }
def checkLessRow : OpenClaim := { program := "ytblnhcafobifgaagreatdoor", sum := "0ed79020c11074d07a170834d5be55f9bfc475f0ecc3aa6465ed118dfab2da6a", func := "cantilever/cantileverlaw06.CheckLess", spec := "checkLess", unfollowed := true, recurses := true, named := ["cantilever/ast.shapes", "cantilever/ast.forms", "cantilever/check.may"], loops := true, apart := false, laid := [("cantilever/ast.shapes", laid_cantilever_ast_shapes), ("cantilever/ast.forms", laid_cantilever_ast_forms), ("cantilever/check.may", laid_cantilever_check_may)] }
def CheckLessSaid : Prop := checkLessRow.holds Tryz.pinned (OpenSpec.ofChange checkLessSpec)

/-- ITS FALSE NEIGHBOUR: 'it returns false'. Refute it at one input. -/
def checkLessWrong : ChangeSpec := { name := "checkLess", fn := fun _ => fun
  | [d1, d2, d3] => { results := [.lit (.bool false)], args := [d1, d2, d3] }
  | _ => none }
def CheckLessWrongFalsely : Prop := checkLessRow.holds Tryz.pinned (OpenSpec.ofChange checkLessWrong)

/-- 'cantileverlaw06.CheckNames': WHATEVER THE INPUT: true; the input reads as it did. -/
def checkNamesSpec : ChangeSpec := { name := "checkNames", fn := fun _ => fun
  | [] => { results := [.lit (.bool true)], args := [] }
  | _ => none }
def checkNamesRow : OpenClaim := { program := "ytblnhcafobifgaagreatdoor", sum := "0ed79020c11074d07a170834d5be55f9bfc475f0ecc3aa6465ed118dfab2da6a", func := "cantilever/cantileverlaw06.CheckNames", spec := "checkNames", unfollowed := true, recurses := true, named := ["cantilever/ast.shapes", "cantilever/ast.forms", "cantilever/check.may"], apart := false, laid := [("cantilever/ast.shapes", laid_cantilever_ast_shapes), ("cantilever/ast.forms", laid_cantilever_ast_forms), ("cantilever/check.may", laid_cantilever_check_may)] }
def CheckNamesSaid : Prop := checkNamesRow.holds Tryz.pinned (OpenSpec.ofChange checkNamesSpec)

/-- ITS FALSE NEIGHBOUR: 'it returns false'. Refute it at one input. -/
def checkNamesWrong : ChangeSpec := { name := "checkNames", fn := fun _ => fun
  | [] => { results := [.lit (.bool false)], args := [] }
  | _ => none }
def CheckNamesWrongFalsely : Prop := checkNamesRow.holds Tryz.pinned (OpenSpec.ofChange checkNamesWrong)

/-- 'cantileverlaw06.CheckCalls': WHATEVER THE INPUT: true; the input reads as it did. -/
def checkCallsSpec : ChangeSpec := { name := "checkCalls", fn := fun _ => fun
  | [d1, d2, d3] => { results := [.lit (.bool true)], args := [d1, d2, d3] }
  | _ => none }
def checkCallsRow : OpenClaim := { program := "ytblnhcafobifgaagreatdoor", sum := "0ed79020c11074d07a170834d5be55f9bfc475f0ecc3aa6465ed118dfab2da6a", func := "cantilever/cantileverlaw06.CheckCalls", spec := "checkCalls", unfollowed := true, recurses := true, named := ["cantilever/ast.shapes", "cantilever/ast.forms", "cantilever/check.may"], loops := true, apart := false, laid := [("cantilever/ast.shapes", laid_cantilever_ast_shapes), ("cantilever/ast.forms", laid_cantilever_ast_forms), ("cantilever/check.may", laid_cantilever_check_may)] }
def CheckCallsSaid : Prop := checkCallsRow.holds Tryz.pinned (OpenSpec.ofChange checkCallsSpec)

/-- ITS FALSE NEIGHBOUR: 'it returns false'. Refute it at one input. -/
def checkCallsWrong : ChangeSpec := { name := "checkCalls", fn := fun _ => fun
  | [d1, d2, d3] => { results := [.lit (.bool false)], args := [d1, d2, d3] }
  | _ => none }
def CheckCallsWrongFalsely : Prop := checkCallsRow.holds Tryz.pinned (OpenSpec.ofChange checkCallsWrong)

/- THE SECOND FORM. 'bulk': how many values and letters a reading holds, each counted each time it is reached (what is shared counts as often as it is met; a slice's spare places count too). A statement '..UptoSaid' is the law's where the arguments, and the package variables that the reading takes, are together of bulk at most 1048576: NARROWER than '..Said'. Prove '..Said' where nothing that the law and all that it calls make is longer than what came in: it says more and counts as full. Else prove '..UptoSaid'. A law counts once. -/
mutual
def uptoBulk {H : Type} : DataW H → Nat
  | .lit (.string bytes) => bytes.length + 1
  | .lit _ => 1
  | .nil => 1
  | .ptr d => uptoBulk d + 1
  | .slice elems spare => uptoBulkAll elems + uptoBulkAll spare + 1
  | .agg parts => uptoBulkAll parts + 1
  | .iface _ d => uptoBulk d + 1
  | .map entries => uptoBulkEntries entries + 1
  | .held _ => 1
def uptoBulkAll {H : Type} : List (DataW H) → Nat
  | [] => 0
  | d :: r => uptoBulk d + uptoBulkAll r
def uptoBulkEntries {H : Type} : List (Lit × DataW H) → Nat
  | [] => 0
  | x :: r => uptoBulkEntry x + uptoBulkEntries r
def uptoBulkEntry {H : Type} : Lit × DataW H → Nat
  | (.string bytes, d) => bytes.length + uptoBulk d + 1
  | (_, d) => uptoBulk d + 1
 end
def uptoSmall : (H : Type) → List (DataW H) → Bool := fun _ ds => decide (uptoBulkAll ds ≤ 1048576)
def OpenSpec.upto (s : _root_.Go.ChangeSpec) : _root_.Go.OpenSpec := { _root_.Go.OpenSpec.ofChange s with cond := some uptoSmall }

/-- 'cantileverlaw06.CheckMay', WHERE WHAT IT READS IS OF BULK AT MOST 1048576: true; the input reads as it did. -/
def checkMayUptoRow : OpenClaim := { program := "ytblnhcafobifgaagreatdoor", sum := "0ed79020c11074d07a170834d5be55f9bfc475f0ecc3aa6465ed118dfab2da6a", func := "cantilever/cantileverlaw06.CheckMay", spec := "checkMay", unfollowed := true, recurses := true, named := ["cantilever/ast.shapes", "cantilever/ast.forms", "cantilever/check.may"], apart := false, laid := [("cantilever/ast.shapes", laid_cantilever_ast_shapes), ("cantilever/ast.forms", laid_cantilever_ast_forms), ("cantilever/check.may", laid_cantilever_check_may)], narrowed := true }
def CheckMayUptoSaid : Prop := checkMayUptoRow.holds Tryz.pinned (OpenSpec.upto checkMaySpec)

/-- 'cantileverlaw06.CheckLess', WHERE WHAT IT READS IS OF BULK AT MOST 1048576: true; the input reads as it did. -/
def checkLessUptoRow : OpenClaim := { program := "ytblnhcafobifgaagreatdoor", sum := "0ed79020c11074d07a170834d5be55f9bfc475f0ecc3aa6465ed118dfab2da6a", func := "cantilever/cantileverlaw06.CheckLess", spec := "checkLess", unfollowed := true, recurses := true, named := ["cantilever/ast.shapes", "cantilever/ast.forms", "cantilever/check.may"], loops := true, apart := false, laid := [("cantilever/ast.shapes", laid_cantilever_ast_shapes), ("cantilever/ast.forms", laid_cantilever_ast_forms), ("cantilever/check.may", laid_cantilever_check_may)], narrowed := true }
def CheckLessUptoSaid : Prop := checkLessUptoRow.holds Tryz.pinned (OpenSpec.upto checkLessSpec)

/-- 'cantileverlaw06.CheckNames', WHERE WHAT IT READS IS OF BULK AT MOST 1048576: true; the input reads as it did. -/
def checkNamesUptoRow : OpenClaim := { program := "ytblnhcafobifgaagreatdoor", sum := "0ed79020c11074d07a170834d5be55f9bfc475f0ecc3aa6465ed118dfab2da6a", func := "cantilever/cantileverlaw06.CheckNames", spec := "checkNames", unfollowed := true, recurses := true, named := ["cantilever/ast.shapes", "cantilever/ast.forms", "cantilever/check.may"], apart := false, laid := [("cantilever/ast.shapes", laid_cantilever_ast_shapes), ("cantilever/ast.forms", laid_cantilever_ast_forms), ("cantilever/check.may", laid_cantilever_check_may)], narrowed := true }
def CheckNamesUptoSaid : Prop := checkNamesUptoRow.holds Tryz.pinned (OpenSpec.upto checkNamesSpec)

/-- 'cantileverlaw06.CheckCalls', WHERE WHAT IT READS IS OF BULK AT MOST 1048576: true; the input reads as it did. -/
def checkCallsUptoRow : OpenClaim := { program := "ytblnhcafobifgaagreatdoor", sum := "0ed79020c11074d07a170834d5be55f9bfc475f0ecc3aa6465ed118dfab2da6a", func := "cantilever/cantileverlaw06.CheckCalls", spec := "checkCalls", unfollowed := true, recurses := true, named := ["cantilever/ast.shapes", "cantilever/ast.forms", "cantilever/check.may"], loops := true, apart := false, laid := [("cantilever/ast.shapes", laid_cantilever_ast_shapes), ("cantilever/ast.forms", laid_cantilever_ast_forms), ("cantilever/check.may", laid_cantilever_check_may)], narrowed := true }
def CheckCallsUptoSaid : Prop := checkCallsUptoRow.holds Tryz.pinned (OpenSpec.upto checkCallsSpec)

end Rows
end Go.Proofs.YtblnhcafobifgaaGreatDoor

/-
  NARROWER THAN 'FOR EVERY INPUT', by the rows' own cells (each row's printed sentence says how): ValueAlgebra: laid · ValueDo: laid · ValueNames: laid.
  DERIVED. THE GIVEN ROWS OF THIS SEAT. 3 by the template 'for every input the law returns true; each argument reads behind the call as it read before'; 0 by the template 'total and deterministic' (their statements: YtdpdllaebdbddaaDoorTotals.lean).
  GIVEN WITH THE SEED: the statements are not yours to turn. If you find one false, say at which input.
  Laid BY PROGRAM, IN A SANDBOX (cutbox-rows.mjs): the forced cells as the released guide's own fill.sh prints them over the translation 2933c9716cccfee3… (all of the seat's roots in one cut). By AI agents, Wed Nov 11 2026. No macro, syntax, notation, axiom, sorry.
-/
import Derived.Test.YtdpdllaebdbddaaDoorChecked
import GoSem.Claim
import GoSem.ClaimJoined
import GoSem.ClaimMapViews
import Derived.JoinedTies
import Derived.KernelRfl
namespace Go.Proofs.YtdpdllaebdbddaaDoor
/- THE CELL 'sum', in the pinned program and in every row, IS THE sha256 OF THE DUMP (.gsa) THAT YtdpdllaebdbddaaDoorProg.lean LOADS. Nothing in Lean hashes anything: it is a label: what it is worth is what the hold of that sum in a sandbox is worth. -/
noncomputable def Tryd.pinned : Pinned := { name := "ytdpdllaebdbddaadoor", sum := "2933c9716cccfee37e68ef440e1e3adb657c80e52bb0d1944f39add4a581f89c", checked := Tryd.checked }
namespace Rows
def none {H : Type} : Left H := { results := [], args := [] }

/- WHAT THE LISTED PACKAGE-LEVEL VARIABLES READ AS WHEN THE CALL BEGINS. Each datum BY PROGRAM (the guide's laid-datum.mjs) off the statement by which the dump's own 'gosem.cut.vars' lays the variable. In a bare row this is a premise. The card (YtdpdllaebdbddaaDoorCards.lean) ties it to the program's text. -/
def laid_cantilever_ast_shapes {H : Type} : DataW H := .agg [.agg [.lit (.bool false), .lit (.bool false), .lit (.int .i64 0)], .agg [.lit (.bool true), .lit (.bool false), .lit (.int .i64 0)], .agg [.lit (.bool false), .lit (.bool true), .lit (.int .i64 0)], .agg [.lit (.bool false), .lit (.bool false), .lit (.int .i64 1)], .agg [.lit (.bool false), .lit (.bool false), .lit (.int .i64 1)], .agg [.lit (.bool false), .lit (.bool false), .lit (.int .i64 2)], .agg [.lit (.bool false), .lit (.bool false), .lit (.int .i64 2)], .agg [.lit (.bool false), .lit (.bool false), .lit (.int .i64 2)], .agg [.lit (.bool false), .lit (.bool false), .lit (.int .i64 2)], .agg [.lit (.bool false), .lit (.bool false), .lit (.int .i64 2)], .agg [.lit (.bool false), .lit (.bool false), .lit (.int .i64 2)], .agg [.lit (.bool false), .lit (.bool false), .lit (.int .i64 2)], .agg [.lit (.bool false), .lit (.bool false), .lit (.int .i64 2)], .agg [.lit (.bool false), .lit (.bool false), .lit (.int .i64 2)], .agg [.lit (.bool false), .lit (.bool false), .lit (.int .i64 2)], .agg [.lit (.bool false), .lit (.bool false), .lit (.int .i64 2)], .agg [.lit (.bool false), .lit (.bool false), .lit (.int .i64 2)]]

/-- 'cantileverlaw07.ValueAlgebra': WHATEVER THE INPUT: true; the input reads as it did. -/
def valueAlgebraSpec : ChangeSpec := { name := "valueAlgebra", fn := fun _ => fun
  | [d1, d2, d3] => { results := [.lit (.bool true)], args := [d1, d2, d3] }
  | _ => none }
def valueAlgebraRow : OpenClaim := { program := "ytdpdllaebdbddaadoor", sum := "2933c9716cccfee37e68ef440e1e3adb657c80e52bb0d1944f39add4a581f89c", func := "cantilever/cantileverlaw07.ValueAlgebra", spec := "valueAlgebra", unfollowed := true, recurses := true, named := ["cantilever/ast.shapes"], apart := false, laid := [("cantilever/ast.shapes", laid_cantilever_ast_shapes)] }
def ValueAlgebraSaid : Prop := valueAlgebraRow.holds Tryd.pinned (OpenSpec.ofChange valueAlgebraSpec)

/-- ITS FALSE NEIGHBOUR: 'it returns false'. Refute it at one input. -/
def valueAlgebraWrong : ChangeSpec := { name := "valueAlgebra", fn := fun _ => fun
  | [d1, d2, d3] => { results := [.lit (.bool false)], args := [d1, d2, d3] }
  | _ => none }
def ValueAlgebraWrongFalsely : Prop := valueAlgebraRow.holds Tryd.pinned (OpenSpec.ofChange valueAlgebraWrong)

/-- 'cantileverlaw07.ValueDo': WHATEVER THE INPUT: true; the input reads as it did. -/
def valueDoSpec : ChangeSpec := { name := "valueDo", fn := fun _ => fun
  | [d1, d2] => { results := [.lit (.bool true)], args := [d1, d2] }
  | _ => none }
def valueDoRow : OpenClaim := { program := "ytdpdllaebdbddaadoor", sum := "2933c9716cccfee37e68ef440e1e3adb657c80e52bb0d1944f39add4a581f89c", func := "cantilever/cantileverlaw07.ValueDo", spec := "valueDo", unfollowed := true, recurses := true, named := ["cantilever/ast.shapes"], apart := false, laid := [("cantilever/ast.shapes", laid_cantilever_ast_shapes)] }
def ValueDoSaid : Prop := valueDoRow.holds Tryd.pinned (OpenSpec.ofChange valueDoSpec)

/-- ITS FALSE NEIGHBOUR: 'it returns false'. Refute it at one input. -/
def valueDoWrong : ChangeSpec := { name := "valueDo", fn := fun _ => fun
  | [d1, d2] => { results := [.lit (.bool false)], args := [d1, d2] }
  | _ => none }
def ValueDoWrongFalsely : Prop := valueDoRow.holds Tryd.pinned (OpenSpec.ofChange valueDoWrong)

/-- 'cantileverlaw07.ValueNames': WHATEVER THE INPUT: true; the input reads as it did. -/
def valueNamesSpec : ChangeSpec := { name := "valueNames", fn := fun _ => fun
  | [] => { results := [.lit (.bool true)], args := [] }
  | _ => none }
def valueNamesRow : OpenClaim := { program := "ytdpdllaebdbddaadoor", sum := "2933c9716cccfee37e68ef440e1e3adb657c80e52bb0d1944f39add4a581f89c", func := "cantilever/cantileverlaw07.ValueNames", spec := "valueNames", unfollowed := true, recurses := true, named := ["cantilever/ast.shapes"], apart := false, laid := [("cantilever/ast.shapes", laid_cantilever_ast_shapes)] }
def ValueNamesSaid : Prop := valueNamesRow.holds Tryd.pinned (OpenSpec.ofChange valueNamesSpec)

/-- ITS FALSE NEIGHBOUR: 'it returns false'. Refute it at one input. -/
def valueNamesWrong : ChangeSpec := { name := "valueNames", fn := fun _ => fun
  | [] => { results := [.lit (.bool false)], args := [] }
  | _ => none }
def ValueNamesWrongFalsely : Prop := valueNamesRow.holds Tryd.pinned (OpenSpec.ofChange valueNamesWrong)

/- THE SECOND FORM. 'bulk': how many values and letters a reading holds, each counted each time it is reached (what is shared counts as often as it is met; a slice's spare places count too). A statement '..UptoSaid' is the law's where the arguments, and the package variables that the reading takes, are together of bulk at most 1048576: NARROWER than '..Said'. Prove '..Said' where nothing that the law and all that it calls make is longer than what came in: it says more and counts as full. Else prove '..UptoSaid'. A law counts once. -/
mutual
def uptoBulk {H : Type} : DataW H → Nat
  | .lit (.string bytes) => bytes.length + 1
  | .lit _ => 1
  | .nil => 1
  | .ptr d => uptoBulk d + 1
  | .slice elems spare => uptoBulkAll elems + uptoBulkAll spare + 1
  | .agg parts => uptoBulkAll parts + 1
  | .iface _ d => uptoBulk d + 1
  | .map entries => uptoBulkEntries entries + 1
  | .held _ => 1
def uptoBulkAll {H : Type} : List (DataW H) → Nat
  | [] => 0
  | d :: r => uptoBulk d + uptoBulkAll r
def uptoBulkEntries {H : Type} : List (Lit × DataW H) → Nat
  | [] => 0
  | x :: r => uptoBulkEntry x + uptoBulkEntries r
def uptoBulkEntry {H : Type} : Lit × DataW H → Nat
  | (.string bytes, d) => bytes.length + uptoBulk d + 1
  | (_, d) => uptoBulk d + 1
 end
def uptoSmall : (H : Type) → List (DataW H) → Bool := fun _ ds => decide (uptoBulkAll ds ≤ 1048576)
def OpenSpec.upto (s : _root_.Go.ChangeSpec) : _root_.Go.OpenSpec := { _root_.Go.OpenSpec.ofChange s with cond := some uptoSmall }

/-- 'cantileverlaw07.ValueAlgebra', WHERE WHAT IT READS IS OF BULK AT MOST 1048576: true; the input reads as it did. -/
def valueAlgebraUptoRow : OpenClaim := { program := "ytdpdllaebdbddaadoor", sum := "2933c9716cccfee37e68ef440e1e3adb657c80e52bb0d1944f39add4a581f89c", func := "cantilever/cantileverlaw07.ValueAlgebra", spec := "valueAlgebra", unfollowed := true, recurses := true, named := ["cantilever/ast.shapes"], apart := false, laid := [("cantilever/ast.shapes", laid_cantilever_ast_shapes)], narrowed := true }
def ValueAlgebraUptoSaid : Prop := valueAlgebraUptoRow.holds Tryd.pinned (OpenSpec.upto valueAlgebraSpec)

/-- 'cantileverlaw07.ValueDo', WHERE WHAT IT READS IS OF BULK AT MOST 1048576: true; the input reads as it did. -/
def valueDoUptoRow : OpenClaim := { program := "ytdpdllaebdbddaadoor", sum := "2933c9716cccfee37e68ef440e1e3adb657c80e52bb0d1944f39add4a581f89c", func := "cantilever/cantileverlaw07.ValueDo", spec := "valueDo", unfollowed := true, recurses := true, named := ["cantilever/ast.shapes"], apart := false, laid := [("cantilever/ast.shapes", laid_cantilever_ast_shapes)], narrowed := true }
def ValueDoUptoSaid : Prop := valueDoUptoRow.holds Tryd.pinned (OpenSpec.upto valueDoSpec)

/-- 'cantileverlaw07.ValueNames', WHERE WHAT IT READS IS OF BULK AT MOST 1048576: true; the input reads as it did. -/
def valueNamesUptoRow : OpenClaim := { program := "ytdpdllaebdbddaadoor", sum := "2933c9716cccfee37e68ef440e1e3adb657c80e52bb0d1944f39add4a581f89c", func := "cantilever/cantileverlaw07.ValueNames", spec := "valueNames", unfollowed := true, recurses := true, named := ["cantilever/ast.shapes"], apart := false, laid := [("cantilever/ast.shapes", laid_cantilever_ast_shapes)], narrowed := true }
def ValueNamesUptoSaid : Prop := valueNamesUptoRow.holds Tryd.pinned (OpenSpec.upto valueNamesSpec)

end Rows
end Go.Proofs.YtdpdllaebdbddaaDoor

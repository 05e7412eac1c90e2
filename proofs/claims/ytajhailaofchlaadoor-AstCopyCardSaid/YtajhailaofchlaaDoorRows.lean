/-
  NARROWER THAN 'FOR EVERY INPUT', by the rows' own cells (each row's printed sentence says how): AstNames: laid · AstChecks: loops, laid · AstCalls: loops, laid · AstCopy: loops, laid.
  DERIVED. THE GIVEN ROWS OF THIS SEAT. 4 by the template 'for every input the law returns true; each argument reads behind the call as it read before'; 0 by the template 'total and deterministic' (their statements: YtajhailaofchlaaDoorTotals.lean).
  GIVEN WITH THE SEED: the statements are not yours to turn. If you find one false, say at which input.
  Laid BY PROGRAM, IN A SANDBOX (cutbox-rows.mjs): the forced cells as the released guide's own fill.sh prints them over the translation 86bbcc8d38a67906… (all of the seat's roots in one cut). By AI agents, Wed Nov 11 2026. No macro, syntax, notation, axiom, sorry.
-/
import Derived.Test.YtajhailaofchlaaDoorChecked
import GoSem.Claim
import GoSem.ClaimJoined
import GoSem.ClaimMapViews
import Derived.JoinedTies
import Derived.KernelRfl
namespace Go.Proofs.YtajhailaofchlaaDoor
/- THE CELL 'sum', in the pinned program and in every row, IS THE sha256 OF THE DUMP (.gsa) THAT YtajhailaofchlaaDoorProg.lean LOADS. Nothing in Lean hashes anything: it is a label: what it is worth is what the hold of that sum in a sandbox is worth. -/
noncomputable def Tryd.pinned : Pinned := { name := "ytajhailaofchlaadoor", sum := "86bbcc8d38a67906835733aabbc47fd5f6fb812699d2de5abfbfde16e74bf6bc", checked := Tryd.checked }
namespace Rows
def none {H : Type} : Left H := { results := [], args := [] }

/- WHAT THE LISTED PACKAGE-LEVEL VARIABLES READ AS WHEN THE CALL BEGINS. Each datum BY PROGRAM (the guide's laid-datum.mjs) off the statement by which the dump's own 'gosem.cut.vars' lays the variable. In a bare row this is a premise. The card (YtajhailaofchlaaDoorCards.lean) ties it to the program's text. -/
def laid_cantilever_ast_shapes {H : Type} : DataW H := .agg [.agg [.lit (.bool false), .lit (.bool false), .lit (.int .i64 0)], .agg [.lit (.bool true), .lit (.bool false), .lit (.int .i64 0)], .agg [.lit (.bool false), .lit (.bool true), .lit (.int .i64 0)], .agg [.lit (.bool false), .lit (.bool false), .lit (.int .i64 1)], .agg [.lit (.bool false), .lit (.bool false), .lit (.int .i64 1)], .agg [.lit (.bool false), .lit (.bool false), .lit (.int .i64 2)], .agg [.lit (.bool false), .lit (.bool false), .lit (.int .i64 2)], .agg [.lit (.bool false), .lit (.bool false), .lit (.int .i64 2)], .agg [.lit (.bool false), .lit (.bool false), .lit (.int .i64 2)], .agg [.lit (.bool false), .lit (.bool false), .lit (.int .i64 2)], .agg [.lit (.bool false), .lit (.bool false), .lit (.int .i64 2)], .agg [.lit (.bool false), .lit (.bool false), .lit (.int .i64 2)], .agg [.lit (.bool false), .lit (.bool false), .lit (.int .i64 2)], .agg [.lit (.bool false), .lit (.bool false), .lit (.int .i64 2)], .agg [.lit (.bool false), .lit (.bool false), .lit (.int .i64 2)], .agg [.lit (.bool false), .lit (.bool false), .lit (.int .i64 2)], .agg [.lit (.bool false), .lit (.bool false), .lit (.int .i64 2)]]
def laid_cantilever_ast_forms {H : Type} : DataW H := .agg [.agg [.lit (.bool false), .lit (.bool false), .lit (.bool false), .lit (.int .i64 0), .lit (.bool false), .lit (.bool false)], .agg [.lit (.bool true), .lit (.bool false), .lit (.bool false), .lit (.int .i64 1), .lit (.bool false), .lit (.bool false)], .agg [.lit (.bool true), .lit (.bool true), .lit (.bool true), .lit (.int .i64 0), .lit (.bool false), .lit (.bool false)], .agg [.lit (.bool false), .lit (.bool true), .lit (.bool true), .lit (.int .i64 1), .lit (.bool false), .lit (.bool false)], .agg [.lit (.bool true), .lit (.bool true), .lit (.bool true), .lit (.int .i64 2), .lit (.bool false), .lit (.bool false)], .agg [.lit (.bool true), .lit (.bool true), .lit (.bool true), .lit (.int .i64 1), .lit (.bool false), .lit (.bool false)], .agg [.lit (.bool true), .lit (.bool true), .lit (.bool true), .lit (.int .i64 1), .lit (.bool false), .lit (.bool false)], .agg [.lit (.bool false), .lit (.bool false), .lit (.bool true), .lit (.int .i64 0), .lit (.bool false), .lit (.bool false)], .agg [.lit (.bool false), .lit (.bool false), .lit (.bool false), .lit (.int .i64 1), .lit (.bool false), .lit (.bool false)], .agg [.lit (.bool false), .lit (.bool false), .lit (.bool false), .lit (.int .i64 1), .lit (.bool false), .lit (.bool false)], .agg [.lit (.bool false), .lit (.bool false), .lit (.bool false), .lit (.int .i64 1), .lit (.bool true), .lit (.bool true)], .agg [.lit (.bool false), .lit (.bool false), .lit (.bool false), .lit (.int .i64 1), .lit (.bool true), .lit (.bool false)]]

/-- 'cantileverlaw03.AstNames': WHATEVER THE INPUT: true; the input reads as it did. -/
def astNamesSpec : ChangeSpec := { name := "astNames", fn := fun _ => fun
  | [] => { results := [.lit (.bool true)], args := [] }
  | _ => none }
def astNamesRow : OpenClaim := { program := "ytajhailaofchlaadoor", sum := "86bbcc8d38a67906835733aabbc47fd5f6fb812699d2de5abfbfde16e74bf6bc", func := "cantilever/cantileverlaw03.AstNames", spec := "astNames", unfollowed := true, recurses := true, named := ["cantilever/ast.shapes", "cantilever/ast.forms"], apart := false, laid := [("cantilever/ast.shapes", laid_cantilever_ast_shapes), ("cantilever/ast.forms", laid_cantilever_ast_forms)] }
def AstNamesSaid : Prop := astNamesRow.holds Tryd.pinned (OpenSpec.ofChange astNamesSpec)

/-- ITS FALSE NEIGHBOUR: 'it returns false'. Refute it at one input. -/
def astNamesWrong : ChangeSpec := { name := "astNames", fn := fun _ => fun
  | [] => { results := [.lit (.bool false)], args := [] }
  | _ => none }
def AstNamesWrongFalsely : Prop := astNamesRow.holds Tryd.pinned (OpenSpec.ofChange astNamesWrong)

/-- 'cantileverlaw03.AstChecks': WHATEVER THE INPUT: true; the input reads as it did. -/
def astChecksSpec : ChangeSpec := { name := "astChecks", fn := fun _ => fun
  | [d1, d2] => { results := [.lit (.bool true)], args := [d1, d2] }
  | _ => none }
def astChecksRow : OpenClaim := { program := "ytajhailaofchlaadoor", sum := "86bbcc8d38a67906835733aabbc47fd5f6fb812699d2de5abfbfde16e74bf6bc", func := "cantilever/cantileverlaw03.AstChecks", spec := "astChecks", unfollowed := true, recurses := true, named := ["cantilever/ast.shapes", "cantilever/ast.forms"], loops := true, apart := false, laid := [("cantilever/ast.shapes", laid_cantilever_ast_shapes), ("cantilever/ast.forms", laid_cantilever_ast_forms)] }
def AstChecksSaid : Prop := astChecksRow.holds Tryd.pinned (OpenSpec.ofChange astChecksSpec)

/-- ITS FALSE NEIGHBOUR: 'it returns false'. Refute it at one input. -/
def astChecksWrong : ChangeSpec := { name := "astChecks", fn := fun _ => fun
  | [d1, d2] => { results := [.lit (.bool false)], args := [d1, d2] }
  | _ => none }
def AstChecksWrongFalsely : Prop := astChecksRow.holds Tryd.pinned (OpenSpec.ofChange astChecksWrong)

/-- 'cantileverlaw03.AstCalls': WHATEVER THE INPUT: true; the input reads as it did. -/
def astCallsSpec : ChangeSpec := { name := "astCalls", fn := fun _ => fun
  | [d1, d2, d3, d4] => { results := [.lit (.bool true)], args := [d1, d2, d3, d4] }
  | _ => none }
def astCallsRow : OpenClaim := { program := "ytajhailaofchlaadoor", sum := "86bbcc8d38a67906835733aabbc47fd5f6fb812699d2de5abfbfde16e74bf6bc", func := "cantilever/cantileverlaw03.AstCalls", spec := "astCalls", unfollowed := true, recurses := true, named := ["cantilever/ast.shapes", "cantilever/ast.forms"], loops := true, apart := false, laid := [("cantilever/ast.shapes", laid_cantilever_ast_shapes), ("cantilever/ast.forms", laid_cantilever_ast_forms)] }
def AstCallsSaid : Prop := astCallsRow.holds Tryd.pinned (OpenSpec.ofChange astCallsSpec)

/-- ITS FALSE NEIGHBOUR: 'it returns false'. Refute it at one input. -/
def astCallsWrong : ChangeSpec := { name := "astCalls", fn := fun _ => fun
  | [d1, d2, d3, d4] => { results := [.lit (.bool false)], args := [d1, d2, d3, d4] }
  | _ => none }
def AstCallsWrongFalsely : Prop := astCallsRow.holds Tryd.pinned (OpenSpec.ofChange astCallsWrong)

/-- 'cantileverlaw03.AstCopy': WHATEVER THE INPUT: true; the input reads as it did. -/
def astCopySpec : ChangeSpec := { name := "astCopy", fn := fun _ => fun
  | [d] => { results := [.lit (.bool true)], args := [d] }
  | _ => none }
def astCopyRow : OpenClaim := { program := "ytajhailaofchlaadoor", sum := "86bbcc8d38a67906835733aabbc47fd5f6fb812699d2de5abfbfde16e74bf6bc", func := "cantilever/cantileverlaw03.AstCopy", spec := "astCopy", unfollowed := true, recurses := true, named := ["cantilever/ast.shapes", "cantilever/ast.forms"], loops := true, apart := false, laid := [("cantilever/ast.shapes", laid_cantilever_ast_shapes), ("cantilever/ast.forms", laid_cantilever_ast_forms)] }
def AstCopySaid : Prop := astCopyRow.holds Tryd.pinned (OpenSpec.ofChange astCopySpec)

/-- ITS FALSE NEIGHBOUR: 'it returns false'. Refute it at one input. -/
def astCopyWrong : ChangeSpec := { name := "astCopy", fn := fun _ => fun
  | [d] => { results := [.lit (.bool false)], args := [d] }
  | _ => none }
def AstCopyWrongFalsely : Prop := astCopyRow.holds Tryd.pinned (OpenSpec.ofChange astCopyWrong)

/- THE SECOND FORM. 'bulk': how many values and letters a reading holds, each counted each time it is reached (what is shared counts as often as it is met; a slice's spare places count too). A statement '..UptoSaid' is the law's where the arguments, and the package variables that the reading takes, are together of bulk at most 1048576: NARROWER than '..Said'. Prove '..Said' where nothing that the law and all that it calls make is longer than what came in: it says more and counts as full. Else prove '..UptoSaid'. A law counts once. -/
mutual
def uptoBulk {H : Type} : DataW H → Nat
  | .lit (.string bytes) => bytes.length + 1
  | .lit _ => 1
  | .nil => 1
  | .ptr d => uptoBulk d + 1
  | .slice elems spare => uptoBulkAll elems + uptoBulkAll spare + 1
  | .agg parts => uptoBulkAll parts + 1
  | .iface _ d => uptoBulk d + 1
  | .map entries => uptoBulkEntries entries + 1
  | .held _ => 1
def uptoBulkAll {H : Type} : List (DataW H) → Nat
  | [] => 0
  | d :: r => uptoBulk d + uptoBulkAll r
def uptoBulkEntries {H : Type} : List (Lit × DataW H) → Nat
  | [] => 0
  | x :: r => uptoBulkEntry x + uptoBulkEntries r
def uptoBulkEntry {H : Type} : Lit × DataW H → Nat
  | (.string bytes, d) => bytes.length + uptoBulk d + 1
  | (_, d) => uptoBulk d + 1
 end
def uptoSmall : (H : Type) → List (DataW H) → Bool := fun _ ds => decide (uptoBulkAll ds ≤ 1048576)
def OpenSpec.upto (s : _root_.Go.ChangeSpec) : _root_.Go.OpenSpec := { _root_.Go.OpenSpec.ofChange s with cond := some uptoSmall }

/-- 'cantileverlaw03.AstNames', WHERE WHAT IT READS IS OF BULK AT MOST 1048576: true; the input reads as it did. -/
def astNamesUptoRow : OpenClaim := { program := "ytajhailaofchlaadoor", sum := "86bbcc8d38a67906835733aabbc47fd5f6fb812699d2de5abfbfde16e74bf6bc", func := "cantilever/cantileverlaw03.AstNames", spec := "astNames", unfollowed := true, recurses := true, named := ["cantilever/ast.shapes", "cantilever/ast.forms"], apart := false, laid := [("cantilever/ast.shapes", laid_cantilever_ast_shapes), ("cantilever/ast.forms", laid_cantilever_ast_forms)], narrowed := true }
def AstNamesUptoSaid : Prop := astNamesUptoRow.holds Tryd.pinned (OpenSpec.upto astNamesSpec)

/-- 'cantileverlaw03.AstChecks', WHERE WHAT IT READS IS OF BULK AT MOST 1048576: true; the input reads as it did. -/
def astChecksUptoRow : OpenClaim := { program := "ytajhailaofchlaadoor", sum := "86bbcc8d38a67906835733aabbc47fd5f6fb812699d2de5abfbfde16e74bf6bc", func := "cantilever/cantileverlaw03.AstChecks", spec := "astChecks", unfollowed := true, recurses := true, named := ["cantilever/ast.shapes", "cantilever/ast.forms"], loops := true, apart := false, laid := [("cantilever/ast.shapes", laid_cantilever_ast_shapes), ("cantilever/ast.forms", laid_cantilever_ast_forms)], narrowed := true }
def AstChecksUptoSaid : Prop := astChecksUptoRow.holds Tryd.pinned (OpenSpec.upto astChecksSpec)

/-- 'cantileverlaw03.AstCalls', WHERE WHAT IT READS IS OF BULK AT MOST 1048576: true; the input reads as it did. -/
def astCallsUptoRow : OpenClaim := { program := "ytajhailaofchlaadoor", sum := "86bbcc8d38a67906835733aabbc47fd5f6fb812699d2de5abfbfde16e74bf6bc", func := "cantilever/cantileverlaw03.AstCalls", spec := "astCalls", unfollowed := true, recurses := true, named := ["cantilever/ast.shapes", "cantilever/ast.forms"], loops := true, apart := false, laid := [("cantilever/ast.shapes", laid_cantilever_ast_shapes), ("cantilever/ast.forms", laid_cantilever_ast_forms)], narrowed := true }
def AstCallsUptoSaid : Prop := astCallsUptoRow.holds Tryd.pinned (OpenSpec.upto astCallsSpec)

/-- 'cantileverlaw03.AstCopy', WHERE WHAT IT READS IS OF BULK AT MOST 1048576: true; the input reads as it did. -/
def astCopyUptoRow : OpenClaim := { program := "ytajhailaofchlaadoor", sum := "86bbcc8d38a67906835733aabbc47fd5f6fb812699d2de5abfbfde16e74bf6bc", func := "cantilever/cantileverlaw03.AstCopy", spec := "astCopy", unfollowed := true, recurses := true, named := ["cantilever/ast.shapes", "cantilever/ast.forms"], loops := true, apart := false, laid := [("cantilever/ast.shapes", laid_cantilever_ast_shapes), ("cantilever/ast.forms", laid_cantilever_ast_forms)], narrowed := true }
def AstCopyUptoSaid : Prop := astCopyUptoRow.holds Tryd.pinned (OpenSpec.upto astCopySpec)

end Rows
end Go.Proofs.YtajhailaofchlaaDoor

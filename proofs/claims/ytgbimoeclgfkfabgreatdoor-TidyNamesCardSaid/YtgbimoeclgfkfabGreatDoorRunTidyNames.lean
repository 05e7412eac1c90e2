/-
  Of 'cantileverlaw12': the variables that the statement lists, as the abstract interpreter knows them; 'lives' and the chapter's examples, run by the kernel.
-/
import Derived.Test.YtgbimoeclgfkfabGreatDoorRows
import Derived.Test.YtgbimoeclgfkfabGreatDoorAbs31
import Derived.KernelRfl
set_option linter.unusedVariables false
namespace Go.Proofs.YtgbimoeclgfkfabGreatDoor.runTidyNames
open Go.RowKit Go.Abs

/-- 'bits.deBruijn32tab', cell by cell. -/
def tbl0 : List AV := [.int .u8 (.ofNat 0), .int .u8 (.ofNat 1), .int .u8 (.ofNat 28), .int .u8 (.ofNat 2), .int .u8 (.ofNat 29), .int .u8 (.ofNat 14), .int .u8 (.ofNat 24), 
    .int .u8 (.ofNat 3), .int .u8 (.ofNat 30), .int .u8 (.ofNat 22), .int .u8 (.ofNat 20), .int .u8 (.ofNat 15), .int .u8 (.ofNat 25), 
    .int .u8 (.ofNat 17), .int .u8 (.ofNat 4), .int .u8 (.ofNat 8), .int .u8 (.ofNat 31), .int .u8 (.ofNat 27), .int .u8 (.ofNat 13), .int .u8 (.ofNat 23), 
    .int .u8 (.ofNat 21), .int .u8 (.ofNat 19), .int .u8 (.ofNat 16), .int .u8 (.ofNat 7), .int .u8 (.ofNat 26), .int .u8 (.ofNat 12), 
    .int .u8 (.ofNat 18), .int .u8 (.ofNat 6), .int .u8 (.ofNat 11), .int .u8 (.ofNat 5), .int .u8 (.ofNat 10), .int .u8 (.ofNat 9)]

/-- 'bits.deBruijn64tab', cell by cell. -/
def tbl1 : List AV := [.int .u8 (.ofNat 0), .int .u8 (.ofNat 1), .int .u8 (.ofNat 56), .int .u8 (.ofNat 2), .int .u8 (.ofNat 57), .int .u8 (.ofNat 49), .int .u8 (.ofNat 28), 
    .int .u8 (.ofNat 3), .int .u8 (.ofNat 61), .int .u8 (.ofNat 58), .int .u8 (.ofNat 42), .int .u8 (.ofNat 50), .int .u8 (.ofNat 38), 
    .int .u8 (.ofNat 29), .int .u8 (.ofNat 17), .int .u8 (.ofNat 4), .int .u8 (.ofNat 62), .int .u8 (.ofNat 47), .int .u8 (.ofNat 59), 
    .int .u8 (.ofNat 36), .int .u8 (.ofNat 45), .int .u8 (.ofNat 43), .int .u8 (.ofNat 51), .int .u8 (.ofNat 22), .int .u8 (.ofNat 53), 
    .int .u8 (.ofNat 39), .int .u8 (.ofNat 33), .int .u8 (.ofNat 30), .int .u8 (.ofNat 24), .int .u8 (.ofNat 18), .int .u8 (.ofNat 12), 
    .int .u8 (.ofNat 5), .int .u8 (.ofNat 63), .int .u8 (.ofNat 55), .int .u8 (.ofNat 48), .int .u8 (.ofNat 27), .int .u8 (.ofNat 60), 
    .int .u8 (.ofNat 41), .int .u8 (.ofNat 37), .int .u8 (.ofNat 16), .int .u8 (.ofNat 46), .int .u8 (.ofNat 35), .int .u8 (.ofNat 44), 
    .int .u8 (.ofNat 21), .int .u8 (.ofNat 52), .int .u8 (.ofNat 32), .int .u8 (.ofNat 23), .int .u8 (.ofNat 11), .int .u8 (.ofNat 54), 
    .int .u8 (.ofNat 26), .int .u8 (.ofNat 40), .int .u8 (.ofNat 15), .int .u8 (.ofNat 34), .int .u8 (.ofNat 20), .int .u8 (.ofNat 31), 
    .int .u8 (.ofNat 10), .int .u8 (.ofNat 25), .int .u8 (.ofNat 14), .int .u8 (.ofNat 19), .int .u8 (.ofNat 9), .int .u8 (.ofNat 13), .int .u8 (.ofNat 8), 
    .int .u8 (.ofNat 7), .int .u8 (.ofNat 6)]

/-- 'strconv.uint64pow10', cell by cell. -/
def tbl2 : List AV := [.int .u64 (.ofNat 1), .int .u64 (.ofNat 10), .int .u64 (.ofNat 100), .int .u64 (.ofNat 1000), .int .u64 (.ofNat 10000), .int .u64 (.ofNat 100000), 
    .int .u64 (.ofNat 1000000), .int .u64 (.ofNat 10000000), .int .u64 (.ofNat 100000000), .int .u64 (.ofNat 1000000000), .int .u64 (.ofNat 10000000000), 
    .int .u64 (.ofNat 100000000000), .int .u64 (.ofNat 1000000000000), .int .u64 (.ofNat 10000000000000), .int .u64 (.ofNat 100000000000000), 
    .int .u64 (.ofNat 1000000000000000), .int .u64 (.ofNat 10000000000000000), .int .u64 (.ofNat 100000000000000000), 
    .int .u64 (.ofNat 1000000000000000000), .int .u64 (.ofNat 10000000000000000000)]

/-- 'ir.shapes', cell by cell. -/
def tbl3 : List AV := [.bool false, .bool false, .bool false, .bool false, .int .i64 (.ofNat 0), .bool true, .bool false, .bool false, .bool false, .int .i64 (.ofNat 1), 
    .bool true, .bool true, .bool true, .bool false, .int .i64 (.ofNat 0), .bool false, .bool true, .bool true, .bool false, .int .i64 (.ofNat 1), 
    .bool true, .bool true, .bool true, .bool false, .int .i64 (.ofNat 2), .bool true, .bool true, .bool true, .bool false, .int .i64 (.ofNat 1), 
    .bool true, .bool true, .bool true, .bool false, .int .i64 (.ofNat 1), .bool false, .bool false, .bool true, .bool false, .int .i64 (.ofNat 0), 
    .bool false, .bool false, .bool false, .bool false, .int .i64 (.ofNat 1), .bool false, .bool false, .bool false, .bool false, .int .i64 (.ofNat 1), 
    .bool false, .bool false, .bool false, .bool true, .int .i64 (.ofNat 0), .bool false, .bool false, .bool false, .bool true, .int .i64 (.ofNat 1), 
    .bool false, .bool false, .bool false, .bool false, .int .i64 (.ofNat 0), .bool false, .bool false, .bool false, .bool false, .int .i64 (.ofNat 0)]

def gl : Glob := fun g => if Nat.beq g 4 then some tbl0 else if Nat.beq g 5 then some tbl1 else if Nat.beq g 1 then some tbl2 else if Nat.beq g 0 then some tbl3 else none

set_option maxRecDepth 100000

theorem follows : Tryz.prog.follows .mixedOrders = true := by kernel_rfl

theorem noNumAll : (Tryz.prog.funcs.toList.all fun fn => !(fn.name == "runtime.NumGoroutine")) = true := by kernel_rfl

theorem noNum : NoNum Tryz.prog := fun g fn h => by
  have h1 := List.all_eq_true.1 noNumAll fn (Array.mem_toList_iff.2 (Array.mem_of_getElem? h))
  simpa using h1

theorem laid_skip {P : Program} {W : World} {name : String} {d : DataW Unit} {rest : List (String × DataW Unit)} {ps : List MemPlace} (h : DataW.LaidVars P W ((name, d) :: rest) ps) : ∃ qs, DataW.LaidVars P W rest qs := by
  obtain ⟨_, _, _, _, _, q, _, _, _, _, hr, _⟩ := h
  exact ⟨q, hr⟩

theorem n0 : Tryz.prog.globalNamed "math/bits.deBruijn32tab" = some 4 := by kernel_rfl
theorem ty0 : (Tryz.prog.globals[4]?).map (·.type) = some 165 := by kernel_rfl
theorem av0 : avOf Tryz.prog 6 165 (Rows.laid_math_bits_deBruijn32tab (H := Unit)) = some tbl0 := by kernel_rfl
theorem n1 : Tryz.prog.globalNamed "math/bits.deBruijn64tab" = some 5 := by kernel_rfl
theorem ty1 : (Tryz.prog.globals[5]?).map (·.type) = some 166 := by kernel_rfl
theorem av1 : avOf Tryz.prog 6 166 (Rows.laid_math_bits_deBruijn64tab (H := Unit)) = some tbl1 := by kernel_rfl
theorem n2 : Tryz.prog.globalNamed "internal/strconv.uint64pow10" = some 1 := by kernel_rfl
theorem ty2 : (Tryz.prog.globals[1]?).map (·.type) = some 150 := by kernel_rfl
theorem av2 : avOf Tryz.prog 6 150 (Rows.laid_internal_strconv_uint64pow10 (H := Unit)) = some tbl2 := by kernel_rfl
theorem n3 : Tryz.prog.globalNamed "cantilever/ir.shapes" = some 0 := by kernel_rfl
theorem ty3 : (Tryz.prog.globals[0]?).map (·.type) = some 82 := by kernel_rfl
theorem av3 : avOf Tryz.prog 6 82 (Rows.laid_cantilever_ir_shapes (H := Unit)) = some tbl3 := by kernel_rfl

theorem globs {W : World} (h : laidMetH Tryz.prog [("math/bits.deBruijn32tab", Rows.laid_math_bits_deBruijn32tab), ("math/bits.deBruijn64tab", Rows.laid_math_bits_deBruijn64tab), ("internal/strconv.uint64pow10", Rows.laid_internal_strconv_uint64pow10), ("strconv.ErrRange", Rows.laid_strconv_ErrRange), ("strconv.ErrSyntax", Rows.laid_strconv_ErrSyntax), ("cantilever/ir.shapes", Rows.laid_cantilever_ir_shapes)] W) : GlOK gl (snap0 W) := by
  have h' : laidMet Tryz.prog [("math/bits.deBruijn32tab", Rows.laid_math_bits_deBruijn32tab), ("math/bits.deBruijn64tab", Rows.laid_math_bits_deBruijn64tab), ("internal/strconv.uint64pow10", Rows.laid_internal_strconv_uint64pow10), ("strconv.ErrRange", Rows.laid_strconv_ErrRange), ("strconv.ErrSyntax", Rows.laid_strconv_ErrSyntax), ("cantilever/ir.shapes", Rows.laid_cantilever_ir_shapes)] W := h
  obtain ⟨_, hv, _⟩ := id h'
  obtain ⟨m0, _⟩ := laid_glob n0 ty0 av0 hv
  have h' := laidMet.tail h'
  obtain ⟨_, hv, _⟩ := id h'
  obtain ⟨m1, _⟩ := laid_glob n1 ty1 av1 hv
  have h' := laidMet.tail h'
  obtain ⟨_, hv, _⟩ := id h'
  obtain ⟨m2, _⟩ := laid_glob n2 ty2 av2 hv
  have h' := laidMet.tail h'
  have h' := laidMet.tail h'
  have h' := laidMet.tail h'
  obtain ⟨_, hv, _⟩ := id h'
  obtain ⟨m3, _⟩ := laid_glob n3 ty3 av3 hv
  intro g cs hg
  unfold gl at hg
  split at hg
  · rename_i e; have := Nat.eq_of_beq_eq_true e; subst this; simp at hg; subst hg; exact m0
  split at hg
  · rename_i e; have := Nat.eq_of_beq_eq_true e; subst this; simp at hg; subst hg; exact m1
  split at hg
  · rename_i e; have := Nat.eq_of_beq_eq_true e; subst this; simp at hg; subst hg; exact m2
  split at hg
  · rename_i e; have := Nat.eq_of_beq_eq_true e; subst this; simp at hg; subst hg; exact m3
  cases hg

theorem lives : saysTrue (frun Tryz.prog gl [] 100000 100 9 [] TH.empty) = true := by kernel_rfl
theorem knownLives : OrcSound Tryz.prog gl (tblO [(9, [])]) := known_true follows noNum tblO_nil rfl lives

theorem names : saysTrue (frun Tryz.prog gl [(9, [])] 100000 100 3 [] TH.empty) = true := by kernel_rfl
theorem known : OrcSound Tryz.prog gl (tblO [(3, []), (9, [])]) := known_true follows noNum knownLives rfl names
end Go.Proofs.YtgbimoeclgfkfabGreatDoor.runTidyNames

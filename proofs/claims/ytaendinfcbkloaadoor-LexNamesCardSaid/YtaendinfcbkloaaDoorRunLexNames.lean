/-
  Of 'cantileverlaw02': the variables that the statement lists, as the abstract interpreter knows them; 'lives' and the chapter's examples, run by the kernel.
-/
import Derived.Test.YtaendinfcbkloaaDoorRows
import Derived.Test.YtaendinfcbkloaaDoorAbs31
import Derived.KernelRfl
set_option linter.unusedVariables false
namespace Go.Proofs.YtaendinfcbkloaaDoor.runLexNames
open Go.RowKit Go.Abs

/-- 'bits.deBruijn32tab', cell by cell. -/
def tbl0 : List AV := [.int .u8 (.ofNat 0), .int .u8 (.ofNat 1), .int .u8 (.ofNat 28), .int .u8 (.ofNat 2), .int .u8 (.ofNat 29), .int .u8 (.ofNat 14), .int .u8 (.ofNat 24), 
    .int .u8 (.ofNat 3), .int .u8 (.ofNat 30), .int .u8 (.ofNat 22), .int .u8 (.ofNat 20), .int .u8 (.ofNat 15), .int .u8 (.ofNat 25), 
    .int .u8 (.ofNat 17), .int .u8 (.ofNat 4), .int .u8 (.ofNat 8), .int .u8 (.ofNat 31), .int .u8 (.ofNat 27), .int .u8 (.ofNat 13), .int .u8 (.ofNat 23), 
    .int .u8 (.ofNat 21), .int .u8 (.ofNat 19), .int .u8 (.ofNat 16), .int .u8 (.ofNat 7), .int .u8 (.ofNat 26), .int .u8 (.ofNat 12), 
    .int .u8 (.ofNat 18), .int .u8 (.ofNat 6), .int .u8 (.ofNat 11), .int .u8 (.ofNat 5), .int .u8 (.ofNat 10), .int .u8 (.ofNat 9)]

/-- 'bits.deBruijn64tab', cell by cell. -/
def tbl1 : List AV := [.int .u8 (.ofNat 0), .int .u8 (.ofNat 1), .int .u8 (.ofNat 56), .int .u8 (.ofNat 2), .int .u8 (.ofNat 57), .int .u8 (.ofNat 49), .int .u8 (.ofNat 28), 
    .int .u8 (.ofNat 3), .int .u8 (.ofNat 61), .int .u8 (.ofNat 58), .int .u8 (.ofNat 42), .int .u8 (.ofNat 50), .int .u8 (.ofNat 38), 
    .int .u8 (.ofNat 29), .int .u8 (.ofNat 17), .int .u8 (.ofNat 4), .int .u8 (.ofNat 62), .int .u8 (.ofNat 47), .int .u8 (.ofNat 59), 
    .int .u8 (.ofNat 36), .int .u8 (.ofNat 45), .int .u8 (.ofNat 43), .int .u8 (.ofNat 51), .int .u8 (.ofNat 22), .int .u8 (.ofNat 53), 
    .int .u8 (.ofNat 39), .int .u8 (.ofNat 33), .int .u8 (.ofNat 30), .int .u8 (.ofNat 24), .int .u8 (.ofNat 18), .int .u8 (.ofNat 12), 
    .int .u8 (.ofNat 5), .int .u8 (.ofNat 63), .int .u8 (.ofNat 55), .int .u8 (.ofNat 48), .int .u8 (.ofNat 27), .int .u8 (.ofNat 60), 
    .int .u8 (.ofNat 41), .int .u8 (.ofNat 37), .int .u8 (.ofNat 16), .int .u8 (.ofNat 46), .int .u8 (.ofNat 35), .int .u8 (.ofNat 44), 
    .int .u8 (.ofNat 21), .int .u8 (.ofNat 52), .int .u8 (.ofNat 32), .int .u8 (.ofNat 23), .int .u8 (.ofNat 11), .int .u8 (.ofNat 54), 
    .int .u8 (.ofNat 26), .int .u8 (.ofNat 40), .int .u8 (.ofNat 15), .int .u8 (.ofNat 34), .int .u8 (.ofNat 20), .int .u8 (.ofNat 31), 
    .int .u8 (.ofNat 10), .int .u8 (.ofNat 25), .int .u8 (.ofNat 14), .int .u8 (.ofNat 19), .int .u8 (.ofNat 9), .int .u8 (.ofNat 13), .int .u8 (.ofNat 8), 
    .int .u8 (.ofNat 7), .int .u8 (.ofNat 6)]

/-- 'strconv.uint64pow10', cell by cell. -/
def tbl2 : List AV := [.int .u64 (.ofNat 1), .int .u64 (.ofNat 10), .int .u64 (.ofNat 100), .int .u64 (.ofNat 1000), .int .u64 (.ofNat 10000), .int .u64 (.ofNat 100000), 
    .int .u64 (.ofNat 1000000), .int .u64 (.ofNat 10000000), .int .u64 (.ofNat 100000000), .int .u64 (.ofNat 1000000000), .int .u64 (.ofNat 10000000000), 
    .int .u64 (.ofNat 100000000000), .int .u64 (.ofNat 1000000000000), .int .u64 (.ofNat 10000000000000), .int .u64 (.ofNat 100000000000000), 
    .int .u64 (.ofNat 1000000000000000), .int .u64 (.ofNat 10000000000000000), .int .u64 (.ofNat 100000000000000000), 
    .int .u64 (.ofNat 1000000000000000000), .int .u64 (.ofNat 10000000000000000000)]

/-- 'strconv.ErrRange': a sentinel. -/
def sen0 : List AV := [.iface 259 (.rp [.str [118, 97, 108, 117, 101, 32, 111, 117, 116, 32, 111, 102, 32, 114, 97, 110, 103, 101]])]

/-- 'strconv.ErrSyntax': a sentinel. -/
def sen1 : List AV := [.iface 259 (.rp [.str [105, 110, 118, 97, 108, 105, 100, 32, 115, 121, 110, 116, 97, 120]])]

def gl : Glob := fun g => if Nat.beq g 7 then some tbl0 else if Nat.beq g 8 then some tbl1 else if Nat.beq g 3 then some tbl2 else if Nat.beq g 5 then some sen0 else if Nat.beq g 4 then some sen1 else none

set_option maxRecDepth 100000

theorem follows : Tryd.prog.follows .mixedOrders = true := by kernel_rfl

theorem noNumAll : (Tryd.prog.funcs.toList.all fun fn => !(fn.name == "runtime.NumGoroutine")) = true := by kernel_rfl

theorem noNum : NoNum Tryd.prog := fun g fn h => by
  have h1 := List.all_eq_true.1 noNumAll fn (Array.mem_toList_iff.2 (Array.mem_of_getElem? h))
  simpa using h1

theorem laid_skip {P : Program} {W : World} {name : String} {d : DataW Unit} {rest : List (String × DataW Unit)} {ps : List MemPlace} (h : DataW.LaidVars P W ((name, d) :: rest) ps) : ∃ qs, DataW.LaidVars P W rest qs := by
  obtain ⟨_, _, _, _, _, q, _, _, _, _, hr, _⟩ := h
  exact ⟨q, hr⟩

theorem n0 : Tryd.prog.globalNamed "math/bits.deBruijn32tab" = some 7 := by kernel_rfl
theorem ty0 : (Tryd.prog.globals[7]?).map (·.type) = some 256 := by kernel_rfl
theorem av0 : avOf Tryd.prog 6 256 (Rows.laid_math_bits_deBruijn32tab (H := Unit)) = some tbl0 := by kernel_rfl
theorem n1 : Tryd.prog.globalNamed "math/bits.deBruijn64tab" = some 8 := by kernel_rfl
theorem ty1 : (Tryd.prog.globals[8]?).map (·.type) = some 257 := by kernel_rfl
theorem av1 : avOf Tryd.prog 6 257 (Rows.laid_math_bits_deBruijn64tab (H := Unit)) = some tbl1 := by kernel_rfl
theorem n2 : Tryd.prog.globalNamed "internal/strconv.uint64pow10" = some 3 := by kernel_rfl
theorem ty2 : (Tryd.prog.globals[3]?).map (·.type) = some 222 := by kernel_rfl
theorem av2 : avOf Tryd.prog 6 222 (Rows.laid_internal_strconv_uint64pow10 (H := Unit)) = some tbl2 := by kernel_rfl
theorem star : "*" ++ "errors.errorString" = "*errors.errorString" := by decide
theorem named (u : TypeId) (h : Tryd.prog.typeName? 3 u = some "*errors.errorString") : u = 259 :=
  typeName_ptr_named (nm := "errors.errorString") (by rw [star]; kernel_rfl) (by kernel_rfl) (by decide) u (by rw [star]; exact h)
noncomputable def fld : Field := match Tryd.prog.underlying 261 with | some (.struct fs) => (fs.toList.head?).getD default | _ => default
theorem unE : Tryd.prog.underlying 261 = some (.struct #[fld]) := by kernel_rfl
theorem unP : Tryd.prog.underlying 259 = some (.pointer 261) := by kernel_rfl
theorem unS : Tryd.prog.underlying 9 = some .string := by kernel_rfl
theorem fldT : fld.type = 9 := by kernel_rfl
theorem fldO : fld.offset = 0 := by kernel_rfl
theorem cellsE : Tryd.prog.cellsOf 261 = 1 := by kernel_rfl
theorem cellsS : Tryd.prog.cellsOf 9 = 1 := by kernel_rfl
theorem sn0 : Tryd.prog.globalNamed "strconv.ErrRange" = some 5 := by kernel_rfl
theorem sty0 : (Tryd.prog.globals[5]?).map (·.type) = some 153 := by kernel_rfl
noncomputable def itf0 : Array (String × TypeId) := match Tryd.prog.underlying 153 with | some (.interface ms) => ms | _ => #[]
theorem unI0 : Tryd.prog.underlying 153 = some (.interface itf0) := by kernel_rfl
theorem sn1 : Tryd.prog.globalNamed "strconv.ErrSyntax" = some 4 := by kernel_rfl
theorem sty1 : (Tryd.prog.globals[4]?).map (·.type) = some 153 := by kernel_rfl
noncomputable def itf1 : Array (String × TypeId) := match Tryd.prog.underlying 153 with | some (.interface ms) => ms | _ => #[]
theorem unI1 : Tryd.prog.underlying 153 = some (.interface itf1) := by kernel_rfl

theorem globs {W : World} (h : laidMetH Tryd.prog [("math/bits.deBruijn32tab", Rows.laid_math_bits_deBruijn32tab), ("math/bits.deBruijn64tab", Rows.laid_math_bits_deBruijn64tab), ("internal/strconv.uint64pow10", Rows.laid_internal_strconv_uint64pow10), ("strconv.ErrRange", Rows.laid_strconv_ErrRange), ("strconv.ErrSyntax", Rows.laid_strconv_ErrSyntax)] W) : GlOK gl (snap0 W) := by
  have h' : laidMet Tryd.prog [("math/bits.deBruijn32tab", Rows.laid_math_bits_deBruijn32tab), ("math/bits.deBruijn64tab", Rows.laid_math_bits_deBruijn64tab), ("internal/strconv.uint64pow10", Rows.laid_internal_strconv_uint64pow10), ("strconv.ErrRange", Rows.laid_strconv_ErrRange), ("strconv.ErrSyntax", Rows.laid_strconv_ErrSyntax)] W := h
  obtain ⟨_, hv, _⟩ := id h'
  obtain ⟨m0, _⟩ := laid_glob n0 ty0 av0 hv
  have h' := laidMet.tail h'
  obtain ⟨_, hv, _⟩ := id h'
  obtain ⟨m1, _⟩ := laid_glob n1 ty1 av1 hv
  have h' := laidMet.tail h'
  obtain ⟨_, hv, _⟩ := id h'
  obtain ⟨m2, _⟩ := laid_glob n2 ty2 av2 hv
  have h' := laidMet.tail h'
  have s0 := laid_sent h' sn0 sty0 unI0 named unP unE fldT fldO unS cellsE cellsS
  have h' := laidMet.tail h'
  have s1 := laid_sent h' sn1 sty1 unI1 named unP unE fldT fldO unS cellsE cellsS
  intro g cs hg
  unfold gl at hg
  split at hg
  · rename_i e; have := Nat.eq_of_beq_eq_true e; subst this; simp at hg; subst hg; exact m0
  split at hg
  · rename_i e; have := Nat.eq_of_beq_eq_true e; subst this; simp at hg; subst hg; exact m1
  split at hg
  · rename_i e; have := Nat.eq_of_beq_eq_true e; subst this; simp at hg; subst hg; exact m2
  split at hg
  · rename_i e; have := Nat.eq_of_beq_eq_true e; subst this; simp at hg; subst hg; exact s0
  split at hg
  · rename_i e; have := Nat.eq_of_beq_eq_true e; subst this; simp at hg; subst hg; exact s1
  cases hg

theorem lives : saysTrue (frun Tryd.prog gl [] 100000 100 14 [] TH.empty) = true := by kernel_rfl
theorem knownLives : OrcSound Tryd.prog gl (tblO [(14, [])]) := known_true follows noNum tblO_nil rfl lives

theorem names : saysTrue (frun Tryd.prog gl [(14, [])] 100000 100 4 [] TH.empty) = true := by kernel_rfl
theorem known : OrcSound Tryd.prog gl (tblO [(4, []), (14, [])]) := known_true follows noNum knownLives rfl names
end Go.Proofs.YtaendinfcbkloaaDoor.runLexNames

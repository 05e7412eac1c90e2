/-
  Operators hang together as one reckons, modulo 2^64: of numbers alone.
-/
import Derived.Test.YtdpdllaebdbddaaDoorValueSym
set_option linter.unusedVariables false
set_option linter.unusedSimpArgs false
namespace Go.Proofs.YtdpdllaebdbddaaDoor.alg
open Go.Abs vsym Go.RowKit

theorem w64 (n : Int) : IntKind.i64.wrap n = (n + 9223372036854775808) % 18446744073709551616 - 9223372036854775808 := by
  rw [IntKind.wrap_i64]
theorem wu64 (n : Int) : IntKind.u64.wrap n = n % 18446744073709551616 := by
  simp [IntKind.wrap, IntKind.bits, IntKind.signed]

theorem plus_eq (a b : Int) : (doI 14 [a, b]).1 = IntKind.i64.wrap (a + b) := by
  simp only [doI, twoI]; simp only [w64, wu64]; simp
theorem minus_eq (a b : Int) : (doI 15 [a, b]).1 = IntKind.i64.wrap (a - b) := by
  simp only [doI, twoI]; simp only [w64, wu64]; simp
theorem neg_eq (a : Int) : (doI 3 [a]).1 = IntKind.i64.wrap (-a) := by
  simp only [doI, oneI]; simp only [w64, wu64]; simp; omega
theorem times_eq (a b : Int) : (doI 16 [a, b]).1 = IntKind.i64.wrap (a * b) := by
  have h : (doI 16 [a, b]).1 = IntKind.i64.wrap (IntKind.u64.wrap (IntKind.u64.wrap a * IntKind.u64.wrap b)) := by simp [doI, twoI]
  rw [h]
  simp only [w64, wu64]
  rw [← Int.mul_emod]
  omega

theorem w64_emod (n : Int) : IntKind.i64.wrap n % 18446744073709551616 = n % 18446744073709551616 := by rw [w64]; omega
theorem w64_congr {m n : Int} (h : m % 18446744073709551616 = n % 18446744073709551616) : IntKind.i64.wrap m = IntKind.i64.wrap n := by rw [w64, w64]; omega

theorem alg1 (a b c : Int) : ((doI 14 [a, (doI 14 [b, c]).1]).1 == (doI 14 [(doI 14 [a, b]).1, c]).1) = true := by
  simp only [plus_eq, w64]; simp; omega
theorem alg2 (a b : Int) : ((doI 14 [a, b]).1 == (doI 14 [b, a]).1) = true := by
  simp only [plus_eq, w64]; simp; omega
theorem alg3 (a b c : Int) : ((doI 16 [a, (doI 14 [b, c]).1]).1 == (doI 14 [(doI 16 [a, b]).1, (doI 16 [a, c]).1]).1) = true := by
  simp only [plus_eq, times_eq, beq_iff_eq]
  refine w64_congr ?_
  rw [Int.mul_emod, w64_emod, ← Int.mul_emod, Int.mul_add, Int.add_emod, Int.add_emod (IntKind.i64.wrap (a * b)), w64_emod, w64_emod]
theorem alg4 (a b : Int) : ((doI 15 [a, b]).1 == (doI 14 [a, (doI 3 [b]).1]).1) = true := by
  simp only [plus_eq, minus_eq, neg_eq, w64]; simp; omega
theorem alg5 (a b : Int) : ((doI 9 [a, b]).1 == (doI 4 [(doI 10 [b, a]).1]).1) = true := by
  simp only [doI, twoI, oneI, truthI]
  by_cases h : a < b
  · have h' : ¬ b ≤ a := by omega
    simp [h, h']
  · have h' : b ≤ a := by omega
    simp [h, h']
theorem alg6 (a b : Int) : ((doI 8 [a, b]).1 == (doI 4 [(doI 7 [a, b]).1]).1) = true := by
  simp only [doI, twoI, oneI, truthI]
  by_cases h : a = b <;> simp [h]
theorem alg7 (a b : Int) : ((doI 4 [(doI 5 [a, b]).1]).1 == (doI 6 [(doI 4 [a]).1, (doI 4 [b]).1]).1) = true := by
  simp only [doI, twoI, oneI, truthI]
  by_cases h : a = 0 <;> by_cases h' : b = 0 <;> simp [h, h']
theorem wf64 {n : Int} (h : (Lit.int .i64 n).wf = true) : -9223372036854775808 ≤ n ∧ n ≤ 9223372036854775807 := by
  have h' : IntKind.i64.min ≤ n ∧ n ≤ 9223372036854775807 := by simpa [Lit.wf] using h
  exact h'
theorem alg9 (a b : Int) (ha : (Lit.int .i64 a).wf = true) (hb : (Lit.int .i64 b).wf = true) : ((doI 7 [(doI 15 [a, b]).1, 0]).1 == (doI 7 [a, b]).1) = true := by
  have h1 : ∀ x y : Int, (doI 7 [x, y]).1 = truthI (x == y) := fun x y => by simp [doI, twoI]
  have ra := wf64 ha
  have rb := wf64 hb
  rw [h1, h1, minus_eq]
  have : (IntKind.i64.wrap (a - b) == 0) = (a == b) := by
    rw [w64, Bool.eq_iff_iff]; simp; omega
  rw [this]; simp

theorem bv_or (x y : BitVec 64) : x ||| y = (x ^^^ y) + (x &&& y) := by
  have h : (x ^^^ y) &&& (x &&& y) = 0#64 := by
    apply BitVec.eq_of_getLsbD_eq; intro i hi
    simp only [BitVec.getLsbD_and, BitVec.getLsbD_xor, BitVec.getLsbD_zero]
    cases x.getLsbD i <;> cases y.getLsbD i <;> rfl
  rw [BitVec.add_eq_or_of_and_eq_zero _ _ h]
  apply BitVec.eq_of_getLsbD_eq; intro i hi
  simp only [BitVec.getLsbD_and, BitVec.getLsbD_xor, BitVec.getLsbD_or]
  cases x.getLsbD i <;> cases y.getLsbD i <;> rfl

theorem mod_toNat (x : BitVec 64) : ((x.toNat : Nat) : Int) % 18446744073709551616 = x.toNat := by
  have h := x.isLt
  rw [show (2 : Nat) ^ 64 = 18446744073709551616 from rfl] at h
  omega
theorem fin8 (N X A : Nat) (h : N = (X + A) % 18446744073709551616) : IntKind.i64.wrap (X : Int) = IntKind.i64.wrap (IntKind.i64.wrap (N : Int) - IntKind.i64.wrap (A : Int)) := by
  rw [w64, w64, w64, w64]; omega
theorem bits_or (x y : Int) : bits .or .u64 x y = ((BitVec.ofInt 64 x ||| BitVec.ofInt 64 y).toNat : Int) := by
  have e : bits .or .u64 x y = IntKind.u64.wrap ((BitVec.ofInt 64 x ||| BitVec.ofInt 64 y).toNat : Int) := rfl
  rw [e, wu64]
  exact mod_toNat _
theorem bits_xor (x y : Int) : bits .xor .u64 x y = ((BitVec.ofInt 64 x ^^^ BitVec.ofInt 64 y).toNat : Int) := by
  have e : bits .xor .u64 x y = IntKind.u64.wrap ((BitVec.ofInt 64 x ^^^ BitVec.ofInt 64 y).toNat : Int) := rfl
  rw [e, wu64]
  exact mod_toNat _
theorem bits_and (x y : Int) : bits .and .u64 x y = ((BitVec.ofInt 64 x &&& BitVec.ofInt 64 y).toNat : Int) := by
  have e : bits .and .u64 x y = IntKind.u64.wrap ((BitVec.ofInt 64 x &&& BitVec.ofInt 64 y).toNat : Int) := rfl
  rw [e, wu64]
  exact mod_toNat _
theorem alg8 (a b : Int) : ((doI 12 [a, b]).1 == (doI 15 [(doI 11 [a, b]).1, (doI 13 [a, b]).1]).1) = true := by
  have e12 : (doI 12 [a, b]).1 = IntKind.i64.wrap (bits .xor .u64 (IntKind.u64.wrap a) (IntKind.u64.wrap b)) := by simp [doI, twoI]
  have e11 : (doI 11 [a, b]).1 = IntKind.i64.wrap (bits .or .u64 (IntKind.u64.wrap a) (IntKind.u64.wrap b)) := by simp [doI, twoI]
  have e13 : (doI 13 [a, b]).1 = IntKind.i64.wrap (bits .and .u64 (IntKind.u64.wrap a) (IntKind.u64.wrap b)) := by simp [doI, twoI]
  rw [e12, e11, e13, minus_eq, bits_or, bits_xor, bits_and, beq_iff_eq]
  refine fin8 _ _ _ ?_
  have h := congrArg BitVec.toNat (bv_or (BitVec.ofInt 64 (IntKind.u64.wrap a)) (BitVec.ofInt 64 (IntKind.u64.wrap b)))
  rw [BitVec.toNat_add] at h
  exact h
end Go.Proofs.YtdpdllaebdbddaaDoor.alg

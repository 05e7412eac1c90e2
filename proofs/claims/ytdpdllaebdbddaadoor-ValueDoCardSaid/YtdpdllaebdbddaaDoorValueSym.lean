/-
  Of 'cantileverlaw07': what the operators answer, as functions of numbers: 'value.Do' and what it calls.
-/
import Derived.Test.YtdpdllaebdbddaaDoorAbs36
import Derived.Test.YtdpdllaebdbddaaDoorRows
import Derived.KernelRfl
set_option linter.unusedVariables false
set_option linter.unusedSimpArgs false
namespace Go.Proofs.YtdpdllaebdbddaaDoor.vsym
open Go.Abs
set_option maxRecDepth 100000
theorem follows : Tryd.prog.follows .mixedOrders = true := by kernel_rfl
theorem noNumAll : (Tryd.prog.funcs.toList.all fun fn => !(fn.name == "runtime.NumGoroutine")) = true := by kernel_rfl
theorem noNum : NoNum Tryd.prog := fun g fn h => by
  have h1 := List.all_eq_true.1 noNumAll fn (Array.mem_toList_iff.2 (Array.mem_of_getElem? h))
  simpa using h1
variable {gl : Glob}
theorem none_sound : OrcSound Tryd.prog gl (orcV fun _ _ => none) := orcV_sound fun _ _ _ h => by cases h
def truthI (b : Bool) : Int := if b then 1 else 0
theorem truth_ok (b : Bool) : ValOK Tryd.prog gl 25 [.bool b] (.int .i64 (truthI b)) := by
  refine fn_val follows noNum none_sound Tryd.func25 rfl ?_
  repeat' ((conv => whnf); first | (with_reducible refine condT ?_ ?_; (focus ((first | assumption | decide | (simp; done)); done))) | (with_reducible refine condF ?_ ?_; (focus ((first | assumption | decide | (simp; done)); done))) | with_reducible refine condB (fun h => ?_) (fun h => ?_) | (with_reducible refine bndI ?_ ?_ ?_; (focus ((first | decide | omega | (simp; done) | (simp; omega)); done)); (focus ((first | decide | omega | (simp; done) | (simp; omega)); done))) | (with_reducible refine bndI' ?_ ?_ ?_; (focus ((first | decide | omega | (simp; done) | (simp; omega)); done)); (focus ((first | decide | omega | (simp; done) | (simp; omega)); done))) | with_reducible refine exI rfl ?_ | with_reducible refine eqR rfl ?_)
  all_goals (try simp_all [resOf, truthI])

/-- What an operator between two answers. -/
def twoI (op a b : Int) : Int :=
  if op = 5 then truthI (a != 0 || b != 0) else
  if op = 6 then truthI (a != 0 && b != 0) else
  if op = 7 then truthI (a == b) else
  if op = 8 then truthI (a != b) else
  if op = 9 then truthI (decide (a < b)) else
  if op = 10 then truthI (decide (a ≤ b)) else
  if op = 11 then IntKind.i64.wrap (bits .or .u64 (IntKind.u64.wrap a) (IntKind.u64.wrap b)) else
  if op = 12 then IntKind.i64.wrap (bits .xor .u64 (IntKind.u64.wrap a) (IntKind.u64.wrap b)) else
  if op = 13 then IntKind.i64.wrap (bits .and .u64 (IntKind.u64.wrap a) (IntKind.u64.wrap b)) else
  if op = 14 then IntKind.i64.wrap (IntKind.u64.wrap (IntKind.u64.wrap a + IntKind.u64.wrap b)) else
  if op = 15 then IntKind.i64.wrap (IntKind.u64.wrap (IntKind.u64.wrap a - IntKind.u64.wrap b)) else
  IntKind.i64.wrap (IntKind.u64.wrap (IntKind.u64.wrap a * IntKind.u64.wrap b))

def F1 (f : Nat) (xs : List AV) : Option AV := match f with
  | 25 => match xs with | [.bool b] => some (.int .i64 (truthI b)) | _ => none
  | _ => none
theorem F1_sound : OrcSound Tryd.prog gl (orcZ F1) := orcZ_sound fun f xs r h => by
  unfold F1 at h
  split at h
  · split at h <;> cases h
    exact ⟨rfl, truth_ok _⟩
  · cases h

theorem two_ok (op a b : Int) : ValOK Tryd.prog gl 17 [.int .i64 op, .int .i64 a, .int .i64 b] (.int .i64 (twoI op a b)) := by
  refine fn_val follows noNum F1_sound Tryd.func17 rfl ?_
  repeat' ((conv => whnf); first | (with_reducible refine condT ?_ ?_; (focus ((first | assumption | decide | (simp; done)); done))) | (with_reducible refine condF ?_ ?_; (focus ((first | assumption | decide | (simp; done)); done))) | with_reducible refine condB (fun h => ?_) (fun h => ?_) | (with_reducible refine bndI ?_ ?_ ?_; (focus ((first | decide | omega | (simp; done) | (simp; omega)); done)); (focus ((first | decide | omega | (simp; done) | (simp; omega)); done))) | (with_reducible refine bndI' ?_ ?_ ?_; (focus ((first | decide | omega | (simp; done) | (simp; omega)); done)); (focus ((first | decide | omega | (simp; done) | (simp; omega)); done))) | with_reducible refine exI rfl ?_ | with_reducible refine eqR rfl ?_)
  all_goals (try simp_all [resOf, twoI, truthI])

def oneI (op a : Int) : Int := if op = 3 then IntKind.i64.wrap (IntKind.u64.wrap (0 - IntKind.u64.wrap a)) else truthI (a == 0)

theorem one_ok (op a : Int) : ValOK Tryd.prog gl 16 [.int .i64 op, .int .i64 a] (.int .i64 (oneI op a)) := by
  refine fn_val follows noNum F1_sound Tryd.func16 rfl ?_
  repeat' ((conv => whnf); first | (with_reducible refine condT ?_ ?_; (focus ((first | assumption | decide | (simp; done)); done))) | (with_reducible refine condF ?_ ?_; (focus ((first | assumption | decide | (simp; done)); done))) | with_reducible refine condB (fun h => ?_) (fun h => ?_) | (with_reducible refine bndI ?_ ?_ ?_; (focus ((first | decide | omega | (simp; done) | (simp; omega)); done)); (focus ((first | decide | omega | (simp; done) | (simp; omega)); done))) | (with_reducible refine bndI' ?_ ?_ ?_; (focus ((first | decide | omega | (simp; done) | (simp; omega)); done)); (focus ((first | decide | omega | (simp; done) | (simp; omega)); done))) | with_reducible refine exI rfl ?_ | with_reducible refine eqR rfl ?_)
  all_goals (try simp_all [resOf, oneI, truthI])

def F2 (f : Nat) (xs : List AV) : Option AV := match f with
  | 25 => match xs with | [.bool b] => some (.int .i64 (truthI b)) | _ => none
  | 16 => match xs with | [.int .i64 op, .int .i64 a] => some (.int .i64 (oneI op a)) | _ => none
  | 17 => match xs with | [.int .i64 op, .int .i64 a, .int .i64 b] => some (.int .i64 (twoI op a b)) | _ => none
  | _ => none
theorem F2_sound : OrcSound Tryd.prog gl (orcZ F2) := orcZ_sound fun f xs r h => by
  unfold F2 at h
  split at h
  · split at h <;> cases h
    exact ⟨rfl, truth_ok _⟩
  · split at h <;> cases h
    exact ⟨rfl, one_ok _ _⟩
  · split at h <;> cases h
    exact ⟨rfl, two_ok _ _ _⟩
  · cases h

/-- What 'Do' answers. -/
def doI (op : Int) (l : List Int) : Int × Int := match l with
  | [a] => if op = 3 ∨ op = 4 then (oneI op a, 0) else (0, 2)
  | [a, b] => if 5 ≤ op ∧ op ≤ 16 then (twoI op a b, 0) else (0, 2)
  | _ => (0, 2)
def ints (l : List Int) : AV := match l with | [] => .nslice | l => .rs l.length 1 (l.map (AV.int .i64))

theorem do_ok (op : Int) (l : List Int) (x : AV) (hx : x = .rs l.length 1 (l.map (AV.int .i64)) ∨ (l = [] ∧ x = .nslice)) : ValOK Tryd.prog gl 8 [.int .i64 op, x] (.tuple [.int .i64 (doI op l).1, .int .i64 (doI op l).2]) := by
  rcases hx with rfl | ⟨rfl, rfl⟩
  · match l with
    | [] =>
      refine fn_val follows noNum F2_sound Tryd.func8 rfl ?_
      repeat' ((conv => whnf); first | (with_reducible refine condT ?_ ?_; (focus ((first | assumption | decide | (simp; done)); done))) | (with_reducible refine condF ?_ ?_; (focus ((first | assumption | decide | (simp; done)); done))) | with_reducible refine condB (fun h => ?_) (fun h => ?_) | (with_reducible refine bndI ?_ ?_ ?_; (focus ((first | decide | omega | (simp; done) | (simp; omega)); done)); (focus ((first | decide | omega | (simp; done) | (simp; omega)); done))) | (with_reducible refine bndI' ?_ ?_ ?_; (focus ((first | decide | omega | (simp; done) | (simp; omega)); done)); (focus ((first | decide | omega | (simp; done) | (simp; omega)); done))) | with_reducible refine exI rfl ?_ | with_reducible refine eqR rfl ?_)
      all_goals (try simp_all [resOf, doI])
    | [a] =>
      refine fn_val follows noNum F2_sound Tryd.func8 rfl ?_
      repeat' ((conv => whnf); first | (with_reducible refine condT ?_ ?_; (focus ((first | assumption | decide | (simp; done)); done))) | (with_reducible refine condF ?_ ?_; (focus ((first | assumption | decide | (simp; done)); done))) | with_reducible refine condB (fun h => ?_) (fun h => ?_) | (with_reducible refine bndI ?_ ?_ ?_; (focus ((first | decide | omega | (simp; done) | (simp; omega)); done)); (focus ((first | decide | omega | (simp; done) | (simp; omega)); done))) | (with_reducible refine bndI' ?_ ?_ ?_; (focus ((first | decide | omega | (simp; done) | (simp; omega)); done)); (focus ((first | decide | omega | (simp; done) | (simp; omega)); done))) | with_reducible refine exI rfl ?_ | with_reducible refine eqR rfl ?_)
      all_goals (try simp_all [resOf, doI])
    | [a, b] =>
      refine fn_val follows noNum F2_sound Tryd.func8 rfl ?_
      repeat' ((conv => whnf); first | (with_reducible refine condT ?_ ?_; (focus ((first | assumption | decide | (simp; done)); done))) | (with_reducible refine condF ?_ ?_; (focus ((first | assumption | decide | (simp; done)); done))) | with_reducible refine condB (fun h => ?_) (fun h => ?_) | (with_reducible refine bndI ?_ ?_ ?_; (focus ((first | decide | omega | (simp; done) | (simp; omega)); done)); (focus ((first | decide | omega | (simp; done) | (simp; omega)); done))) | (with_reducible refine bndI' ?_ ?_ ?_; (focus ((first | decide | omega | (simp; done) | (simp; omega)); done)); (focus ((first | decide | omega | (simp; done) | (simp; omega)); done))) | with_reducible refine exI rfl ?_ | with_reducible refine eqR rfl ?_)
      all_goals (try simp_all [resOf, doI])
      all_goals (rw [if_neg (by omega)]; exact ⟨rfl, rfl⟩)
    | a :: b :: c :: l =>
      refine fn_val follows noNum F2_sound Tryd.func8 rfl ?_
      have h1 : (((a :: b :: c :: l).length : Int) == 1) = false := by simp; omega
      have h2 : (((a :: b :: c :: l).length : Int) == 2) = false := by simp; omega
      repeat' ((conv => whnf); first | (with_reducible refine condT ?_ ?_; (focus ((first | assumption | decide | (simp; done)); done))) | (with_reducible refine condF ?_ ?_; (focus ((first | assumption | decide | (simp; done)); done))) | with_reducible refine condB (fun h => ?_) (fun h => ?_) | (with_reducible refine bndI ?_ ?_ ?_; (focus ((first | decide | omega | (simp; done) | (simp; omega)); done)); (focus ((first | decide | omega | (simp; done) | (simp; omega)); done))) | (with_reducible refine bndI' ?_ ?_ ?_; (focus ((first | decide | omega | (simp; done) | (simp; omega)); done)); (focus ((first | decide | omega | (simp; done) | (simp; omega)); done))) | with_reducible refine exI rfl ?_ | with_reducible refine eqR rfl ?_)
      all_goals (try simp_all [resOf, doI])
  · refine fn_val follows noNum F2_sound Tryd.func8 rfl ?_
    repeat' ((conv => whnf); first | (with_reducible refine condT ?_ ?_; (focus ((first | assumption | decide | (simp; done)); done))) | (with_reducible refine condF ?_ ?_; (focus ((first | assumption | decide | (simp; done)); done))) | with_reducible refine condB (fun h => ?_) (fun h => ?_) | (with_reducible refine bndI ?_ ?_ ?_; (focus ((first | decide | omega | (simp; done) | (simp; omega)); done)); (focus ((first | decide | omega | (simp; done) | (simp; omega)); done))) | (with_reducible refine bndI' ?_ ?_ ?_; (focus ((first | decide | omega | (simp; done) | (simp; omega)); done)); (focus ((first | decide | omega | (simp; done) | (simp; omega)); done))) | with_reducible refine exI rfl ?_ | with_reducible refine eqR rfl ?_)
    all_goals (try simp_all [resOf, doI])
end Go.Proofs.YtdpdllaebdbddaaDoor.vsym

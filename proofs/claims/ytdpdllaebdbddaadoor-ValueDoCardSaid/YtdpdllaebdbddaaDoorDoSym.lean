/-
  'cantileverlaw07.ValueDo': the document's answers, as functions of numbers, and the walk through the law.
-/
import Derived.Test.YtdpdllaebdbddaaDoorAlgSym
set_option linter.unusedVariables false
set_option linter.unusedSimpArgs false
namespace Go.Proofs.YtdpdllaebdbddaaDoor.dos
open Go.Abs vsym alg Go.RowKit
set_option maxRecDepth 100000
variable {gl : Glob}

theorem truthR_ok (b : Bool) : ValOK Tryd.prog gl 18 [.bool b] (.int .i64 (truthI b)) := by
  refine fn_val follows noNum none_sound Tryd.func18 rfl ?_
  repeat' ((conv => whnf); first | (with_reducible refine condT ?_ ?_; (focus ((first | assumption | decide | (simp; done) | (simp; omega)); done))) | (with_reducible refine condF ?_ ?_; (focus ((first | assumption | decide | (simp; done) | (simp; omega)); done))) | with_reducible refine condB (fun h => ?_) (fun h => ?_) | (with_reducible refine bndI ?_ ?_ ?_; (focus ((first | decide | omega | (simp; done) | (simp; omega)); done)); (focus ((first | decide | omega | (simp; done) | (simp; omega)); done))) | (with_reducible refine bndI' ?_ ?_ ?_; (focus ((first | decide | omega | (simp; done) | (simp; omega)); done)); (focus ((first | decide | omega | (simp; done) | (simp; omega)); done))) | with_reducible refine exI rfl ?_ | with_reducible refine eqR rfl ?_)
  all_goals (try simp_all [resOf, truthI])

def twoR (op a b : Int) : Int :=
  if op = 5 then truthI (a != 0 || b != 0) else
  if op = 6 then truthI (a != 0 && b != 0) else
  if op = 7 then truthI (a == b) else
  if op = 8 then truthI (a != b) else
  if op = 9 then truthI (decide (a < b)) else
  if op = 10 then truthI (decide (a ≤ b)) else
  if op = 11 then bits .or .i64 a b else
  if op = 12 then bits .xor .i64 a b else
  if op = 13 then bits .and .i64 a b else
  if op = 14 then IntKind.i64.wrap (IntKind.u64.wrap (IntKind.u64.wrap a + IntKind.u64.wrap b)) else
  if op = 15 then IntKind.i64.wrap (IntKind.u64.wrap (IntKind.u64.wrap a - IntKind.u64.wrap b)) else
  IntKind.i64.wrap (IntKind.u64.wrap (IntKind.u64.wrap a * IntKind.u64.wrap b))

def R1 (f : Nat) (xs : List AV) : Option AV := match f with
  | 18 => match xs with | [.bool b] => some (.int .i64 (truthI b)) | _ => none
  | _ => none
theorem R1_sound : OrcSound Tryd.prog gl (orcZ R1) := orcZ_sound fun f xs r h => by
  unfold R1 at h
  split at h
  · split at h <;> cases h
    exact ⟨rfl, truthR_ok _⟩
  · cases h

theorem twoR_ok (op a b : Int) : ValOK Tryd.prog gl 19 [.int .i64 op, .int .i64 a, .int .i64 b] (.int .i64 (twoR op a b)) := by
  refine fn_val follows noNum R1_sound Tryd.func19 rfl ?_
  repeat' ((conv => whnf); first | (with_reducible refine condT ?_ ?_; (focus ((first | assumption | decide | (simp; done) | (simp; omega)); done))) | (with_reducible refine condF ?_ ?_; (focus ((first | assumption | decide | (simp; done) | (simp; omega)); done))) | with_reducible refine condB (fun h => ?_) (fun h => ?_) | (with_reducible refine bndI ?_ ?_ ?_; (focus ((first | decide | omega | (simp; done) | (simp; omega)); done)); (focus ((first | decide | omega | (simp; done) | (simp; omega)); done))) | (with_reducible refine bndI' ?_ ?_ ?_; (focus ((first | decide | omega | (simp; done) | (simp; omega)); done)); (focus ((first | decide | omega | (simp; done) | (simp; omega)); done))) | with_reducible refine exI rfl ?_ | with_reducible refine eqR rfl ?_)
  all_goals (try simp_all [resOf, twoR, truthI])

theorem of_wrap (a : Int) : BitVec.ofInt 64 (IntKind.u64.wrap a) = BitVec.ofInt 64 a := by
  apply BitVec.eq_of_toInt_eq
  rw [BitVec.toInt_ofInt, BitVec.toInt_ofInt, wu64]
  simp only [Int.bmod]
  omega
theorem twoR_eq (op a b : Int) : twoR op a b = twoI op a b := by
  have h1 : ∀ x y : Int, bits .or .i64 x y = IntKind.i64.wrap ((BitVec.ofInt 64 x ||| BitVec.ofInt 64 y).toNat : Int) := fun _ _ => rfl
  have h2 : ∀ x y : Int, bits .xor .i64 x y = IntKind.i64.wrap ((BitVec.ofInt 64 x ^^^ BitVec.ofInt 64 y).toNat : Int) := fun _ _ => rfl
  have h3 : ∀ x y : Int, bits .and .i64 x y = IntKind.i64.wrap ((BitVec.ofInt 64 x &&& BitVec.ofInt 64 y).toNat : Int) := fun _ _ => rfl
  unfold twoR twoI
  rw [bits_or, bits_xor, bits_and, h1, h2, h3, of_wrap, of_wrap]

def R2 (f : Nat) (xs : List AV) : Option AV := match f with
  | 18 => match xs with | [.bool b] => some (.int .i64 (truthI b)) | _ => none
  | 19 => match xs with | [.int .i64 op, .int .i64 a, .int .i64 b] => some (.int .i64 (twoI op a b)) | _ => none
  | _ => none
theorem R2_sound : OrcSound Tryd.prog gl (orcZ R2) := orcZ_sound fun f xs r h => by
  unfold R2 at h
  split at h
  · split at h <;> cases h
    exact ⟨rfl, truthR_ok _⟩
  · split at h <;> cases h
    rw [← twoR_eq]
    exact ⟨rfl, twoR_ok _ _ _⟩
  · cases h

theorem doR_ok (op : Int) (l : List Int) (x : AV) (hx : x = .rs l.length 1 (l.map (AV.int .i64)) ∨ (l = [] ∧ x = .nslice)) : ValOK Tryd.prog gl 9 [.int .i64 op, x] (.tuple [.int .i64 (doI op l).1, .int .i64 (doI op l).2]) := by
  rcases hx with rfl | ⟨rfl, rfl⟩
  · match l with
    | [] =>
      refine fn_val follows noNum R2_sound Tryd.func9 rfl ?_
      repeat' ((conv => whnf); first | (with_reducible refine condT ?_ ?_; (focus ((first | assumption | decide | (simp; done) | (simp; omega)); done))) | (with_reducible refine condF ?_ ?_; (focus ((first | assumption | decide | (simp; done) | (simp; omega)); done))) | with_reducible refine condB (fun h => ?_) (fun h => ?_) | (with_reducible refine bndI ?_ ?_ ?_; (focus ((first | decide | omega | (simp; done) | (simp; omega)); done)); (focus ((first | decide | omega | (simp; done) | (simp; omega)); done))) | (with_reducible refine bndI' ?_ ?_ ?_; (focus ((first | decide | omega | (simp; done) | (simp; omega)); done)); (focus ((first | decide | omega | (simp; done) | (simp; omega)); done))) | with_reducible refine exI rfl ?_ | with_reducible refine eqR rfl ?_)
      all_goals (try simp_all [resOf, doI])
    | [a] =>
      refine fn_val follows noNum R2_sound Tryd.func9 rfl ?_
      repeat' ((conv => whnf); first | (with_reducible refine condT ?_ ?_; (focus ((first | assumption | decide | (simp; done) | (simp; omega)); done))) | (with_reducible refine condF ?_ ?_; (focus ((first | assumption | decide | (simp; done) | (simp; omega)); done))) | with_reducible refine condB (fun h => ?_) (fun h => ?_) | (with_reducible refine bndI ?_ ?_ ?_; (focus ((first | decide | omega | (simp; done) | (simp; omega)); done)); (focus ((first | decide | omega | (simp; done) | (simp; omega)); done))) | (with_reducible refine bndI' ?_ ?_ ?_; (focus ((first | decide | omega | (simp; done) | (simp; omega)); done)); (focus ((first | decide | omega | (simp; done) | (simp; omega)); done))) | with_reducible refine exI rfl ?_ | with_reducible refine eqR rfl ?_)
      all_goals (try simp_all [resOf, doI, oneI])
    | [a, b] =>
      refine fn_val follows noNum R2_sound Tryd.func9 rfl ?_
      repeat' ((conv => whnf); first | (with_reducible refine condT ?_ ?_; (focus ((first | assumption | decide | (simp; done) | (simp; omega)); done))) | (with_reducible refine condF ?_ ?_; (focus ((first | assumption | decide | (simp; done) | (simp; omega)); done))) | with_reducible refine condB (fun h => ?_) (fun h => ?_) | (with_reducible refine bndI ?_ ?_ ?_; (focus ((first | decide | omega | (simp; done) | (simp; omega)); done)); (focus ((first | decide | omega | (simp; done) | (simp; omega)); done))) | (with_reducible refine bndI' ?_ ?_ ?_; (focus ((first | decide | omega | (simp; done) | (simp; omega)); done)); (focus ((first | decide | omega | (simp; done) | (simp; omega)); done))) | with_reducible refine exI rfl ?_ | with_reducible refine eqR rfl ?_)
      all_goals (try simp_all [resOf, doI])
      all_goals (rw [if_neg (by omega)]; exact ⟨rfl, rfl⟩)
    | a :: b :: c :: l =>
      refine fn_val follows noNum R2_sound Tryd.func9 rfl ?_
      have h1 : (((a :: b :: c :: l).length : Int) == 1) = false := by simp; omega
      have h2 : (((a :: b :: c :: l).length : Int) == 2) = false := by simp; omega
      repeat' ((conv => whnf); first | (with_reducible refine condT ?_ ?_; (focus ((first | assumption | decide | (simp; done) | (simp; omega)); done))) | (with_reducible refine condF ?_ ?_; (focus ((first | assumption | decide | (simp; done) | (simp; omega)); done))) | with_reducible refine condB (fun h => ?_) (fun h => ?_) | (with_reducible refine bndI ?_ ?_ ?_; (focus ((first | decide | omega | (simp; done) | (simp; omega)); done)); (focus ((first | decide | omega | (simp; done) | (simp; omega)); done))) | (with_reducible refine bndI' ?_ ?_ ?_; (focus ((first | decide | omega | (simp; done) | (simp; omega)); done)); (focus ((first | decide | omega | (simp; done) | (simp; omega)); done))) | with_reducible refine exI rfl ?_ | with_reducible refine eqR rfl ?_)
      all_goals (try simp_all [resOf, doI])
  · refine fn_val follows noNum R2_sound Tryd.func9 rfl ?_
    repeat' ((conv => whnf); first | (with_reducible refine condT ?_ ?_; (focus ((first | assumption | decide | (simp; done) | (simp; omega)); done))) | (with_reducible refine condF ?_ ?_; (focus ((first | assumption | decide | (simp; done) | (simp; omega)); done))) | with_reducible refine condB (fun h => ?_) (fun h => ?_) | (with_reducible refine bndI ?_ ?_ ?_; (focus ((first | decide | omega | (simp; done) | (simp; omega)); done)); (focus ((first | decide | omega | (simp; done) | (simp; omega)); done))) | (with_reducible refine bndI' ?_ ?_ ?_; (focus ((first | decide | omega | (simp; done) | (simp; omega)); done)); (focus ((first | decide | omega | (simp; done) | (simp; omega)); done))) | with_reducible refine exI rfl ?_ | with_reducible refine eqR rfl ?_)
    all_goals (try simp_all [resOf, doI])

/-- How firmly an operator binds. -/
def levelI (op : Int) : Int := if op < 1 ∨ 16 < op then 0 else ([11, 11, 10, 10, 1, 2, 3, 3, 4, 4, 5, 6, 7, 8, 8, 9] : List Int).getD (op - 1).toNat 0

theorem ops_cases (op : Int) : (op < 1 ∨ 16 < op) ∨ op = 1 ∨ op = 2 ∨ op = 3 ∨ op = 4 ∨ op = 5 ∨ op = 6 ∨ op = 7 ∨ op = 8 ∨ op = 9 ∨ op = 10 ∨ op = 11 ∨ op = 12 ∨ op = 13 ∨ op = 14 ∨ op = 15 ∨ op = 16 := by omega

theorem level_ok (op : Int) : ValOK Tryd.prog gl 10 [.int .i64 op] (.int .i64 (levelI op)) := by
  rcases ops_cases op with hout | rfl | rfl | rfl | rfl | rfl | rfl | rfl | rfl | rfl | rfl | rfl | rfl | rfl | rfl | rfl | rfl
  · refine fn_val follows noNum none_sound Tryd.func10 rfl ?_
    repeat' ((conv => whnf); first | (with_reducible refine condT ?_ ?_; (focus ((first | assumption | decide | (simp; done) | (simp; omega)); done))) | (with_reducible refine condF ?_ ?_; (focus ((first | assumption | decide | (simp; done) | (simp; omega)); done))) | with_reducible refine condB (fun h => ?_) (fun h => ?_) | (with_reducible refine bndI ?_ ?_ ?_; (focus ((first | decide | omega | (simp; done) | (simp; omega)); done)); (focus ((first | decide | omega | (simp; done) | (simp; omega)); done))) | (with_reducible refine bndI' ?_ ?_ ?_; (focus ((first | decide | omega | (simp; done) | (simp; omega)); done)); (focus ((first | decide | omega | (simp; done) | (simp; omega)); done))) | with_reducible refine exI rfl ?_ | with_reducible refine eqR rfl ?_)
    simp [resOf, levelI, hout]
  all_goals
    refine fn_val follows noNum none_sound Tryd.func10 rfl ?_
    repeat' ((conv => whnf); first | (with_reducible refine condT ?_ ?_; (focus ((first | assumption | decide | (simp; done) | (simp; omega)); done))) | (with_reducible refine condF ?_ ?_; (focus ((first | assumption | decide | (simp; done) | (simp; omega)); done))) | with_reducible refine condB (fun h => ?_) (fun h => ?_) | (with_reducible refine bndI ?_ ?_ ?_; (focus ((first | decide | omega | (simp; done) | (simp; omega)); done)); (focus ((first | decide | omega | (simp; done) | (simp; omega)); done))) | (with_reducible refine bndI' ?_ ?_ ?_; (focus ((first | decide | omega | (simp; done) | (simp; omega)); done)); (focus ((first | decide | omega | (simp; done) | (simp; omega)); done))) | with_reducible refine exI rfl ?_ | with_reducible refine eqR rfl ?_)
    rfl

theorem levelR_ok (op : Int) : ValOK Tryd.prog gl 11 [.int .i64 op] (.int .i64 (levelI op)) := by
  rcases ops_cases op with hout | rfl | rfl | rfl | rfl | rfl | rfl | rfl | rfl | rfl | rfl | rfl | rfl | rfl | rfl | rfl | rfl
  · refine fn_val follows noNum none_sound Tryd.func11 rfl ?_
    repeat' ((conv => whnf); first | (with_reducible refine condT ?_ ?_; (focus ((first | assumption | decide | (simp; done) | (simp; omega)); done))) | (with_reducible refine condF ?_ ?_; (focus ((first | assumption | decide | (simp; done) | (simp; omega)); done))) | with_reducible refine condB (fun h => ?_) (fun h => ?_) | (with_reducible refine bndI ?_ ?_ ?_; (focus ((first | decide | omega | (simp; done) | (simp; omega)); done)); (focus ((first | decide | omega | (simp; done) | (simp; omega)); done))) | (with_reducible refine bndI' ?_ ?_ ?_; (focus ((first | decide | omega | (simp; done) | (simp; omega)); done)); (focus ((first | decide | omega | (simp; done) | (simp; omega)); done))) | with_reducible refine exI rfl ?_ | with_reducible refine eqR rfl ?_)
    all_goals (try (simp [resOf, levelI, hout]; done))
    rename_i h1
    simp at h1 h
    omega
  all_goals
    refine fn_val follows noNum none_sound Tryd.func11 rfl ?_
    repeat' ((conv => whnf); first | (with_reducible refine condT ?_ ?_; (focus ((first | assumption | decide | (simp; done) | (simp; omega)); done))) | (with_reducible refine condF ?_ ?_; (focus ((first | assumption | decide | (simp; done) | (simp; omega)); done))) | with_reducible refine condB (fun h => ?_) (fun h => ?_) | (with_reducible refine bndI ?_ ?_ ?_; (focus ((first | decide | omega | (simp; done) | (simp; omega)); done)); (focus ((first | decide | omega | (simp; done) | (simp; omega)); done))) | (with_reducible refine bndI' ?_ ?_ ?_; (focus ((first | decide | omega | (simp; done) | (simp; omega)); done)); (focus ((first | decide | omega | (simp; done) | (simp; omega)); done))) | with_reducible refine exI rfl ?_ | with_reducible refine eqR rfl ?_)
    rfl

def F5 (f : Nat) (xs : List AV) : Option AV := match f with
  | 8 => match xs with
    | [.int .i64 op, .rs _ 1 cs] => match intsOf cs with
      | some l => some (.tuple [.int .i64 (doI op l).1, .int .i64 (doI op l).2])
      | none => none
    | [.int .i64 op, .nslice] => some (.tuple [.int .i64 0, .int .i64 2])
    | _ => none
  | 9 => match xs with
    | [.int .i64 op, .rs _ 1 cs] => match intsOf cs with
      | some l => some (.tuple [.int .i64 (doI op l).1, .int .i64 (doI op l).2])
      | none => none
    | [.int .i64 op, .nslice] => some (.tuple [.int .i64 0, .int .i64 2])
    | _ => none
  | 10 => match xs with | [.int .i64 op] => some (.int .i64 (levelI op)) | _ => none
  | 11 => match xs with | [.int .i64 op] => some (.int .i64 (levelI op)) | _ => none
  | _ => none
theorem F5_sound : OrcSound Tryd.prog gl (orcZ F5) := orcZ_sound fun f xs r h => by
  unfold F5 at h
  split at h
  · split at h <;> try (cases h; done)
    · split at h <;> cases h
      rename_i n cs _ l hl
      refine ⟨rfl, ValOK.rs (pre := [_]) (post := []) fun hc => ?_⟩
      have := intsOf_some hl; subst this
      simp at hc; subst hc
      exact do_ok _ _ _ (.inl rfl)
    · cases h; exact ⟨rfl, do_ok _ [] _ (.inr ⟨rfl, rfl⟩)⟩
  · split at h <;> try (cases h; done)
    · split at h <;> cases h
      rename_i n cs _ l hl
      refine ⟨rfl, ValOK.rs (pre := [_]) (post := []) fun hc => ?_⟩
      have := intsOf_some hl; subst this
      simp at hc; subst hc
      exact doR_ok _ _ _ (.inl rfl)
    · cases h; exact ⟨rfl, doR_ok _ [] _ (.inr ⟨rfl, rfl⟩)⟩
  · split at h <;> cases h
    exact ⟨rfl, level_ok _⟩
  · split at h <;> cases h
    exact ⟨rfl, levelR_ok _⟩
  · cases h

theorem orc_sound : OrcSound Tryd.prog Run.gl (orcOr (tblO [(6, [])]) (orcZ F5)) := orcOr_sound Run.known6 F5_sound

theorem call8 (op : Int) (l : List Int) (H : AHeap) : acall Tryd.prog (orcOr (tblO [(6, [])]) (orcZ F5)) H 8 [.int .i64 op, .rs l.length 1 (l.map (AV.int .i64))] = some (.tuple [.int .i64 (doI op l).1, .int .i64 (doI op l).2], H) := by
  have h : hasBody Tryd.prog 8 = true := by kernel_rfl
  have h2 : frzL (frz H 30) [.int .i64 op, .rs l.length 1 (l.map (AV.int .i64))] = some [.int .i64 op, .rs l.length 1 (l.map (AV.int .i64))] := rfl
  have h3 : tblO [(6, [])] 8 [.int .i64 op, .rs l.length 1 (l.map (AV.int .i64))] H = none := rfl
  simp only [acall, h, if_true, orcOr, h3, orcZ, h2, F5, intsOf_map]
theorem call9 (op : Int) (l : List Int) (H : AHeap) : acall Tryd.prog (orcOr (tblO [(6, [])]) (orcZ F5)) H 9 [.int .i64 op, .rs l.length 1 (l.map (AV.int .i64))] = some (.tuple [.int .i64 (doI op l).1, .int .i64 (doI op l).2], H) := by
  have h : hasBody Tryd.prog 9 = true := by kernel_rfl
  have h2 : frzL (frz H 30) [.int .i64 op, .rs l.length 1 (l.map (AV.int .i64))] = some [.int .i64 op, .rs l.length 1 (l.map (AV.int .i64))] := rfl
  have h3 : tblO [(6, [])] 9 [.int .i64 op, .rs l.length 1 (l.map (AV.int .i64))] H = none := rfl
  simp only [acall, h, if_true, orcOr, h3, orcZ, h2, F5, intsOf_map]

theorem law_ok (op : Int) (l : List Int) : ValOK Tryd.prog Run.gl 4 [.int .i64 op, .rs l.length 1 (l.map (AV.int .i64))] (.bool true) := by
  refine fn_val follows noNum orc_sound Tryd.func4 rfl ?_
  repeat' ((conv => whnf); first | with_reducible refine exI (call8 _ _ _) ?_ | with_reducible refine exI (call9 _ _ _) ?_ | (first | (with_reducible refine condT ?_ ?_; (focus ((first | assumption | decide | (simp; done) | (simp; omega)); done))) | (with_reducible refine condF ?_ ?_; (focus ((first | assumption | decide | (simp; done) | (simp; omega)); done))) | with_reducible refine condB (fun h => ?_) (fun h => ?_) | (with_reducible refine bndI ?_ ?_ ?_; (focus ((first | decide | omega | (simp; done) | (simp; omega)); done)); (focus ((first | decide | omega | (simp; done) | (simp; omega)); done))) | (with_reducible refine bndI' ?_ ?_ ?_; (focus ((first | decide | omega | (simp; done) | (simp; omega)); done)); (focus ((first | decide | omega | (simp; done) | (simp; omega)); done))) | with_reducible refine exI rfl ?_ | with_reducible refine eqR rfl ?_))
  all_goals (try (simp_all [resOf]; done))
theorem law_nil (op : Int) : ValOK Tryd.prog Run.gl 4 [.int .i64 op, .nslice] (.bool true) := by
  refine fn_val follows noNum orc_sound Tryd.func4 rfl ?_
  repeat' ((conv => whnf); first | (with_reducible refine condT ?_ ?_; (focus ((first | assumption | decide | (simp; done) | (simp; omega)); done))) | (with_reducible refine condF ?_ ?_; (focus ((first | assumption | decide | (simp; done) | (simp; omega)); done))) | with_reducible refine condB (fun h => ?_) (fun h => ?_) | (with_reducible refine bndI ?_ ?_ ?_; (focus ((first | decide | omega | (simp; done) | (simp; omega)); done)); (focus ((first | decide | omega | (simp; done) | (simp; omega)); done))) | (with_reducible refine bndI' ?_ ?_ ?_; (focus ((first | decide | omega | (simp; done) | (simp; omega)); done)); (focus ((first | decide | omega | (simp; done) | (simp; omega)); done))) | with_reducible refine exI rfl ?_ | with_reducible refine eqR rfl ?_)
  all_goals (try (simp_all [resOf]; done))

def Qi (us : List AV) : Prop := ∃ n, us = [.int .i64 n] ∧ (Lit.int .i64 n).wf = true
def Qs : List (AV → Prop) := [fun u => ∃ n, u = .int .i64 n ∧ (Lit.int .i64 n).wf = true, fun u => u = .nslice ∨ ∃ l : List (List AV), (∀ u ∈ l, Qi u ∧ u.length = 1) ∧ u = .rs l.length 1 l.flatten ∧ l.length ≤ maxLen]
theorem opens : OpensAll Tryd.prog Tryd.f4.params.toList Qs := by
  rw [Tryd.params4]
  exact ⟨opensV_int Tryd.underlying3, opensV_slice Tryd.underlying25 (by kernel_rfl) (by decide) (opens_int Tryd.underlying2), trivial⟩
theorem flat_ints : ∀ l : List (List AV), (∀ u ∈ l, Qi u ∧ u.length = 1) → ∃ ns : List Int, l.flatten = ns.map (AV.int .i64) ∧ l.length = ns.length
  | [], h => ⟨[], rfl, rfl⟩
  | u :: l, h => by
    obtain ⟨⟨n, rfl, _⟩, _⟩ := h u (by simp)
    obtain ⟨ns, h1, h2⟩ := flat_ints l fun v hv => h v (by simp [hv])
    exact ⟨n :: ns, by simp [h1], by simp [h2]⟩
theorem law (us : List AV) (h : AllQ Qs us) : ValOK Tryd.prog Run.gl 4 us (.bool true) := by
  obtain ⟨_, _, rfl, ⟨op, rfl, _⟩, h1⟩ := allQ_cons h
  obtain ⟨_, _, rfl, hl, h2⟩ := allQ_cons h1
  cases allQ_nil h2
  rcases hl with rfl | ⟨l, hl, rfl, _⟩
  · exact law_nil op
  · obtain ⟨ns, e1, e2⟩ := flat_ints l hl
    rw [e1, e2]
    exact law_ok op ns
theorem solid : Solid Tryd.prog := by unfold Solid; kernel_rfl
end Go.Proofs.YtdpdllaebdbddaaDoor.dos

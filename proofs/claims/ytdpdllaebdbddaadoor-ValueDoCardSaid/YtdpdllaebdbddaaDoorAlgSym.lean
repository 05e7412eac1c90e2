/-
  'cantileverlaw07.ValueAlgebra': the law, of numbers alone, and the walk through its code.
-/
import Derived.Test.YtdpdllaebdbddaaDoorAlgMath
import Derived.Test.YtdpdllaebdbddaaDoorRunLives
import Derived.Test.YtdpdllaebdbddaaDoorAbs38
set_option linter.unusedVariables false
set_option linter.unusedSimpArgs false
namespace Go.Proofs.YtdpdllaebdbddaaDoor.alg
open Go.Abs vsym
set_option maxRecDepth 100000

def F3 (f : Nat) (xs : List AV) : Option AV := match f with
  | 8 => match xs with
    | [.int .i64 op, .rs _ 1 cs] => match intsOf cs with
      | some l => some (.tuple [.int .i64 (doI op l).1, .int .i64 (doI op l).2])
      | none => none
    | _ => none
  | _ => none
theorem F3_sound {gl : Glob} : OrcSound Tryd.prog gl (orcZ F3) := orcZ_sound fun f xs r h => by
  unfold F3 at h
  split at h
  · split at h <;> try (cases h; done)
    split at h <;> cases h
    rename_i n cs _ l hl
    refine ⟨rfl, ValOK.rs (pre := [_]) (post := []) fun hc => ?_⟩
    have := intsOf_some hl; subst this
    simp at hc; subst hc
    exact do_ok _ _ _ (.inl rfl)
  · cases h

/-- What 'done' answers. -/
theorem done_ok {gl : Glob} (op : Int) (l : List Int) : ValOK Tryd.prog gl 7 [.int .i64 op, .rs l.length 1 (l.map (AV.int .i64))] (.int .i64 (doI op l).1) := by
  refine fn_val follows noNum F3_sound Tryd.func7 rfl ?_
  repeat' ((conv => whnf); first | with_reducible refine exI (callZ (fa := [.int .i64 op, .rs l.length 1 (l.map (AV.int .i64))]) (r := .tuple [.int .i64 (doI op l).1, .int .i64 (doI op l).2]) (by kernel_rfl) rfl (by simp only [F3, intsOf_map])) ?_ | with_reducible refine exI rfl ?_)
  simp [resOf]

def F4 (f : Nat) (xs : List AV) : Option AV := match f with
  | 7 => match xs with
    | [.int .i64 op, .rs _ 1 cs] => match intsOf cs with
      | some l => some (.int .i64 (doI op l).1)
      | none => none
    | _ => none
  | _ => none
theorem F4_sound {gl : Glob} : OrcSound Tryd.prog gl (orcZ F4) := orcZ_sound fun f xs r h => by
  unfold F4 at h
  split at h
  · split at h <;> try (cases h; done)
    split at h <;> cases h
    rename_i n cs _ l hl
    refine ⟨rfl, ValOK.rs (pre := [_]) (post := []) fun hc => ?_⟩
    have := intsOf_some hl; subst this
    simp at hc; subst hc
    exact done_ok _ _
  · cases h

theorem orc_sound : OrcSound Tryd.prog Run.gl (orcOr (tblO [(6, [])]) (orcZ F4)) := orcOr_sound Run.known6 F4_sound

set_option maxHeartbeats 40000000 in
theorem law_ok (a b c : Int) (ha : (Lit.int .i64 a).wf = true) (hb : (Lit.int .i64 b).wf = true) : ValOK Tryd.prog Run.gl 3 [.int .i64 a, .int .i64 b, .int .i64 c] (.bool true) := by
  have e1 := alg1 a b c
  have e2 := alg2 a b
  have e3 := alg3 a b c
  have e4 := alg4 a b
  have e5 := alg5 a b
  have e6 := alg6 a b
  have e7 := alg7 a b
  have e8 := alg8 a b
  have e9 := alg9 a b ha hb
  refine fn_val follows noNum orc_sound Tryd.func3 rfl ?_
  repeat' ((conv => whnf); first | (with_reducible refine condT ?_ ?_; (focus ((first | assumption | decide | (simp; done)); done))) | (with_reducible refine condF ?_ ?_; (focus ((first | assumption | decide | (simp; done)); done))) | with_reducible refine condB (fun h => ?_) (fun h => ?_) | (with_reducible refine bndI ?_ ?_ ?_; (focus ((first | decide | omega | (simp; done) | (simp; omega)); done)); (focus ((first | decide | omega | (simp; done) | (simp; omega)); done))) | (with_reducible refine bndI' ?_ ?_ ?_; (focus ((first | decide | omega | (simp; done) | (simp; omega)); done)); (focus ((first | decide | omega | (simp; done) | (simp; omega)); done))) | with_reducible refine exI rfl ?_ | with_reducible refine eqR rfl ?_)
  show AV.bool _ = AV.bool true
  rw [e9]

def Qs : List (AV → Prop) := [fun u => ∃ n, u = .int .i64 n ∧ (Lit.int .i64 n).wf = true, fun u => ∃ n, u = .int .i64 n ∧ (Lit.int .i64 n).wf = true, fun u => ∃ n, u = .int .i64 n ∧ (Lit.int .i64 n).wf = true]
theorem opens : OpensAll Tryd.prog Tryd.f3.params.toList Qs := by
  rw [Tryd.params3]
  have h := opensV_int Tryd.underlying2
  exact ⟨h, h, h, trivial⟩
theorem law (us : List AV) (h : AllQ Qs us) : ValOK Tryd.prog Run.gl 3 us (.bool true) := by
  obtain ⟨_, _, rfl, ⟨a, rfl, ha⟩, h1⟩ := allQ_cons h
  obtain ⟨_, _, rfl, ⟨b, rfl, hb⟩, h2⟩ := allQ_cons h1
  obtain ⟨_, _, rfl, ⟨c, rfl, hc⟩, h3⟩ := allQ_cons h2
  cases allQ_nil h3
  exact law_ok a b c ha hb
theorem solid : Solid Tryd.prog := by unfold Solid; kernel_rfl
end Go.Proofs.YtdpdllaebdbddaaDoor.alg

/-
  Texts of this proof, one behind the other (part 7).
-/
import Derived.Test.YtajhailaofchlaaDoorPack6
import Derived.Test.YtajhailaofchlaaDoorRows
import Derived.KernelRfl
import Derived.Shelf.SlIter.Nil
import Derived.Shelf.SortM.Plain
import Derived.Shelf.SortM.SortNone
import Derived.Test.YtajhailaofchlaaDoorProg

/-
  Expressions that are the same.
-/
section
set_option linter.unusedVariables false
set_option linter.unusedSimpArgs false
namespace Go.Proofs.YtajhailaofchlaaDoor.lex
open Go.Abs Go.RowKit
set_option maxRecDepth 100000
set_option maxHeartbeats 4000000
variable {gl : Glob}
def allB {α β : Type} (f : α → β → Bool) : List α → List β → Bool
  | [], [] => true
  | x :: a, y :: b => f x y && allB f a b
  | _, _ => false
theorem allB_len {α β : Type} (f : α → β → Bool) : ∀ (a : List α) (b : List β), a.length ≠ b.length → allB f a b = false
  | [], [], h => by simp at h
  | [], _ :: _, _ => rfl
  | _ :: _, [], _ => rfl
  | x :: a, y :: b, h => by simp only [allB, allB_len f a b (by simpa using h), Bool.and_false]
theorem allB_take {α β : Type} (f : α → β → Bool) : ∀ (a : List α) (b : List β) (i : Nat) (h : i < a.length) (h' : i < b.length), allB f (a.take (i + 1)) (b.take (i + 1)) = (allB f (a.take i) (b.take i) && f a[i] b[i])
  | x :: a, y :: b, 0, h, h' => by simp [allB]
  | x :: a, y :: b, i + 1, h, h' => by
    have := allB_take f a b i (by simpa using h) (by simpa using h')
    simp only [List.take_succ_cons, allB, List.getElem_cons_succ] at this ⊢; rw [this, Bool.and_assoc]
theorem allB_get {α β : Type} (f : α → β → Bool) : ∀ {a : List α} {b : List β} {i : Nat} (h : i < a.length) (h' : i < b.length), f a[i] b[i] = false → allB f a b = false
  | x :: a, y :: b, 0, h, h', e => by simp only [List.getElem_cons_zero] at e; simp only [allB, e, Bool.false_and]
  | x :: a, y :: b, i + 1, h, h', e => by simp only [List.getElem_cons_succ] at e; simp only [allB, allB_get f (a := a) (b := b) (by simpa using h) (by simpa using h') e, Bool.and_false]
theorem allB_refl {α : Type} (f : α → α → Bool) : ∀ {a : List α}, (∀ x ∈ a, f x x = true) → allB f a a = true
  | [], _ => rfl
  | x :: a, h => by simp only [allB, h x (by simp), allB_refl f (a := a) fun y hy => h y (by simp [hy]), Bool.true_and]
mutual
def sameE : Ex → Ex → Bool
  | .mk o n s k, .mk o' n' s' k' => (o == o') && ((n == n') && ((s == s') && sameL k k'))
def sameL : List Ex → List Ex → Bool
  | [], [] => true
  | x :: a, y :: b => sameE x y && sameL a b
  | _, _ => false
end
theorem sameL_eq : ∀ (a b : List Ex), sameL a b = allB sameE a b
  | [], [] => by simp only [sameL, allB]
  | [], _ :: _ => by simp only [sameL, allB]
  | _ :: _, [] => by simp only [sameL, allB]
  | x :: a, y :: b => by simp only [sameL, allB, sameL_eq a b]
theorem two_refs (a b : Ex) : refsL [.agg a.cells, .agg b.cells] [] = [] := by
  obtain ⟨o, n, s, k⟩ := a
  obtain ⟨o', n', s', k'⟩ := b
  simp only [Ex.cells]; rfl
def famTwo {g : Nat} (hb : hasBody Tryd.prog g = true) (G : Ex × Ex → Prop) (h : ∀ p, G p → ValOK Tryd.prog gl g [.agg p.1.cells, .agg p.2.cells] (.bool (sameE p.1 p.2))) : Fam Tryd.prog gl := { I := Ex × Ex, f := g, G := G, A := fun p => [.agg p.1.cells, .agg p.2.cells], R := fun p => .bool (sameE p.1 p.2), body := hb, inj := (fun i j _ _ h => by simp only [List.cons.injEq, AV.agg.injEq, and_true] at h; rw [cells_inj _ _ h.1, cells_inj _ _ h.2]), ok := (fun p hp => ⟨two_refs p.1 p.2, h p hp⟩) }
theorem eqfE_ok (a b : List Ex) (ha : a.length ≤ 9223372036854775807) (each : ∀ x ∈ a, ∀ y ∈ b, ValOK Tryd.prog gl 22 [.agg x.cells, .agg y.cells] (.bool (sameE x y))) : ValOK Tryd.prog gl 58 [exA a, exA b, .func (.func 22) [] []] (.bool (sameL a b)) := by
  obtain ⟨O, hO, p1, -⟩ := fams (P := Tryd.prog) (gl := gl) [famTwo (g := 22) (by kernel_rfl) (fun p => p.1 ∈ a ∧ p.2 ∈ b) (fun p hp => each _ hp.1 _ hp.2)] rfl
  have q1 : ∀ x ∈ a, ∀ y ∈ b, ∀ H, acall Tryd.prog O H 22 [.agg x.cells, .agg y.cells] = some (.bool (sameE x y), H) := fun x hx y hy => p1 (x, y) ⟨hx, hy⟩
  clear p1
  rw [sameL_eq]
  unfold exA
  refine fn_val follows noNum hO Tryd.func58 rfl ?_
  by_cases hl : a.length = b.length
  · have e0 : ((a.length : Int) == (b.length : Int)) = true := by rw [hl]; simp
    repeat' ((conv => whnf); first | refine stp ?_ | with_reducible refine condB (fun h => ?_) (fun h => ?_))
    conv => whnf
    refine ⟨Nat, (fun i => i ≤ a.length ∧ allB sameE (a.take i) (b.take i) = true), (fun i => [(1, .rs b.length 4 (exC b)), (2, .func (.func 22) [] []), (15, .rs a.length 4 (exC a)), (16, .int .i64 a.length), (17, .int .i64 i)]), (fun _ => []), (fun i => a.length - i), ⟨0, ⟨Nat.zero_le _, rfl⟩, FgL.mk0 rfl ?_⟩, ?_⟩
    · (repeat (first | exact trivial | refine stw ?_))
    rintro i ⟨hi, hall⟩
    dsimp only
    by_cases hlt : i < a.length
    · have e1 : decide ((i : Int) < (a.length : Int)) = true := by simpa using hlt
      have hlt' : i < b.length := by omega
      have hat := allB_take sameE a b i hlt hlt'
      rw [hall, Bool.true_and] at hat
      have hfalse : sameE a[i] b[i] = false → allB sameE a b = false := allB_get sameE hlt hlt'
      have hx := ex4 a i hlt
      have hy := ex4 b i hlt'
      have q2 := q1 a[i] (get_mem hlt) b[i] (get_mem hlt')
      generalize a[i] = x at *
      generalize b[i] = y at *
      generalize sameE x y = w at *
      obtain ⟨o, n, s, k⟩ := x
      obtain ⟨o', n', s', k'⟩ := y
      simp only [Ex.cells] at hx hy q2
      cases w with
      | true =>
        repeat' ((conv => whnf); first | (with_reducible refine exI (q2 _) ?_) | (with_reducible refine ixJ i rfl ?_ ?_; (focus (omega))) | (refine exI hx ?_) | (refine exI hy ?_) | (first | refine stp ?_ | with_reducible refine condB (fun h => ?_) (fun h => ?_)))
        conv => whnf
        refine ⟨i + 1, ⟨hlt, hat⟩, by show a.length - (i + 1) < a.length - i; omega, FgL.mk0 rfl ?_⟩
        (repeat (first | exact trivial | refine stw ?_))
      | false =>
        rw [hfalse rfl]
        repeat' ((conv => whnf); first | (with_reducible refine exI (q2 _) ?_) | (with_reducible refine ixJ i rfl ?_ ?_; (focus (omega))) | (refine exI hx ?_) | (refine exI hy ?_) | (first | refine stp ?_ | with_reducible refine condB (fun h => ?_) (fun h => ?_)))
        all_goals rfl
    · have e1 : decide ((i : Int) < (a.length : Int)) = false := by simpa using hlt
      have hi2 : i = a.length := by have := hi; omega
      subst hi2
      rw [List.take_length, hl, List.take_length] at hall
      rw [hall]
      repeat' ((conv => whnf); first | refine stp ?_ | with_reducible refine condB (fun h => ?_) (fun h => ?_))
      all_goals rfl
  · rw [allB_len _ _ _ hl]
    have e0 : ((a.length : Int) == (b.length : Int)) = false := by simpa using (fun h => hl (by omega))
    repeat' ((conv => whnf); first | refine stp ?_ | with_reducible refine condB (fun h => ?_) (fun h => ?_))
    all_goals rfl
theorem sameX_ok : ∀ (n : Nat) (a b : Ex), sizeE a ≤ n → okE a → ValOK Tryd.prog gl 22 [.agg a.cells, .agg b.cells] (.bool (sameE a b))
  | n, .mk o m s k, .mk o' m' s' k', h, hok => by
    have hk := okE_kids hok
    simp only [Ex.kids, Ex.name, okN] at hk
    simp only [sizeE] at h
    obtain ⟨O, hO, p1, -⟩ := fams (P := Tryd.prog) (gl := gl) [{ I := Unit, f := 58, G := fun _ => True, A := fun _ => [exA k, exA k', .func (.func 22) [] []], R := fun _ => .bool (sameL k k'), body := (by kernel_rfl), inj := (fun _ _ _ _ _ => rfl), ok := (fun _ _ => ⟨rfl, eqfE_ok k k' hk.1.2 fun x hx y _ => match n, (show 1 ≤ n by omega), h with | n + 1, _, h => sameX_ok n x y (by have := sizeL_mem _ _ hx; omega) (okL_get hk.2 _ hx)⟩) }] rfl
    have q1 : ∀ H, acall Tryd.prog O H 58 [exA k, exA k', .func (.func 22) [] []] = some (.bool (sameL k k'), H) := p1 () trivial
    clear p1
    simp only [Ex.cells, exA, sameE] at q1 ⊢
    generalize sameL k k' = w at *
    refine fn_val follows noNum hO Tryd.func22 rfl ?_
    generalize hb1 : (o == o') = b1
    generalize hb2 : (m == m') = b2
    generalize hb3 : (s == s') = b3
    cases b1 <;> cases b2 <;> cases b3 <;> cases w
    all_goals (repeat' ((conv => whnf); first | (with_reducible refine exI (q1 _) ?_) | (first | refine stp ?_ | with_reducible refine condB (fun h => ?_) (fun h => ?_))))
    all_goals (first | rfl | (simp_all [resOf]; done))
/-- The document's. -/
theorem bne_of {α : Type} [BEq α] {x y : α} {b : Bool} (h : (x == y) = b) : (x != y) = !b := by simp only [bne, h]
theorem sameR_ok : ∀ (n : Nat) (a b : Ex), sizeE a ≤ n → okE a → ValOK Tryd.prog gl 23 [.agg a.cells, .agg b.cells] (.bool (sameE a b))
  | n, .mk o m s k, .mk o' m' s' k', h, hok => by
    have hk := okE_kids hok
    simp only [Ex.kids, Ex.name, okN] at hk
    simp only [sizeE] at h
    obtain ⟨O, hO, p1, -⟩ := fams (P := Tryd.prog) (gl := gl) [famTwo (g := 23) (by kernel_rfl) (fun p => p.1 ∈ k ∧ p.2 ∈ k') (fun p hp => match n, (show 1 ≤ n by omega), h with | n + 1, _, h => sameR_ok n p.1 p.2 (by have := sizeL_mem _ _ hp.1; omega) (okL_get hk.2 _ hp.1))] rfl
    have q1 : ∀ x ∈ k, ∀ y ∈ k', ∀ H, acall Tryd.prog O H 23 [.agg x.cells, .agg y.cells] = some (.bool (sameE x y), H) := fun x hx y hy => p1 (x, y) ⟨hx, hy⟩
    clear p1
    simp only [Ex.cells, sameE, sameL_eq]
    refine fn_val follows noNum hO Tryd.func23 rfl ?_
    by_cases hh : (o == o') = true ∧ (m == m') = true ∧ (s == s') = true ∧ k.length = k'.length
    · obtain ⟨hb1, hb2, hb3, hl⟩ := hh
      have e0 : ((k.length : Int) == (k'.length : Int)) = true := by rw [hl]; simp
      have n1 : (o != o') = false := bne_of hb1
      have n2 : (m != m') = false := bne_of hb2
      have n3 : (!(s == s')) = false := by rw [hb3]; rfl
      have n4 : ((k.length : Int) != (k'.length : Int)) = false := bne_of e0
      rw [hb1, hb2, hb3]
      simp only [Bool.true_and]
      repeat' ((conv => whnf); first | (first | refine stp ?_ | with_reducible refine condB (fun h => ?_) (fun h => ?_)))
      conv => whnf
      refine ⟨Nat, (fun i => i ≤ k.length ∧ allB sameE (k.take i) (k'.take i) = true), (fun i => [(2, .ptr 0 0), (3, .ptr 1 0), (5, .int .i64 i)]), (fun _ => [⟨true, 0, 0, .cells [.int .i64 o, .int .i64 m, .str s, .rs k.length 4 (exC k)] 36⟩, ⟨true, 1, 0, .cells [.int .i64 o', .int .i64 m', .str s', .rs k'.length 4 (exC k')] 36⟩]), (fun i => k.length - i), ⟨0, ⟨Nat.zero_le _, rfl⟩, FgL.mk [0, 1] rfl ?_ ⟨⟨rfl, rfl, rfl, rfl, BodyGe.pre (rest := []) rfl rfl⟩, ⟨rfl, rfl, rfl, rfl, BodyGe.pre (rest := []) rfl rfl⟩, trivial⟩ rfl⟩, ?_⟩
      · (repeat (first | exact trivial | refine stw ?_))
      rintro i ⟨hi, hall⟩
      dsimp only
      by_cases hlt : i < k.length
      · have e1 : decide ((i : Int) < (k.length : Int)) = true := by simpa using hlt
        have hlt' : i < k'.length := by omega
        have hat := allB_take sameE k k' i hlt hlt'
        rw [hall, Bool.true_and] at hat
        have hfalse : sameE k[i] k'[i] = false → allB sameE k k' = false := allB_get sameE hlt hlt'
        have hx := ex4 k i hlt
        have hy := ex4 k' i hlt'
        have q2 := q1 k[i] (get_mem hlt) k'[i] (get_mem hlt')
        generalize k[i] = x at *
        generalize k'[i] = y at *
        generalize sameE x y = w at *
        obtain ⟨xo, xn, xs, xk⟩ := x
        obtain ⟨yo, yn, ys, yk⟩ := y
        simp only [Ex.cells] at hx hy q2
        cases w with
        | true =>
          repeat' ((conv => whnf); first | (with_reducible refine exI (q2 _) ?_) | (with_reducible refine ixJ i rfl ?_ ?_; (focus (omega))) | (refine exI hx ?_) | (refine exI hy ?_) | (first | refine stp ?_ | with_reducible refine condB (fun h => ?_) (fun h => ?_)))
          conv => whnf
          refine ⟨i + 1, ⟨hlt, hat⟩, by show k.length - (i + 1) < k.length - i; omega, FgL.mk [0, 1] rfl ?_ ⟨⟨rfl, rfl, rfl, rfl, BodyGe.pre (rest := []) rfl rfl⟩, ⟨rfl, rfl, rfl, rfl, BodyGe.pre (rest := []) rfl rfl⟩, trivial⟩ rfl⟩
          (repeat (first | exact trivial | refine stw ?_))
        | false =>
          rw [hfalse rfl]
          repeat' ((conv => whnf); first | (with_reducible refine exI (q2 _) ?_) | (with_reducible refine ixJ i rfl ?_ ?_; (focus (omega))) | (refine exI hx ?_) | (refine exI hy ?_) | (first | refine stp ?_ | with_reducible refine condB (fun h => ?_) (fun h => ?_)))
          all_goals rfl
      · have e1 : decide ((i : Int) < (k.length : Int)) = false := by simpa using hlt
        have hi2 : i = k.length := by have := hi; omega
        subst hi2
        rw [List.take_length, hl, List.take_length] at hall
        rw [hall]
        repeat' ((conv => whnf); first | refine stp ?_ | with_reducible refine condB (fun h => ?_) (fun h => ?_))
        all_goals rfl
    · have hw : ((o == o') && ((m == m') && ((s == s') && allB sameE k k'))) = false := by
        by_cases h1 : (o == o') = true
        · by_cases h2 : (m == m') = true
          · by_cases h3 : (s == s') = true
            · rw [allB_len _ _ _ (fun h4 => hh ⟨h1, h2, h3, h4⟩)]; simp
            · simp only [Bool.not_eq_true] at h3; rw [h3]; simp
          · simp only [Bool.not_eq_true] at h2; rw [h2]; simp
        · simp only [Bool.not_eq_true] at h1; rw [h1]; simp
      rw [hw]
      clear hw
      have h4 : k.length = k'.length ↔ ((k.length : Int) == (k'.length : Int)) = true := by rw [beq_iff_eq]; omega
      rw [h4] at hh
      obtain ⟨b1, hb1⟩ : ∃ b1, (o == o') = b1 := ⟨_, rfl⟩
      obtain ⟨b2, hb2⟩ : ∃ b2, (m == m') = b2 := ⟨_, rfl⟩
      obtain ⟨b3, hb3⟩ : ∃ b3, (s == s') = b3 := ⟨_, rfl⟩
      obtain ⟨b4, hb4⟩ : ∃ b4, ((k.length : Int) == (k'.length : Int)) = b4 := ⟨_, rfl⟩
      rw [hb1, hb2, hb3, hb4] at hh
      have n1 := bne_of hb1
      have n2 := bne_of hb2
      have n3 : (!(s == s')) = !b3 := by rw [hb3]
      have n4 := bne_of hb4
      cases b1 <;> cases b2 <;> cases b3 <;> cases b4
      all_goals first | (exact absurd ⟨rfl, rfl, rfl, rfl⟩ hh) | simp only [Bool.not_true, Bool.not_false] at n1 n2 n3 n4
      all_goals (repeat' ((conv => whnf); first | (first | refine stp ?_ | with_reducible refine condB (fun h => ?_) (fun h => ?_))))
      all_goals rfl
/-- The kit's. -/
theorem kexprs_ok (a b : List Ex) (ha : a.length ≤ 9223372036854775807) (each : ∀ x ∈ a, ∀ y ∈ b, ValOK Tryd.prog gl 91 [.agg x.cells, .agg y.cells] (.bool (sameE x y))) : ValOK Tryd.prog gl 80 [exA a, exA b] (.bool (sameL a b)) := by
  obtain ⟨O, hO, p1, -⟩ := fams (P := Tryd.prog) (gl := gl) [famTwo (g := 91) (by kernel_rfl) (fun p => p.1 ∈ a ∧ p.2 ∈ b) (fun p hp => each _ hp.1 _ hp.2)] rfl
  have q1 : ∀ x ∈ a, ∀ y ∈ b, ∀ H, acall Tryd.prog O H 91 [.agg x.cells, .agg y.cells] = some (.bool (sameE x y), H) := fun x hx y hy => p1 (x, y) ⟨hx, hy⟩
  clear p1
  rw [sameL_eq]
  unfold exA
  refine fn_val follows noNum hO Tryd.func80 rfl ?_
  by_cases hl : a.length = b.length
  · have e0 : ((a.length : Int) != (b.length : Int)) = false := bne_of (b := true) (by rw [hl]; simp)
    repeat' ((conv => whnf); first | refine stp ?_ | with_reducible refine condB (fun h => ?_) (fun h => ?_))
    conv => whnf
    refine ⟨Nat, (fun i => i ≤ a.length ∧ allB sameE (a.take i) (b.take i) = true), (fun i => [(0, .rs a.length 4 (exC a)), (1, .rs b.length 4 (exC b)), (5, .int .i64 i)]), (fun _ => []), (fun i => a.length - i), ⟨0, ⟨Nat.zero_le _, rfl⟩, FgL.mk0 rfl ?_⟩, ?_⟩
    · (repeat (first | exact trivial | refine stw ?_))
    rintro i ⟨hi, hall⟩
    dsimp only
    by_cases hlt : i < a.length
    · have e1 : decide ((i : Int) < (a.length : Int)) = true := by simpa using hlt
      have hlt' : i < b.length := by omega
      have hat := allB_take sameE a b i hlt hlt'
      rw [hall, Bool.true_and] at hat
      have hfalse : sameE a[i] b[i] = false → allB sameE a b = false := allB_get sameE hlt hlt'
      have hx := ex4 a i hlt
      have hy := ex4 b i hlt'
      have q2 := q1 a[i] (get_mem hlt) b[i] (get_mem hlt')
      generalize a[i] = x at *
      generalize b[i] = y at *
      generalize sameE x y = w at *
      obtain ⟨o, n, s, k⟩ := x
      obtain ⟨o', n', s', k'⟩ := y
      simp only [Ex.cells] at hx hy q2
      cases w with
      | true =>
        repeat' ((conv => whnf); first | (with_reducible refine exI (q2 _) ?_) | (with_reducible refine ixJ i rfl ?_ ?_; (focus (omega))) | (refine exI hx ?_) | (refine exI hy ?_) | (first | refine stp ?_ | with_reducible refine condB (fun h => ?_) (fun h => ?_)))
        conv => whnf
        refine ⟨i + 1, ⟨hlt, hat⟩, by show a.length - (i + 1) < a.length - i; omega, FgL.mk0 rfl ?_⟩
        (repeat (first | exact trivial | refine stw ?_))
      | false =>
        rw [hfalse rfl]
        repeat' ((conv => whnf); first | (with_reducible refine exI (q2 _) ?_) | (with_reducible refine ixJ i rfl ?_ ?_; (focus (omega))) | (refine exI hx ?_) | (refine exI hy ?_) | (first | refine stp ?_ | with_reducible refine condB (fun h => ?_) (fun h => ?_)))
        all_goals rfl
    · have e1 : decide ((i : Int) < (a.length : Int)) = false := by simpa using hlt
      have hi2 : i = a.length := by have := hi; omega
      subst hi2
      rw [List.take_length, hl, List.take_length] at hall
      rw [hall]
      repeat' ((conv => whnf); first | refine stp ?_ | with_reducible refine condB (fun h => ?_) (fun h => ?_))
      all_goals rfl
  · rw [allB_len _ _ _ hl]
    have e0 : ((a.length : Int) != (b.length : Int)) = true := bne_of (b := false) (by simpa using (fun h => hl (by omega)))
    repeat' ((conv => whnf); first | refine stp ?_ | with_reducible refine condB (fun h => ?_) (fun h => ?_))
    all_goals rfl
theorem kexpr_ok : ∀ (n : Nat) (a b : Ex), sizeE a ≤ n → okE a → ValOK Tryd.prog gl 91 [.agg a.cells, .agg b.cells] (.bool (sameE a b))
  | n, .mk o m s k, .mk o' m' s' k', h, hok => by
    have hk := okE_kids hok
    simp only [Ex.kids, Ex.name, okN] at hk
    simp only [sizeE] at h
    obtain ⟨O, hO, p1, -⟩ := fams (P := Tryd.prog) (gl := gl) [{ I := Unit, f := 80, G := fun _ => True, A := fun _ => [exA k, exA k'], R := fun _ => .bool (sameL k k'), body := (by kernel_rfl), inj := (fun _ _ _ _ _ => rfl), ok := (fun _ _ => ⟨rfl, kexprs_ok k k' hk.1.2 fun x hx y _ => match n, (show 1 ≤ n by omega), h with | n + 1, _, h => kexpr_ok n x y (by have := sizeL_mem _ _ hx; omega) (okL_get hk.2 _ hx)⟩) }] rfl
    have q1 : ∀ H, acall Tryd.prog O H 80 [exA k, exA k'] = some (.bool (sameL k k'), H) := p1 () trivial
    clear p1
    simp only [Ex.cells, exA, sameE] at q1 ⊢
    generalize sameL k k' = w at *
    refine fn_val follows noNum hO Tryd.func91 rfl ?_
    generalize hb1 : (o == o') = b1
    generalize hb2 : (m == m') = b2
    generalize hb3 : (s == s') = b3
    cases b1 <;> cases b2 <;> cases b3 <;> cases w
    all_goals (repeat' ((conv => whnf); first | (with_reducible refine exI (q1 _) ?_) | (first | refine stp ?_ | with_reducible refine condB (fun h => ?_) (fun h => ?_))))
    all_goals (first | rfl | (simp_all [resOf]; done))
end Go.Proofs.YtajhailaofchlaaDoor.lex
end

/-
  Statements that are the same.
-/
section
set_option linter.unusedVariables false
set_option linter.unusedSimpArgs false
namespace Go.Proofs.YtajhailaofchlaaDoor.lex
open Go.Abs Go.RowKit
set_option maxRecDepth 100000
set_option maxHeartbeats 4000000
variable {gl : Glob}
mutual
def sameS : St → St → Bool
  | .mk k n l o x t e, .mk k' n' l' o' x' t' e' => (k == k') && ((n == n') && ((l == l') && ((o == o') && (sameL x x' && (sameSL t t' && sameSL e e')))))
def sameSL : List St → List St → Bool
  | [], [] => true
  | x :: a, y :: b => sameS x y && sameSL a b
  | _, _ => false
end
theorem sameSL_eq : ∀ (a b : List St), sameSL a b = allB sameS a b
  | [], [] => by simp only [sameSL, allB]
  | [], _ :: _ => by simp only [sameSL, allB]
  | _ :: _, [] => by simp only [sameSL, allB]
  | x :: a, y :: b => by simp only [sameSL, allB, sameSL_eq a b]
theorem two_refsS (a b : St) : refsL [.agg a.cells, .agg b.cells] [] = [] := by
  obtain ⟨k, n, l, o, x, t, e⟩ := a
  obtain ⟨k', n', l', o', x', t', e'⟩ := b
  simp only [St.cells]; rfl
def famTwoS {g : Nat} (hb : hasBody Tryd.prog g = true) (G : St × St → Prop) (h : ∀ p, G p → ValOK Tryd.prog gl g [.agg p.1.cells, .agg p.2.cells] (.bool (sameS p.1 p.2))) : Fam Tryd.prog gl := { I := St × St, f := g, G := G, A := fun p => [.agg p.1.cells, .agg p.2.cells], R := fun p => .bool (sameS p.1 p.2), body := hb, inj := (fun i j _ _ h => by simp only [List.cons.injEq, AV.agg.injEq, and_true] at h; rw [scells_inj _ _ h.1, scells_inj _ _ h.2]), ok := (fun p hp => ⟨two_refsS p.1 p.2, h p hp⟩) }
def oneF {f : Nat} {A : List AV} {R : AV} (G : Prop) (hb : hasBody Tryd.prog f = true) (hr : refsL A [] = []) (h : G → ValOK Tryd.prog gl f A R) : Fam Tryd.prog gl := { I := Unit, f := f, G := fun _ => G, A := fun _ => A, R := fun _ => R, body := hb, inj := (fun _ _ _ _ _ => rfl), ok := (fun _ hG => ⟨hr, h hG⟩) }
def famTwoL {g : Nat} (hb : hasBody Tryd.prog g = true) (G : List St × List St → Prop) (h : ∀ p, G p → ValOK Tryd.prog gl g [stA p.1, stA p.2] (.bool (sameSL p.1 p.2))) : Fam Tryd.prog gl := { I := List St × List St, f := g, G := G, A := fun p => [stA p.1, stA p.2], R := fun p => .bool (sameSL p.1 p.2), body := hb, inj := (fun i j _ _ h => by simp only [List.cons.injEq, and_true] at h; rw [stA_inj h.1, stA_inj h.2]), ok := (fun p hp => ⟨rfl, h p hp⟩) }
theorem eqfS_ok (a b : List St) (ha : a.length ≤ 9223372036854775807) (each : ∀ x ∈ a, ∀ y ∈ b, ValOK Tryd.prog gl 79 [.agg x.cells, .agg y.cells] (.bool (sameS x y))) : ValOK Tryd.prog gl 78 [stA a, stA b, .func (.func 79) [] []] (.bool (sameSL a b)) := by
  obtain ⟨O, hO, p1, -⟩ := fams (P := Tryd.prog) (gl := gl) [famTwoS (g := 79) (by kernel_rfl) (fun p => p.1 ∈ a ∧ p.2 ∈ b) (fun p hp => each _ hp.1 _ hp.2)] rfl
  have q1 : ∀ x ∈ a, ∀ y ∈ b, ∀ H, acall Tryd.prog O H 79 [.agg x.cells, .agg y.cells] = some (.bool (sameS x y), H) := fun x hx y hy => p1 (x, y) ⟨hx, hy⟩
  clear p1
  rw [sameSL_eq]
  unfold stA
  refine fn_val follows noNum hO Tryd.func78 rfl ?_
  by_cases hl : a.length = b.length
  · have e0 : ((a.length : Int) == (b.length : Int)) = true := by rw [hl]; simp
    repeat' ((conv => whnf); first | refine stp ?_ | with_reducible refine condB (fun h => ?_) (fun h => ?_))
    conv => whnf
    refine ⟨Nat, (fun i => i ≤ a.length ∧ allB sameS (a.take i) (b.take i) = true), (fun i => [(1, .rs b.length 7 (stC b)), (2, .func (.func 79) [] []), (15, .rs a.length 7 (stC a)), (16, .int .i64 a.length), (17, .int .i64 i)]), (fun _ => []), (fun i => a.length - i), ⟨0, ⟨Nat.zero_le _, rfl⟩, FgL.mk0 rfl ?_⟩, ?_⟩
    · (repeat (first | exact trivial | refine stw ?_))
    rintro i ⟨hi, hall⟩
    dsimp only
    by_cases hlt : i < a.length
    · have e1 : decide ((i : Int) < (a.length : Int)) = true := by simpa using hlt
      have hlt' : i < b.length := by omega
      have hat := allB_take sameS a b i hlt hlt'
      rw [hall, Bool.true_and] at hat
      have hfalse : sameS a[i] b[i] = false → allB sameS a b = false := allB_get sameS hlt hlt'
      have hx := st7 a i hlt
      have hy := st7 b i hlt'
      have q2 := q1 a[i] (get_mem hlt) b[i] (get_mem hlt')
      generalize a[i] = x at *
      generalize b[i] = y at *
      generalize sameS x y = w at *
      obtain ⟨k, n, l, o, x, t, e⟩ := x
      obtain ⟨k', n', l', o', x', t', e'⟩ := y
      simp only [St.cells, exA] at hx hy q2
      cases w with
      | true =>
        repeat' ((conv => whnf); first | (with_reducible refine exI (q2 _) ?_) | (with_reducible refine ixJ i rfl ?_ ?_; (focus (omega))) | (refine exI hx ?_) | (refine exI hy ?_) | (first | refine stp ?_ | with_reducible refine condB (fun h => ?_) (fun h => ?_)))
        conv => whnf
        refine ⟨i + 1, ⟨hlt, hat⟩, by show a.length - (i + 1) < a.length - i; omega, FgL.mk0 rfl ?_⟩
        (repeat (first | exact trivial | refine stw ?_))
      | false =>
        rw [hfalse rfl]
        repeat' ((conv => whnf); first | (with_reducible refine exI (q2 _) ?_) | (with_reducible refine ixJ i rfl ?_ ?_; (focus (omega))) | (refine exI hx ?_) | (refine exI hy ?_) | (first | refine stp ?_ | with_reducible refine condB (fun h => ?_) (fun h => ?_)))
        all_goals rfl
    · have e1 : decide ((i : Int) < (a.length : Int)) = false := by simpa using hlt
      have hi2 : i = a.length := by have := hi; omega
      subst hi2
      rw [List.take_length, hl, List.take_length] at hall
      rw [hall]
      repeat' ((conv => whnf); first | refine stp ?_ | with_reducible refine condB (fun h => ?_) (fun h => ?_))
      all_goals rfl
  · rw [allB_len _ _ _ hl]
    have e0 : ((a.length : Int) == (b.length : Int)) = false := by simpa using (fun h => hl (by omega))
    repeat' ((conv => whnf); first | refine stp ?_ | with_reducible refine condB (fun h => ?_) (fun h => ?_))
    all_goals rfl
theorem ss_ok (a b : List St) (h : ValOK Tryd.prog gl 78 [stA a, stA b, .func (.func 79) [] []] (.bool (sameSL a b))) : ValOK Tryd.prog gl 56 [stA a, stA b] (.bool (sameSL a b)) := by
  obtain ⟨O, hO, p1, -⟩ := fams (P := Tryd.prog) (gl := gl) [oneF (f := 78) (A := [stA a, stA b, .func (.func 79) [] []]) (R := .bool (sameSL a b)) True (by kernel_rfl) rfl (fun _ => h)] rfl
  have q1 : ∀ H, acall Tryd.prog O H 78 [stA a, stA b, .func (.func 79) [] []] = some (.bool (sameSL a b), H) := p1 () trivial
  clear p1
  unfold stA at *
  generalize sameSL a b = w at *
  refine fn_val follows noNum hO Tryd.func56 rfl ?_
  repeat' ((conv => whnf); first | (with_reducible refine exI (q1 _) ?_) | (first | refine stp ?_ | with_reducible refine condB (fun h => ?_) (fun h => ?_)))
  all_goals rfl
theorem sameS_ok : ∀ (n : Nat) (a b : St), sizeS a ≤ n → okS a → ValOK Tryd.prog gl 79 [.agg a.cells, .agg b.cells] (.bool (sameS a b))
  | n, .mk k m l o x t e, .mk k' m' l' o' x' t' e', h, hok => by
    have hk := okS_parts hok
    simp only [St.exprs, St.name, St.loc, St.thn, St.els] at hk
    obtain ⟨_, _, hx, ht, he, hx2, ht2, he2⟩ := hk
    simp only [sizeS] at h
    have rc : ∀ y z, sizeS y < n → okS y → ValOK Tryd.prog gl 79 [.agg y.cells, .agg z.cells] (.bool (sameS y z)) := fun y z hy hoy => match n, (show 1 ≤ n by omega), hy with | n + 1, _, hy => sameS_ok n y z (by omega) hoy
    obtain ⟨O, hO, p1, p2, -⟩ := fams (P := Tryd.prog) (gl := gl) [oneF (f := 58) (A := [exA x, exA x', .func (.func 22) [] []]) (R := .bool (sameL x x')) True (by kernel_rfl) rfl (fun _ => eqfE_ok x x' hx fun y hy z _ => sameX_ok _ y z (Nat.le_refl _) (okL_get hx2 _ hy)),
      famTwoL (g := 56) (by kernel_rfl) (fun p => p = (t, t') ∨ p = (e, e')) (fun p hp => by
        rcases hp with rfl | rfl
        · exact ss_ok t t' (eqfS_ok t t' ht fun y hy z _ => rc y z (by have := sizeSL_mem _ _ hy; omega) (okSL_get ht2 _ hy))
        · exact ss_ok e e' (eqfS_ok e e' he fun y hy z _ => rc y z (by have := sizeSL_mem _ _ hy; omega) (okSL_get he2 _ hy)))] rfl
    have q1 : ∀ H, acall Tryd.prog O H 58 [exA x, exA x', .func (.func 22) [] []] = some (.bool (sameL x x'), H) := p1 () trivial
    have q2 : ∀ H, acall Tryd.prog O H 56 [stA t, stA t'] = some (.bool (sameSL t t'), H) := p2 (t, t') (.inl rfl)
    have q3 : ∀ H, acall Tryd.prog O H 56 [stA e, stA e'] = some (.bool (sameSL e e'), H) := p2 (e, e') (.inr rfl)
    clear p1 p2 rc
    simp only [St.cells, exA, stA, sameS] at q1 q2 q3 ⊢
    generalize sameL x x' = w1 at *
    generalize sameSL t t' = w2 at *
    generalize sameSL e e' = w3 at *
    refine fn_val follows noNum hO Tryd.func79 rfl ?_
    generalize hb1 : (k == k') = b1
    generalize hb2 : (m == m') = b2
    generalize hb3 : (l == l') = b3
    generalize hb4 : (o == o') = b4
    cases b1 with
    | false =>
      repeat' ((conv => whnf); first | (with_reducible refine exI (q1 _) ?_) | (with_reducible refine exI (q2 _) ?_) | (with_reducible refine exI (q3 _) ?_) | (first | refine stp ?_ | with_reducible refine condB (fun h => ?_) (fun h => ?_)))
      all_goals (first | rfl | (simp [resOf]; done))
    | true =>
      cases b2 with
      | false =>
        repeat' ((conv => whnf); first | (with_reducible refine exI (q1 _) ?_) | (with_reducible refine exI (q2 _) ?_) | (with_reducible refine exI (q3 _) ?_) | (first | refine stp ?_ | with_reducible refine condB (fun h => ?_) (fun h => ?_)))
        all_goals (first | rfl | (simp [resOf]; done))
      | true =>
        cases b3 with
        | false =>
          repeat' ((conv => whnf); first | (with_reducible refine exI (q1 _) ?_) | (with_reducible refine exI (q2 _) ?_) | (with_reducible refine exI (q3 _) ?_) | (first | refine stp ?_ | with_reducible refine condB (fun h => ?_) (fun h => ?_)))
          all_goals (first | rfl | (simp [resOf]; done))
        | true =>
          cases b4 with
          | false =>
            repeat' ((conv => whnf); first | (with_reducible refine exI (q1 _) ?_) | (with_reducible refine exI (q2 _) ?_) | (with_reducible refine exI (q3 _) ?_) | (first | refine stp ?_ | with_reducible refine condB (fun h => ?_) (fun h => ?_)))
            all_goals (first | rfl | (simp [resOf]; done))
          | true =>
            cases w1 with
            | false =>
              repeat' ((conv => whnf); first | (with_reducible refine exI (q1 _) ?_) | (with_reducible refine exI (q2 _) ?_) | (with_reducible refine exI (q3 _) ?_) | (first | refine stp ?_ | with_reducible refine condB (fun h => ?_) (fun h => ?_)))
              all_goals (first | rfl | (simp [resOf]; done))
            | true =>
              cases w2 with
              | false =>
                repeat' ((conv => whnf); first | (with_reducible refine exI (q1 _) ?_) | (with_reducible refine exI (q2 _) ?_) | (with_reducible refine exI (q3 _) ?_) | (first | refine stp ?_ | with_reducible refine condB (fun h => ?_) (fun h => ?_)))
                all_goals (first | rfl | (simp [resOf]; done))
              | true =>
                cases w3 with
                | false =>
                  repeat' ((conv => whnf); first | (with_reducible refine exI (q1 _) ?_) | (with_reducible refine exI (q2 _) ?_) | (with_reducible refine exI (q3 _) ?_) | (first | refine stp ?_ | with_reducible refine condB (fun h => ?_) (fun h => ?_)))
                  all_goals (first | rfl | (simp [resOf]; done))
                | true =>
                  repeat' ((conv => whnf); first | (with_reducible refine exI (q1 _) ?_) | (with_reducible refine exI (q2 _) ?_) | (with_reducible refine exI (q3 _) ?_) | (first | refine stp ?_ | with_reducible refine condB (fun h => ?_) (fun h => ?_)))
                  all_goals (first | rfl | (simp [resOf]; done))
end Go.Proofs.YtajhailaofchlaaDoor.lex
end

/-
  Statements that are the same: as the document and the kit tell it.
-/
section
set_option linter.unusedVariables false
set_option linter.unusedSimpArgs false
namespace Go.Proofs.YtajhailaofchlaaDoor.lex
open Go.Abs Go.RowKit
set_option maxRecDepth 100000
set_option maxHeartbeats 4000000
variable {gl : Glob}
theorem not_of {b c : Bool} (h : b = c) : (!b) = !c := by rw [h]
def famTwoX {g : Nat} (hb : hasBody Tryd.prog g = true) (G : List Ex × List Ex → Prop) (h : ∀ p, G p → ValOK Tryd.prog gl g [exA p.1, exA p.2] (.bool (sameL p.1 p.2))) : Fam Tryd.prog gl := { I := List Ex × List Ex, f := g, G := G, A := fun p => [exA p.1, exA p.2], R := fun p => .bool (sameL p.1 p.2), body := hb, inj := (fun i j _ _ h => by simp only [List.cons.injEq, and_true] at h; rw [exA_inj h.1, exA_inj h.2]), ok := (fun p hp => ⟨rfl, h p hp⟩) }
theorem kstmtsL (n : Nat) (a b : List St) (h : sizeSL a ≤ n) (hok : okSL a) (ha : a.length ≤ 9223372036854775807) (O : Orc) (hO : OrcSound Tryd.prog gl O) (r1 : ∀ x y, sizeSL x < n → okSL x → x.length ≤ 9223372036854775807 → ∀ H, acall Tryd.prog O H 59 [stA x, stA y] = some (.bool (sameSL x y), H)) (r2 : ∀ x y : List Ex, okL x → x.length ≤ 9223372036854775807 → ∀ H, acall Tryd.prog O H 80 [exA x, exA y] = some (.bool (sameL x y), H)) : ValOK Tryd.prog gl 59 [.rs a.length 7 (stC a), .rs b.length 7 (stC b)] (.bool (allB sameS a b)) := by
  refine fn_val follows noNum hO Tryd.func59 rfl ?_
  by_cases hl : a.length = b.length
  · have e0 : ((a.length : Int) != (b.length : Int)) = false := bne_of (b := true) (by rw [hl]; simp)
    repeat' ((conv => whnf); first | refine stp ?_ | with_reducible refine condB (fun h => ?_) (fun h => ?_))
    conv => whnf
    refine ⟨Nat, (fun i => i ≤ a.length ∧ allB sameS (a.take i) (b.take i) = true), (fun i => [(0, .rs a.length 7 (stC a)), (1, .rs b.length 7 (stC b)), (5, .int .i64 i)]), (fun _ => []), (fun i => a.length - i), ⟨0, ⟨Nat.zero_le _, rfl⟩, FgL.mk0 rfl ?_⟩, ?_⟩
    · (repeat (first | exact trivial | refine stw ?_))
    rintro i ⟨hi, hall⟩
    dsimp only
    by_cases hlt : i < a.length
    · have e1 : decide ((i : Int) < (a.length : Int)) = true := by simpa using hlt
      have hlt' : i < b.length := by omega
      have hat := allB_take sameS a b i hlt hlt'
      rw [hall, Bool.true_and] at hat
      have hfalse : sameS a[i] b[i] = false → allB sameS a b = false := allB_get sameS hlt hlt'
      have hx := st7 a i hlt
      have hy := st7 b i hlt'
      have hsz := sizeSL_mem _ _ (get_mem hlt)
      have hse := sizeS_eq a[i]
      obtain ⟨k1, k2, k3, k4, k5, k6, k7, k8⟩ := okS_parts (okSL_get hok _ (get_mem hlt))
      have q2 := r1 a[i].thn b[i].thn (by omega) k7 k4
      have q3 := r1 a[i].els b[i].els (by omega) k8 k5
      have q1 := r2 a[i].exprs b[i].exprs k6 k3
      clear hsz hse
      generalize a[i] = u at *
      generalize b[i] = v at *
      obtain ⟨k, n, l, o, x, t, e⟩ := u
      obtain ⟨k', n', l', o', x', t', e'⟩ := v
      simp only [St.cells, exA, stA, St.thn, St.els, St.exprs] at hx hy q1 q2 q3
      generalize hw1 : sameL x x' = w1 at *
      generalize hw2 : sameSL t t' = w2 at *
      generalize hw3 : sameSL e e' = w3 at *
      have hs : sameS (.mk k n l o x t e) (.mk k' n' l' o' x' t' e') = ((k == k') && ((n == n') && ((l == l') && ((o == o') && (w1 && (w2 && w3)))))) := by simp only [sameS, hw1, hw2, hw3]
      rw [hs] at hat hfalse
      clear hs
      generalize hb1 : (k == k') = b1 at *
      generalize hb2 : (n == n') = b2 at *
      generalize hb3 : (l == l') = b3 at *
      generalize hb4 : (o == o') = b4 at *
      have n1 := bne_of hb1
      have n2 := not_of hb2
      have n3 := not_of hb3
      have n4 := bne_of hb4
      cases b1 with
      | false =>
        have n1 : (k != k') = true := n1
        rw [hfalse (by simp)]
        repeat' ((conv => whnf); first | (with_reducible refine exI (q1 _) ?_) | (with_reducible refine exI (q2 _) ?_) | (with_reducible refine exI (q3 _) ?_) | (with_reducible refine ixJ i rfl ?_ ?_; (focus (omega))) | (refine exI hx ?_) | (refine exI hy ?_) | (first | refine stp ?_ | with_reducible refine condB (fun h => ?_) (fun h => ?_)))
        all_goals (first | rfl | (simp [resOf]; done))
      | true =>
        have n1 : (k != k') = false := n1
        cases b2 with
        | false =>
          have n2 : (!(n == n')) = true := n2
          rw [hfalse (by simp)]
          repeat' ((conv => whnf); first | (with_reducible refine exI (q1 _) ?_) | (with_reducible refine exI (q2 _) ?_) | (with_reducible refine exI (q3 _) ?_) | (with_reducible refine ixJ i rfl ?_ ?_; (focus (omega))) | (refine exI hx ?_) | (refine exI hy ?_) | (first | refine stp ?_ | with_reducible refine condB (fun h => ?_) (fun h => ?_)))
          all_goals (first | rfl | (simp [resOf]; done))
        | true =>
          have n2 : (!(n == n')) = false := n2
          cases b3 with
          | false =>
            have n3 : (!(l == l')) = true := n3
            rw [hfalse (by simp)]
            repeat' ((conv => whnf); first | (with_reducible refine exI (q1 _) ?_) | (with_reducible refine exI (q2 _) ?_) | (with_reducible refine exI (q3 _) ?_) | (with_reducible refine ixJ i rfl ?_ ?_; (focus (omega))) | (refine exI hx ?_) | (refine exI hy ?_) | (first | refine stp ?_ | with_reducible refine condB (fun h => ?_) (fun h => ?_)))
            all_goals (first | rfl | (simp [resOf]; done))
          | true =>
            have n3 : (!(l == l')) = false := n3
            cases b4 with
            | false =>
              have n4 : (o != o') = true := n4
              rw [hfalse (by simp)]
              repeat' ((conv => whnf); first | (with_reducible refine exI (q1 _) ?_) | (with_reducible refine exI (q2 _) ?_) | (with_reducible refine exI (q3 _) ?_) | (with_reducible refine ixJ i rfl ?_ ?_; (focus (omega))) | (refine exI hx ?_) | (refine exI hy ?_) | (first | refine stp ?_ | with_reducible refine condB (fun h => ?_) (fun h => ?_)))
              all_goals (first | rfl | (simp [resOf]; done))
            | true =>
              have n4 : (o != o') = false := n4
              cases w1 with
              | false =>
                rw [hfalse (by simp)]
                repeat' ((conv => whnf); first | (with_reducible refine exI (q1 _) ?_) | (with_reducible refine exI (q2 _) ?_) | (with_reducible refine exI (q3 _) ?_) | (with_reducible refine ixJ i rfl ?_ ?_; (focus (omega))) | (refine exI hx ?_) | (refine exI hy ?_) | (first | refine stp ?_ | with_reducible refine condB (fun h => ?_) (fun h => ?_)))
                all_goals (first | rfl | (simp [resOf]; done))
              | true =>
                cases w2 with
                | false =>
                  rw [hfalse (by simp)]
                  repeat' ((conv => whnf); first | (with_reducible refine exI (q1 _) ?_) | (with_reducible refine exI (q2 _) ?_) | (with_reducible refine exI (q3 _) ?_) | (with_reducible refine ixJ i rfl ?_ ?_; (focus (omega))) | (refine exI hx ?_) | (refine exI hy ?_) | (first | refine stp ?_ | with_reducible refine condB (fun h => ?_) (fun h => ?_)))
                  all_goals (first | rfl | (simp [resOf]; done))
                | true =>
                  cases w3 with
                  | false =>
                    rw [hfalse (by simp)]
                    repeat' ((conv => whnf); first | (with_reducible refine exI (q1 _) ?_) | (with_reducible refine exI (q2 _) ?_) | (with_reducible refine exI (q3 _) ?_) | (with_reducible refine ixJ i rfl ?_ ?_; (focus (omega))) | (refine exI hx ?_) | (refine exI hy ?_) | (first | refine stp ?_ | with_reducible refine condB (fun h => ?_) (fun h => ?_)))
                    all_goals (first | rfl | (simp [resOf]; done))
                  | true =>
                    simp only [Bool.true_and] at hat
                    repeat' ((conv => whnf); first | (with_reducible refine exI (q1 _) ?_) | (with_reducible refine exI (q2 _) ?_) | (with_reducible refine exI (q3 _) ?_) | (with_reducible refine ixJ i rfl ?_ ?_; (focus (omega))) | (refine exI hx ?_) | (refine exI hy ?_) | (first | refine stp ?_ | with_reducible refine condB (fun h => ?_) (fun h => ?_)))
                    conv => whnf
                    refine ⟨i + 1, ⟨hlt, hat⟩, by show a.length - (i + 1) < a.length - i; omega, FgL.mk0 rfl ?_⟩
                    (repeat (first | exact trivial | refine stw ?_))
    · have e1 : decide ((i : Int) < (a.length : Int)) = false := by simpa using hlt
      have hi2 : i = a.length := by have := hi; omega
      subst hi2
      rw [List.take_length, hl, List.take_length] at hall
      rw [hall]
      repeat' ((conv => whnf); first | refine stp ?_ | with_reducible refine condB (fun h => ?_) (fun h => ?_))
      all_goals rfl
  · rw [allB_len _ _ _ hl]
    have e0 : ((a.length : Int) != (b.length : Int)) = true := bne_of (b := false) (by simpa using (fun h => hl (by omega)))
    repeat' ((conv => whnf); first | refine stp ?_ | with_reducible refine condB (fun h => ?_) (fun h => ?_))
    all_goals rfl
theorem kstmts_ok : ∀ (n : Nat) (a b : List St), sizeSL a ≤ n → okSL a → a.length ≤ 9223372036854775807 → ValOK Tryd.prog gl 59 [stA a, stA b] (.bool (sameSL a b))
  | n, a, b, h, hok, ha => by
    obtain ⟨O, hO, p1, p2, -⟩ := fams (P := Tryd.prog) (gl := gl) [famTwoL (g := 59) (by kernel_rfl) (fun p => sizeSL p.1 < n ∧ okSL p.1 ∧ p.1.length ≤ 9223372036854775807) (fun p hp => match n, (show 1 ≤ n by have := hp.1; omega), hp.1 with | n + 1, _, h => kstmts_ok n p.1 p.2 (by omega) hp.2.1 hp.2.2), famTwoX (g := 80) (by kernel_rfl) (fun p => okL p.1 ∧ p.1.length ≤ 9223372036854775807) (fun p hp => kexprs_ok p.1 p.2 hp.2 fun y hy z _ => kexpr_ok _ y z (Nat.le_refl _) (okL_get hp.1 _ hy))] rfl
    have r1 : ∀ x y, sizeSL x < n → okSL x → x.length ≤ 9223372036854775807 → ∀ H, acall Tryd.prog O H 59 [stA x, stA y] = some (.bool (sameSL x y), H) := fun x y h1 h2 h3 => p1 (x, y) ⟨h1, h2, h3⟩
    have r2 : ∀ x y : List Ex, okL x → x.length ≤ 9223372036854775807 → ∀ H, acall Tryd.prog O H 80 [exA x, exA y] = some (.bool (sameL x y), H) := fun x y h1 h2 => p2 (x, y) ⟨h1, h2⟩
    clear p1 p2
    rw [sameSL_eq]
    unfold stA
    exact kstmtsL n a b h hok ha O hO r1 r2
end Go.Proofs.YtajhailaofchlaaDoor.lex
end

/-
  Statements that are the same: as the document and the kit tell it.
-/
section
set_option linter.unusedVariables false
set_option linter.unusedSimpArgs false
namespace Go.Proofs.YtajhailaofchlaaDoor.lex
open Go.Abs Go.RowKit
set_option maxRecDepth 100000
set_option maxHeartbeats 4000000
variable {gl : Glob}
theorem rstmtsL (n : Nat) (a b : List St) (h : sizeSL a ≤ n) (hok : okSL a) (ha : a.length ≤ 9223372036854775807) (O : Orc) (hO : OrcSound Tryd.prog gl O) (r1 : ∀ x y, sizeSL x < n → okSL x → x.length ≤ 9223372036854775807 → ∀ H, acall Tryd.prog O H 57 [stA x, stA y] = some (.bool (sameSL x y), H)) (r2 : ∀ x y : Ex, okE x → ∀ H, acall Tryd.prog O H 23 [.agg x.cells, .agg y.cells] = some (.bool (sameE x y), H)) : ValOK Tryd.prog gl 57 [.rs a.length 7 (stC a), .rs b.length 7 (stC b)] (.bool (allB sameS a b)) := by
  refine fn_val follows noNum hO Tryd.func57 rfl ?_
  by_cases hl : a.length = b.length
  · have e0 : ((a.length : Int) != (b.length : Int)) = false := bne_of (b := true) (by rw [hl]; simp)
    repeat' ((conv => whnf); first | refine stp ?_ | with_reducible refine condB (fun h => ?_) (fun h => ?_))
    conv => whnf
    refine ⟨Nat, (fun i => i ≤ a.length ∧ allB sameS (a.take i) (b.take i) = true), (fun i => [(0, .rs a.length 7 (stC a)), (1, .rs b.length 7 (stC b)), (5, .int .i64 i)]), (fun _ => []), (fun i => a.length - i), ⟨0, ⟨Nat.zero_le _, rfl⟩, FgL.mk0 rfl ?_⟩, ?_⟩
    · (repeat (first | exact trivial | refine stw ?_))
    rintro i ⟨hi, hall⟩
    dsimp only
    by_cases hlt : i < a.length
    · have e1 : decide ((i : Int) < (a.length : Int)) = true := by simpa using hlt
      have hlt' : i < b.length := by omega
      have hat := allB_take sameS a b i hlt hlt'
      rw [hall, Bool.true_and] at hat
      have hfalse : sameS a[i] b[i] = false → allB sameS a b = false := allB_get sameS hlt hlt'
      have hx := st7 a i hlt
      have hy := st7 b i hlt'
      have hsz := sizeSL_mem _ _ (get_mem hlt)
      have hse := sizeS_eq a[i]
      obtain ⟨k1, k2, k3, k4, k5, k6, k7, k8⟩ := okS_parts (okSL_get hok _ (get_mem hlt))
      have q2 := r1 a[i].thn b[i].thn (by omega) k7 k4
      have q3 := r1 a[i].els b[i].els (by omega) k8 k5
      have q1 := r2
      clear hsz hse
      generalize a[i] = u at *
      generalize b[i] = v at *
      obtain ⟨k, n, l, o, x, t, e⟩ := u
      obtain ⟨k', n', l', o', x', t', e'⟩ := v
      simp only [St.cells, exA, stA, St.thn, St.els, St.exprs] at hx hy q1 q2 q3
      generalize hw2 : sameSL t t' = w2 at *
      generalize hw3 : sameSL e e' = w3 at *
      have hs : sameS (.mk k n l o x t e) (.mk k' n' l' o' x' t' e') = ((k == k') && ((n == n') && ((l == l') && ((o == o') && (allB sameE x x' && (w2 && w3)))))) := by simp only [sameS, sameL_eq, hw2, hw3]
      rw [hs] at hat hfalse
      clear hs
      generalize hb1 : (k == k') = b1 at *
      generalize hb2 : (n == n') = b2 at *
      generalize hb3 : (l == l') = b3 at *
      generalize hb4 : (o == o') = b4 at *
      have n1 := bne_of hb1
      have n2 := not_of hb2
      have n3 := not_of hb3
      have n4 := bne_of hb4
      by_cases hxl : x.length = x'.length
      · have e9 : ((x.length : Int) != (x'.length : Int)) = false := bne_of (b := true) (by rw [hxl]; simp)
        cases b1 with
        | false =>
          have n1 : (k != k') = true := n1
          rw [hfalse (by simp)]
          repeat' ((conv => whnf); first | (with_reducible refine exI (q1 _) ?_) | (with_reducible refine exI (q2 _) ?_) | (with_reducible refine exI (q3 _) ?_) | (with_reducible refine ixJ i rfl ?_ ?_; (focus (omega))) | (refine exI hx ?_) | (refine exI hy ?_) | (first | refine stp ?_ | with_reducible refine condB (fun h => ?_) (fun h => ?_)))
          all_goals (first | rfl | (simp [resOf]; done))
        | true =>
          have n1 : (k != k') = false := n1
          cases b2 with
          | false =>
            have n2 : (!(n == n')) = true := n2
            rw [hfalse (by simp)]
            repeat' ((conv => whnf); first | (with_reducible refine exI (q1 _) ?_) | (with_reducible refine exI (q2 _) ?_) | (with_reducible refine exI (q3 _) ?_) | (with_reducible refine ixJ i rfl ?_ ?_; (focus (omega))) | (refine exI hx ?_) | (refine exI hy ?_) | (first | refine stp ?_ | with_reducible refine condB (fun h => ?_) (fun h => ?_)))
            all_goals (first | rfl | (simp [resOf]; done))
          | true =>
            have n2 : (!(n == n')) = false := n2
            cases b3 with
            | false =>
              have n3 : (!(l == l')) = true := n3
              rw [hfalse (by simp)]
              repeat' ((conv => whnf); first | (with_reducible refine exI (q1 _) ?_) | (with_reducible refine exI (q2 _) ?_) | (with_reducible refine exI (q3 _) ?_) | (with_reducible refine ixJ i rfl ?_ ?_; (focus (omega))) | (refine exI hx ?_) | (refine exI hy ?_) | (first | refine stp ?_ | with_reducible refine condB (fun h => ?_) (fun h => ?_)))
              all_goals (first | rfl | (simp [resOf]; done))
            | true =>
              have n3 : (!(l == l')) = false := n3
              cases b4 with
              | false =>
                have n4 : (o != o') = true := n4
                rw [hfalse (by simp)]
                repeat' ((conv => whnf); first | (with_reducible refine exI (q1 _) ?_) | (with_reducible refine exI (q2 _) ?_) | (with_reducible refine exI (q3 _) ?_) | (with_reducible refine ixJ i rfl ?_ ?_; (focus (omega))) | (refine exI hx ?_) | (refine exI hy ?_) | (first | refine stp ?_ | with_reducible refine condB (fun h => ?_) (fun h => ?_)))
                all_goals (first | rfl | (simp [resOf]; done))
              | true =>
                have n4 : (o != o') = false := n4
                cases w2 with
                | false =>
                  rw [hfalse (by simp)]
                  repeat' ((conv => whnf); first | (with_reducible refine exI (q1 _) ?_) | (with_reducible refine exI (q2 _) ?_) | (with_reducible refine exI (q3 _) ?_) | (with_reducible refine ixJ i rfl ?_ ?_; (focus (omega))) | (refine exI hx ?_) | (refine exI hy ?_) | (first | refine stp ?_ | with_reducible refine condB (fun h => ?_) (fun h => ?_)))
                  all_goals (first | rfl | (simp [resOf]; done))
                | true =>
                  cases w3 with
                  | false =>
                    rw [hfalse (by simp)]
                    repeat' ((conv => whnf); first | (with_reducible refine exI (q1 _) ?_) | (with_reducible refine exI (q2 _) ?_) | (with_reducible refine exI (q3 _) ?_) | (with_reducible refine ixJ i rfl ?_ ?_; (focus (omega))) | (refine exI hx ?_) | (refine exI hy ?_) | (first | refine stp ?_ | with_reducible refine condB (fun h => ?_) (fun h => ?_)))
                    all_goals (first | rfl | (simp [resOf]; done))
                  | true =>
                    have hxn : x.length ≤ 9223372036854775807 := k3
                    simp only [Bool.true_and, Bool.and_true] at hat hfalse
                    repeat' ((conv => whnf); first | (with_reducible refine exI (q1 _) ?_) | (with_reducible refine exI (q2 _) ?_) | (with_reducible refine exI (q3 _) ?_) | (with_reducible refine ixJ i rfl ?_ ?_; (focus (omega))) | (refine exI hx ?_) | (refine exI hy ?_) | (first | refine stp ?_ | with_reducible refine condB (fun h => ?_) (fun h => ?_)))
                    conv => whnf
                    refine ⟨Nat, (fun j => j ≤ x.length ∧ allB sameE (x.take j) (x'.take j) = true), (fun j => [(0, .rs a.length 7 (stC a)), (1, .rs b.length 7 (stC b)), (5, .int .i64 i), (6, .ptr 0 0), (7, .ptr 1 0), (8, .int .i64 j)]), (fun _ => [⟨true, 0, 0, .cells [.int .i64 k, .str n, .str l, .int .i64 o, .rs x.length 4 (exC x), .rs t.length 7 (stC t), .rs e.length 7 (stC e)] 30⟩, ⟨true, 1, 0, .cells [.int .i64 k', .str n', .str l', .int .i64 o', .rs x'.length 4 (exC x'), .rs t'.length 7 (stC t'), .rs e'.length 7 (stC e')] 30⟩]), (fun j => x.length - j), ⟨0, ⟨Nat.zero_le _, rfl⟩, FgL.mk [0, 1] rfl ?_ ⟨⟨rfl, rfl, rfl, rfl, BodyGe.pre (rest := []) rfl rfl⟩, ⟨rfl, rfl, rfl, rfl, BodyGe.pre (rest := []) rfl rfl⟩, trivial⟩ rfl⟩, ?_⟩
                    · (repeat (first | exact trivial | refine stw ?_))
                    rintro j ⟨hj, hallj⟩
                    dsimp only
                    by_cases hjt : j < x.length
                    · have e5 : decide ((j : Int) < (x.length : Int)) = true := by simpa using hjt
                      have hjt' : j < x'.length := by omega
                      have hatj := allB_take sameE x x' j hjt hjt'
                      rw [hallj, Bool.true_and] at hatj
                      have hfj : sameE x[j] x'[j] = false → allB sameE x x' = false := allB_get sameE hjt hjt'
                      have hx2 := ex4 x j hjt
                      have hy2 := ex4 x' j hjt'
                      have q4 := q1 x[j] x'[j] (okL_get k6 _ (get_mem hjt))
                      generalize x[j] = xx at *
                      generalize x'[j] = yy at *
                      generalize sameE xx yy = w at *
                      obtain ⟨xo, xn, xs, xk⟩ := xx
                      obtain ⟨yo, yn, ys, yk⟩ := yy
                      simp only [Ex.cells] at hx2 hy2 q4
                      cases w with
                      | true =>
                        repeat' ((conv => whnf); first | (with_reducible refine exI (q4 _) ?_) | (with_reducible refine exI (q2 _) ?_) | (with_reducible refine exI (q3 _) ?_) | (with_reducible refine ixJ i rfl ?_ ?_; (focus (omega))) | (with_reducible refine ixJ j rfl ?_ ?_; (focus (omega))) | (refine exI hx2 ?_) | (refine exI hy2 ?_) | (first | refine stp ?_ | with_reducible refine condB (fun h => ?_) (fun h => ?_)))
                        conv => whnf
                        refine ⟨j + 1, ⟨hjt, hatj⟩, by show x.length - (j + 1) < x.length - j; omega, FgL.mk [0, 1] rfl ?_ ⟨⟨rfl, rfl, rfl, rfl, BodyGe.pre (rest := []) rfl rfl⟩, ⟨rfl, rfl, rfl, rfl, BodyGe.pre (rest := []) rfl rfl⟩, trivial⟩ rfl⟩
                        (repeat (first | exact trivial | refine stw ?_))
                      | false =>
                        rw [hfalse (hfj rfl)]
                        repeat' ((conv => whnf); first | (with_reducible refine exI (q4 _) ?_) | (with_reducible refine exI (q2 _) ?_) | (with_reducible refine exI (q3 _) ?_) | (with_reducible refine ixJ i rfl ?_ ?_; (focus (omega))) | (with_reducible refine ixJ j rfl ?_ ?_; (focus (omega))) | (refine exI hx2 ?_) | (refine exI hy2 ?_) | (first | refine stp ?_ | with_reducible refine condB (fun h => ?_) (fun h => ?_)))
                        all_goals rfl
                    · have e5 : decide ((j : Int) < (x.length : Int)) = false := by simpa using hjt
                      have hj2 : j = x.length := by have := hj; omega
                      subst hj2
                      rw [List.take_length, hxl, List.take_length] at hallj
                      rw [hallj] at hat
                      repeat' ((conv => whnf); first | (with_reducible refine exI (q4 _) ?_) | (with_reducible refine exI (q2 _) ?_) | (with_reducible refine exI (q3 _) ?_) | (with_reducible refine ixJ i rfl ?_ ?_; (focus (omega))) | (with_reducible refine ixJ j rfl ?_ ?_; (focus (omega))) | (refine exI hx2 ?_) | (refine exI hy2 ?_) | (first | refine stp ?_ | with_reducible refine condB (fun h => ?_) (fun h => ?_)))
                      conv => whnf
                      refine ⟨i + 1, ⟨hlt, hat⟩, by show a.length - (i + 1) < a.length - i; omega, FgL.mk0 rfl ?_⟩
                      (repeat (first | exact trivial | refine stw ?_))
      · have e9 : ((x.length : Int) != (x'.length : Int)) = true := bne_of (b := false) (by simpa using (fun h => hxl (by omega)))
        rw [allB_len sameE _ _ hxl] at hat hfalse
        cases b1 with
        | false =>
          have n1 : (k != k') = true := n1
          rw [hfalse (by simp)]
          repeat' ((conv => whnf); first | (with_reducible refine exI (q1 _) ?_) | (with_reducible refine exI (q2 _) ?_) | (with_reducible refine exI (q3 _) ?_) | (with_reducible refine ixJ i rfl ?_ ?_; (focus (omega))) | (refine exI hx ?_) | (refine exI hy ?_) | (first | refine stp ?_ | with_reducible refine condB (fun h => ?_) (fun h => ?_)))
          all_goals (first | rfl | (simp [resOf]; done))
        | true =>
          have n1 : (k != k') = false := n1
          cases b2 with
          | false =>
            have n2 : (!(n == n')) = true := n2
            rw [hfalse (by simp)]
            repeat' ((conv => whnf); first | (with_reducible refine exI (q1 _) ?_) | (with_reducible refine exI (q2 _) ?_) | (with_reducible refine exI (q3 _) ?_) | (with_reducible refine ixJ i rfl ?_ ?_; (focus (omega))) | (refine exI hx ?_) | (refine exI hy ?_) | (first | refine stp ?_ | with_reducible refine condB (fun h => ?_) (fun h => ?_)))
            all_goals (first | rfl | (simp [resOf]; done))
          | true =>
            have n2 : (!(n == n')) = false := n2
            cases b3 with
            | false =>
              have n3 : (!(l == l')) = true := n3
              rw [hfalse (by simp)]
              repeat' ((conv => whnf); first | (with_reducible refine exI (q1 _) ?_) | (with_reducible refine exI (q2 _) ?_) | (with_reducible refine exI (q3 _) ?_) | (with_reducible refine ixJ i rfl ?_ ?_; (focus (omega))) | (refine exI hx ?_) | (refine exI hy ?_) | (first | refine stp ?_ | with_reducible refine condB (fun h => ?_) (fun h => ?_)))
              all_goals (first | rfl | (simp [resOf]; done))
            | true =>
              have n3 : (!(l == l')) = false := n3
              cases b4 with
              | false =>
                have n4 : (o != o') = true := n4
                rw [hfalse (by simp)]
                repeat' ((conv => whnf); first | (with_reducible refine exI (q1 _) ?_) | (with_reducible refine exI (q2 _) ?_) | (with_reducible refine exI (q3 _) ?_) | (with_reducible refine ixJ i rfl ?_ ?_; (focus (omega))) | (refine exI hx ?_) | (refine exI hy ?_) | (first | refine stp ?_ | with_reducible refine condB (fun h => ?_) (fun h => ?_)))
                all_goals (first | rfl | (simp [resOf]; done))
              | true =>
                have n4 : (o != o') = false := n4
                rw [hfalse (by simp)]
                repeat' ((conv => whnf); first | (with_reducible refine exI (q1 _) ?_) | (with_reducible refine exI (q2 _) ?_) | (with_reducible refine exI (q3 _) ?_) | (with_reducible refine ixJ i rfl ?_ ?_; (focus (omega))) | (refine exI hx ?_) | (refine exI hy ?_) | (first | refine stp ?_ | with_reducible refine condB (fun h => ?_) (fun h => ?_)))
                all_goals (first | rfl | (simp [resOf]; done))
    · have e1 : decide ((i : Int) < (a.length : Int)) = false := by simpa using hlt
      have hi2 : i = a.length := by have := hi; omega
      subst hi2
      rw [List.take_length, hl, List.take_length] at hall
      rw [hall]
      repeat' ((conv => whnf); first | refine stp ?_ | with_reducible refine condB (fun h => ?_) (fun h => ?_))
      all_goals rfl
  · rw [allB_len _ _ _ hl]
    have e0 : ((a.length : Int) != (b.length : Int)) = true := bne_of (b := false) (by simpa using (fun h => hl (by omega)))
    repeat' ((conv => whnf); first | refine stp ?_ | with_reducible refine condB (fun h => ?_) (fun h => ?_))
    all_goals rfl
theorem rstmts_ok : ∀ (n : Nat) (a b : List St), sizeSL a ≤ n → okSL a → a.length ≤ 9223372036854775807 → ValOK Tryd.prog gl 57 [stA a, stA b] (.bool (sameSL a b))
  | n, a, b, h, hok, ha => by
    obtain ⟨O, hO, p1, p2, -⟩ := fams (P := Tryd.prog) (gl := gl) [famTwoL (g := 57) (by kernel_rfl) (fun p => sizeSL p.1 < n ∧ okSL p.1 ∧ p.1.length ≤ 9223372036854775807) (fun p hp => match n, (show 1 ≤ n by have := hp.1; omega), hp.1 with | n + 1, _, h => rstmts_ok n p.1 p.2 (by omega) hp.2.1 hp.2.2), famTwo (g := 23) (by kernel_rfl) (fun p => okE p.1) (fun p hp => sameR_ok _ p.1 p.2 (Nat.le_refl _) hp)] rfl
    have r1 : ∀ x y, sizeSL x < n → okSL x → x.length ≤ 9223372036854775807 → ∀ H, acall Tryd.prog O H 57 [stA x, stA y] = some (.bool (sameSL x y), H) := fun x y h1 h2 h3 => p1 (x, y) ⟨h1, h2, h3⟩
    have r2 : ∀ x y : Ex, okE x → ∀ H, acall Tryd.prog O H 23 [.agg x.cells, .agg y.cells] = some (.bool (sameE x y), H) := fun x y h1 => p2 (x, y) h1
    clear p1 p2
    rw [sameSL_eq]
    unfold stA
    exact rstmtsL n a b h hok ha O hO r1 r2
end Go.Proofs.YtajhailaofchlaaDoor.lex
end

/-
  Programs that are the same.
-/
section
set_option linter.unusedVariables false
set_option linter.unusedSimpArgs false
namespace Go.Proofs.YtajhailaofchlaaDoor.lex
open Go.Abs Go.RowKit
set_option maxRecDepth 100000
set_option maxHeartbeats 4000000
variable {gl : Glob}
def sameDc (d e : Dc) : Bool := d.name == e.name && (d.plain == e.plain && (d.val == e.val && true))
def sameP (p q : Pr) : Bool := allB sameDc p.decls q.decls && allB sameSL p.threads q.threads
theorem gT : tagg Tryd.prog 9 = some false := by kernel_rfl
theorem gB : tagg Tryd.prog 4 = some false := by kernel_rfl
theorem gI : tagg Tryd.prog 2 = some false := by kernel_rfl
theorem feD : fieldsEq Tryd.prog 53 = some [(9, 0), (4, 1), (2, 2)] := by kernel_rfl
theorem egD : Tryd.prog.eqGuardType Tryd.prog.depth 53 = false := by kernel_rfl
theorem aggD (d e : Dc) : aggEq Tryd.prog 53 [.str d.name, .bool d.plain, .int .i64 d.val] [.str e.name, .bool e.plain, .int .i64 e.val] = some (sameDc d e) :=
  aggEq_ok egD feD (eqF_cons gT rfl rfl (eqB_str Tryd.underlying9 _ _) (eqF_cons gB rfl rfl (eqB_bool Tryd.underlying4 _ _) (eqF_cons gI rfl rfl (eqB_int Tryd.underlying2 _ _) rfl)))
theorem eqD_ok (a b : List Dc) (ha : a.length ≤ 9223372036854775807) : ValOK Tryd.prog gl 54 [.rs a.length 3 (dcC a), .rs b.length 3 (dcC b)] (.bool (allB sameDc a b)) := by
  obtain ⟨O, hO, -⟩ := fams (P := Tryd.prog) (gl := gl) [] rfl
  refine fn_val follows noNum hO Tryd.func54 rfl ?_
  by_cases hl : a.length = b.length
  · have e0 : ((a.length : Int) != (b.length : Int)) = false := bne_of (b := true) (by rw [hl]; simp)
    repeat' ((conv => whnf); first | refine stp ?_ | with_reducible refine condB (fun h => ?_) (fun h => ?_))
    conv => whnf
    refine ⟨Nat, (fun i => i ≤ a.length ∧ allB sameDc (a.take i) (b.take i) = true), (fun i => [(0, .rs a.length 3 (dcC a)), (1, .rs b.length 3 (dcC b)), (12, .int .i64 a.length), (13, .int .i64 i)]), (fun _ => []), (fun i => a.length - i), ⟨0, ⟨Nat.zero_le _, rfl⟩, FgL.mk0 rfl ?_⟩, ?_⟩
    · (repeat (first | exact trivial | refine stw ?_))
    rintro i ⟨hi, hall⟩
    dsimp only
    by_cases hlt : i < a.length
    · have e1 : decide ((i : Int) < (a.length : Int)) = true := by simpa using hlt
      have hlt' : i < b.length := by omega
      have hat := allB_take sameDc a b i hlt hlt'
      rw [hall, Bool.true_and] at hat
      have hfalse : sameDc a[i] b[i] = false → allB sameDc a b = false := allB_get sameDc hlt hlt'
      have hx := dc3 a i hlt
      have hy := dc3 b i hlt'
      have hc := aggD a[i] b[i]
      generalize a[i] = x at *
      generalize b[i] = y at *
      generalize sameDc x y = w at *
      obtain ⟨xn, xp, xv⟩ := x
      obtain ⟨yn, yp, yv⟩ := y
      simp only [Dc.cells] at hx hy hc
      cases w with
      | true =>
        repeat' ((conv => whnf); first | (with_reducible refine ixJ i rfl ?_ ?_; (focus (omega))) | (refine exI hx ?_) | (refine exI hy ?_) | (refine exI hc ?_) | (first | refine stp ?_ | with_reducible refine condB (fun h => ?_) (fun h => ?_)))
        conv => whnf
        refine ⟨i + 1, ⟨hlt, hat⟩, by show a.length - (i + 1) < a.length - i; omega, FgL.mk0 rfl ?_⟩
        (repeat (first | exact trivial | refine stw ?_))
      | false =>
        rw [hfalse rfl]
        repeat' ((conv => whnf); first | (with_reducible refine ixJ i rfl ?_ ?_; (focus (omega))) | (refine exI hx ?_) | (refine exI hy ?_) | (refine exI hc ?_) | (first | refine stp ?_ | with_reducible refine condB (fun h => ?_) (fun h => ?_)))
        all_goals rfl
    · have e1 : decide ((i : Int) < (a.length : Int)) = false := by simpa using hlt
      have hi2 : i = a.length := by have := hi; omega
      subst hi2
      rw [List.take_length, hl, List.take_length] at hall
      rw [hall]
      repeat' ((conv => whnf); first | refine stp ?_ | with_reducible refine condB (fun h => ?_) (fun h => ?_))
      all_goals rfl
  · rw [allB_len _ _ _ hl]
    have e0 : ((a.length : Int) != (b.length : Int)) = true := bne_of (b := false) (by simpa using (fun h => hl (by omega)))
    repeat' ((conv => whnf); first | refine stp ?_ | with_reducible refine condB (fun h => ?_) (fun h => ?_))
    all_goals rfl
theorem eqfT_ok (a b : List (List St)) (hok : okTL a) (ha : a.length ≤ 9223372036854775807) : ValOK Tryd.prog gl 55 [.rs a.length 1 (a.map stA), .rs b.length 1 (b.map stA), .func (.func 56) [] []] (.bool (allB sameSL a b)) := by
  obtain ⟨O, hO, p1, -⟩ := fams (P := Tryd.prog) (gl := gl) [famTwoL (g := 56) (by kernel_rfl) (fun p => okSL p.1 ∧ p.1.length ≤ 9223372036854775807) (fun p hp => ss_ok p.1 p.2 (eqfS_ok p.1 p.2 hp.2 fun y hy z _ => sameS_ok _ y z (Nat.le_refl _) (okSL_get hp.1 _ hy)))] rfl
  have q1 : ∀ x y, okSL x → x.length ≤ 9223372036854775807 → ∀ H, acall Tryd.prog O H 56 [stA x, stA y] = some (.bool (sameSL x y), H) := fun x y h1 h2 => p1 (x, y) ⟨h1, h2⟩
  clear p1
  refine fn_val follows noNum hO Tryd.func55 rfl ?_
  by_cases hl : a.length = b.length
  · have e0 : ((a.length : Int) != (b.length : Int)) = false := bne_of (b := true) (by rw [hl]; simp)
    have e00 : ((a.length : Int) == (b.length : Int)) = true := by rw [hl]; simp
    repeat' ((conv => whnf); first | refine stp ?_ | with_reducible refine condB (fun h => ?_) (fun h => ?_))
    conv => whnf
    refine ⟨Nat, (fun i => i ≤ a.length ∧ allB sameSL (a.take i) (b.take i) = true), (fun i => [(1, .rs b.length 1 (b.map stA)), (2, .func (.func 56) [] []), (15, .rs a.length 1 (a.map stA)), (16, .int .i64 a.length), (17, .int .i64 i)]), (fun _ => []), (fun i => a.length - i), ⟨0, ⟨Nat.zero_le _, rfl⟩, FgL.mk0 rfl ?_⟩, ?_⟩
    · (repeat (first | exact trivial | refine stw ?_))
    rintro i ⟨hi, hall⟩
    dsimp only
    by_cases hlt : i < a.length
    · have e1 : decide ((i : Int) < (a.length : Int)) = true := by simpa using hlt
      have hlt' : i < b.length := by omega
      have hat := allB_take sameSL a b i hlt hlt'
      rw [hall, Bool.true_and] at hat
      have hfalse : sameSL a[i] b[i] = false → allB sameSL a b = false := allB_get sameSL hlt hlt'
      have hx := th1 a i hlt
      have hy := th1 b i hlt'
      have hk := okTL_get hok _ (get_mem hlt)
      have q2 := q1 a[i] b[i] hk.1 hk.2
      generalize a[i] = x at *
      generalize b[i] = y at *
      generalize sameSL x y = w at *
      simp only [stA] at hx hy q2
      cases w with
      | true =>
        repeat' ((conv => whnf); first | (with_reducible refine exI (q2 _) ?_) | (with_reducible refine ixJ i rfl ?_ ?_; (focus (omega))) | (refine exI hx ?_) | (refine exI hy ?_) | (first | refine stp ?_ | with_reducible refine condB (fun h => ?_) (fun h => ?_)))
        conv => whnf
        refine ⟨i + 1, ⟨hlt, hat⟩, by show a.length - (i + 1) < a.length - i; omega, FgL.mk0 rfl ?_⟩
        (repeat (first | exact trivial | refine stw ?_))
      | false =>
        rw [hfalse rfl]
        repeat' ((conv => whnf); first | (with_reducible refine exI (q2 _) ?_) | (with_reducible refine ixJ i rfl ?_ ?_; (focus (omega))) | (refine exI hx ?_) | (refine exI hy ?_) | (first | refine stp ?_ | with_reducible refine condB (fun h => ?_) (fun h => ?_)))
        all_goals rfl
    · have e1 : decide ((i : Int) < (a.length : Int)) = false := by simpa using hlt
      have hi2 : i = a.length := by have := hi; omega
      subst hi2
      rw [List.take_length, hl, List.take_length] at hall
      rw [hall]
      repeat' ((conv => whnf); first | refine stp ?_ | with_reducible refine condB (fun h => ?_) (fun h => ?_))
      all_goals rfl
  · rw [allB_len _ _ _ hl]
    have e0 : ((a.length : Int) != (b.length : Int)) = true := bne_of (b := false) (by simpa using (fun h => hl (by omega)))
    have e00 : ((a.length : Int) == (b.length : Int)) = false := by simpa using (fun h => hl (by omega))
    repeat' ((conv => whnf); first | refine stp ?_ | with_reducible refine condB (fun h => ?_) (fun h => ?_))
    all_goals rfl
theorem samePX_ok (p q : Pr) (hp : okP p) : ValOK Tryd.prog gl 20 [p.av, q.av] (.bool (sameP p q)) := by
  obtain ⟨O, hO, p1, p2, -⟩ := fams (P := Tryd.prog) (gl := gl) [oneF (f := 54) (A := [.rs p.decls.length 3 (dcC p.decls), .rs q.decls.length 3 (dcC q.decls)]) (R := .bool (allB sameDc p.decls q.decls)) True (by kernel_rfl) rfl (fun _ => eqD_ok _ _ hp.1.1), oneF (f := 55) (A := [.rs p.threads.length 1 (p.threads.map stA), .rs q.threads.length 1 (q.threads.map stA), .func (.func 56) [] []]) (R := .bool (allB sameSL p.threads q.threads)) True (by kernel_rfl) rfl (fun _ => eqfT_ok _ _ hp.2.1 hp.2.2)] rfl
  have q1 : ∀ H, acall Tryd.prog O H 54 [.rs p.decls.length 3 (dcC p.decls), .rs q.decls.length 3 (dcC q.decls)] = some (.bool (allB sameDc p.decls q.decls), H) := p1 () trivial
  have q2 : ∀ H, acall Tryd.prog O H 55 [.rs p.threads.length 1 (p.threads.map stA), .rs q.threads.length 1 (q.threads.map stA), .func (.func 56) [] []] = some (.bool (allB sameSL p.threads q.threads), H) := p2 () trivial
  clear p1 p2
  unfold sameP
  obtain ⟨ds, ts⟩ := p
  obtain ⟨ds', ts'⟩ := q
  simp only [Pr.av] at *
  generalize allB sameDc ds ds' = w1 at *
  generalize allB sameSL ts ts' = w2 at *
  refine fn_val follows noNum hO Tryd.func20 rfl ?_
  cases w1 <;> cases w2
  all_goals (repeat' ((conv => whnf); first | (with_reducible refine exI (q1 _) ?_) | (with_reducible refine exI (q2 _) ?_) | (first | refine stp ?_ | with_reducible refine condB (fun h => ?_) (fun h => ?_))))
  all_goals (first | rfl | (simp [resOf]; done))
theorem samePR_ok (p q : Pr) (hp : okP p) : ValOK Tryd.prog gl 21 [p.av, q.av] (.bool (sameP p q)) := by
  obtain ⟨O, hO, p1, -⟩ := fams (P := Tryd.prog) (gl := gl) [famTwoL (g := 57) (by kernel_rfl) (fun p => okSL p.1 ∧ p.1.length ≤ 9223372036854775807) (fun p hp => rstmts_ok _ p.1 p.2 (Nat.le_refl _) hp.1 hp.2)] rfl
  have q1 : ∀ x y, okSL x → x.length ≤ 9223372036854775807 → ∀ H, acall Tryd.prog O H 57 [stA x, stA y] = some (.bool (sameSL x y), H) := fun x y h1 h2 => p1 (x, y) ⟨h1, h2⟩
  clear p1
  unfold sameP
  obtain ⟨ds, ts⟩ := p
  obtain ⟨ds', ts'⟩ := q
  obtain ⟨⟨hd1, hd2⟩, ht1, ht2⟩ := hp
  simp only [Pr.av] at *
  refine fn_val follows noNum hO Tryd.func21 rfl ?_
  by_cases hl1 : ds.length = ds'.length
  case neg =>
    rw [allB_len _ _ _ hl1, Bool.false_and]
    have e0 : ((ds.length : Int) != (ds'.length : Int)) = true := bne_of (b := false) (by simpa using (fun h => hl1 (by omega)))
    repeat' ((conv => whnf); first | refine stp ?_ | with_reducible refine condB (fun h => ?_) (fun h => ?_))
    all_goals rfl
  have e0 : ((ds.length : Int) != (ds'.length : Int)) = false := bne_of (b := true) (by rw [hl1]; simp)
  by_cases hl2 : ts.length = ts'.length
  case neg =>
    rw [allB_len _ ts ts' hl2, Bool.and_false]
    have e1 : ((ts.length : Int) != (ts'.length : Int)) = true := bne_of (b := false) (by simpa using (fun h => hl2 (by omega)))
    repeat' ((conv => whnf); first | refine stp ?_ | with_reducible refine condB (fun h => ?_) (fun h => ?_))
    all_goals rfl
  have e1 : ((ts.length : Int) != (ts'.length : Int)) = false := bne_of (b := true) (by rw [hl2]; simp)
  repeat' ((conv => whnf); first | refine stp ?_ | with_reducible refine condB (fun h => ?_) (fun h => ?_))
  conv => whnf
  refine ⟨Nat, (fun i => i ≤ ds.length ∧ allB sameDc (ds.take i) (ds'.take i) = true), (fun i => [(2, .ptr 0 0), (3, .ptr 1 0), (5, .int .i64 i)]), (fun _ => [⟨true, 0, 0, .cells [.rs ds.length 3 (dcC ds), .rs ts.length 1 (ts.map stA)] 25⟩, ⟨true, 1, 0, .cells [.rs ds'.length 3 (dcC ds'), .rs ts'.length 1 (ts'.map stA)] 25⟩]), (fun i => ds.length - i), ⟨0, ⟨Nat.zero_le _, rfl⟩, FgL.mk [0, 1] rfl ?_ ⟨⟨rfl, rfl, rfl, rfl, BodyGe.pre (rest := []) rfl rfl⟩, ⟨rfl, rfl, rfl, rfl, BodyGe.pre (rest := []) rfl rfl⟩, trivial⟩ rfl⟩, ?_⟩
  · (repeat (first | exact trivial | refine stw ?_))
  rintro i ⟨hi, hall⟩
  dsimp only
  by_cases hlt : i < ds.length
  · have e2 : decide ((i : Int) < (ds.length : Int)) = true := by simpa using hlt
    have hlt' : i < ds'.length := by omega
    have hat := allB_take sameDc ds ds' i hlt hlt'
    rw [hall, Bool.true_and] at hat
    have hfalse : sameDc ds[i] ds'[i] = false → allB sameDc ds ds' = false := allB_get sameDc hlt hlt'
    have hx := dc3 ds i hlt
    have hy := dc3 ds' i hlt'
    have hc := aggD ds[i] ds'[i]
    generalize ds[i] = x at *
    generalize ds'[i] = y at *
    generalize sameDc x y = w at *
    obtain ⟨xn, xp, xv⟩ := x
    obtain ⟨yn, yp, yv⟩ := y
    simp only [Dc.cells] at hx hy hc
    cases w with
    | true =>
      repeat' ((conv => whnf); first | (with_reducible refine ixJ i rfl ?_ ?_; (focus (omega))) | (refine exI hx ?_) | (refine exI hy ?_) | (refine exI hc ?_) | (first | refine stp ?_ | with_reducible refine condB (fun h => ?_) (fun h => ?_)))
      conv => whnf
      refine ⟨i + 1, ⟨hlt, hat⟩, by show ds.length - (i + 1) < ds.length - i; omega, FgL.mk [0, 1] rfl ?_ ⟨⟨rfl, rfl, rfl, rfl, BodyGe.pre (rest := []) rfl rfl⟩, ⟨rfl, rfl, rfl, rfl, BodyGe.pre (rest := []) rfl rfl⟩, trivial⟩ rfl⟩
      (repeat (first | exact trivial | refine stw ?_))
    | false =>
      rw [hfalse rfl, Bool.false_and]
      repeat' ((conv => whnf); first | (with_reducible refine ixJ i rfl ?_ ?_; (focus (omega))) | (refine exI hx ?_) | (refine exI hy ?_) | (refine exI hc ?_) | (first | refine stp ?_ | with_reducible refine condB (fun h => ?_) (fun h => ?_)))
      all_goals rfl
  · have e2 : decide ((i : Int) < (ds.length : Int)) = false := by simpa using hlt
    have hi2 : i = ds.length := by have := hi; omega
    subst hi2
    rw [List.take_length, hl1, List.take_length] at hall
    rw [hall, Bool.true_and]
    repeat' ((conv => whnf); first | refine stp ?_ | with_reducible refine condB (fun h => ?_) (fun h => ?_))
    conv => whnf
    refine ⟨Nat, (fun i => i ≤ ts.length ∧ allB sameSL (ts.take i) (ts'.take i) = true), (fun i => [(2, .ptr 0 0), (3, .ptr 1 0), (6, .int .i64 i)]), (fun _ => [⟨true, 0, 0, .cells [.rs ds.length 3 (dcC ds), .rs ts.length 1 (ts.map stA)] 25⟩, ⟨true, 1, 0, .cells [.rs ds'.length 3 (dcC ds'), .rs ts'.length 1 (ts'.map stA)] 25⟩]), (fun i => ts.length - i), ⟨0, ⟨Nat.zero_le _, rfl⟩, FgL.mk [0, 1] rfl ?_ ⟨⟨rfl, rfl, rfl, rfl, BodyGe.pre (rest := []) rfl rfl⟩, ⟨rfl, rfl, rfl, rfl, BodyGe.pre (rest := []) rfl rfl⟩, trivial⟩ rfl⟩, ?_⟩
    · (repeat (first | exact trivial | refine stw ?_))
    clear hall hi
    rintro i ⟨hi, hall⟩
    dsimp only
    by_cases hlt : i < ts.length
    · have e3 : decide ((i : Int) < (ts.length : Int)) = true := by simpa using hlt
      have hlt' : i < ts'.length := by omega
      have hat := allB_take sameSL ts ts' i hlt hlt'
      rw [hall, Bool.true_and] at hat
      have hfalse : sameSL ts[i] ts'[i] = false → allB sameSL ts ts' = false := allB_get sameSL hlt hlt'
      have hx := th1 ts i hlt
      have hy := th1 ts' i hlt'
      have hk := okTL_get ht1 _ (get_mem hlt)
      have q2 := q1 ts[i] ts'[i] hk.1 hk.2
      generalize ts[i] = x at *
      generalize ts'[i] = y at *
      generalize sameSL x y = w at *
      simp only [stA] at hx hy q2
      cases w with
      | true =>
        repeat' ((conv => whnf); first | (with_reducible refine exI (q2 _) ?_) | (with_reducible refine ixJ i rfl ?_ ?_; (focus (omega))) | (refine exI hx ?_) | (refine exI hy ?_) | (first | refine stp ?_ | with_reducible refine condB (fun h => ?_) (fun h => ?_)))
        conv => whnf
        refine ⟨i + 1, ⟨hlt, hat⟩, by show ts.length - (i + 1) < ts.length - i; omega, FgL.mk [0, 1] rfl ?_ ⟨⟨rfl, rfl, rfl, rfl, BodyGe.pre (rest := []) rfl rfl⟩, ⟨rfl, rfl, rfl, rfl, BodyGe.pre (rest := []) rfl rfl⟩, trivial⟩ rfl⟩
        (repeat (first | exact trivial | refine stw ?_))
      | false =>
        rw [hfalse rfl]
        repeat' ((conv => whnf); first | (with_reducible refine exI (q2 _) ?_) | (with_reducible refine ixJ i rfl ?_ ?_; (focus (omega))) | (refine exI hx ?_) | (refine exI hy ?_) | (first | refine stp ?_ | with_reducible refine condB (fun h => ?_) (fun h => ?_)))
        all_goals rfl
    · have e3 : decide ((i : Int) < (ts.length : Int)) = false := by simpa using hlt
      have hi2 : i = ts.length := by have := hi; omega
      subst hi2
      rw [List.take_length, hl2, List.take_length] at hall
      rw [hall]
      repeat' ((conv => whnf); first | refine stp ?_ | with_reducible refine condB (fun h => ?_) (fun h => ?_))
      all_goals rfl
theorem kprog_ok (p q : Pr) (hp : okP p) : ValOK Tryd.prog gl 24 [p.av, q.av] (.bool (sameP p q)) := by
  obtain ⟨O, hO, p1, -⟩ := fams (P := Tryd.prog) (gl := gl) [famTwoL (g := 59) (by kernel_rfl) (fun p => okSL p.1 ∧ p.1.length ≤ 9223372036854775807) (fun p hp => kstmts_ok _ p.1 p.2 (Nat.le_refl _) hp.1 hp.2)] rfl
  have q1 : ∀ x y, okSL x → x.length ≤ 9223372036854775807 → ∀ H, acall Tryd.prog O H 59 [stA x, stA y] = some (.bool (sameSL x y), H) := fun x y h1 h2 => p1 (x, y) ⟨h1, h2⟩
  clear p1
  unfold sameP
  obtain ⟨ds, ts⟩ := p
  obtain ⟨ds', ts'⟩ := q
  obtain ⟨⟨hd1, hd2⟩, ht1, ht2⟩ := hp
  simp only [Pr.av] at *
  refine fn_val follows noNum hO Tryd.func24 rfl ?_
  by_cases hl1 : ds.length = ds'.length
  case neg =>
    rw [allB_len _ _ _ hl1, Bool.false_and]
    have e0 : ((ds.length : Int) != (ds'.length : Int)) = true := bne_of (b := false) (by simpa using (fun h => hl1 (by omega)))
    repeat' ((conv => whnf); first | refine stp ?_ | with_reducible refine condB (fun h => ?_) (fun h => ?_))
    all_goals rfl
  have e0 : ((ds.length : Int) != (ds'.length : Int)) = false := bne_of (b := true) (by rw [hl1]; simp)
  by_cases hl2 : ts.length = ts'.length
  case neg =>
    rw [allB_len _ ts ts' hl2, Bool.and_false]
    have e1 : ((ts.length : Int) != (ts'.length : Int)) = true := bne_of (b := false) (by simpa using (fun h => hl2 (by omega)))
    repeat' ((conv => whnf); first | refine stp ?_ | with_reducible refine condB (fun h => ?_) (fun h => ?_))
    all_goals rfl
  have e1 : ((ts.length : Int) != (ts'.length : Int)) = false := bne_of (b := true) (by rw [hl2]; simp)
  repeat' ((conv => whnf); first | refine stp ?_ | with_reducible refine condB (fun h => ?_) (fun h => ?_))
  conv => whnf
  refine ⟨Nat, (fun i => i ≤ ds.length ∧ allB sameDc (ds.take i) (ds'.take i) = true), (fun i => [(2, .ptr 0 0), (3, .ptr 1 0), (5, .int .i64 i)]), (fun _ => [⟨true, 0, 0, .cells [.rs ds.length 3 (dcC ds), .rs ts.length 1 (ts.map stA)] 25⟩, ⟨true, 1, 0, .cells [.rs ds'.length 3 (dcC ds'), .rs ts'.length 1 (ts'.map stA)] 25⟩]), (fun i => ds.length - i), ⟨0, ⟨Nat.zero_le _, rfl⟩, FgL.mk [0, 1] rfl ?_ ⟨⟨rfl, rfl, rfl, rfl, BodyGe.pre (rest := []) rfl rfl⟩, ⟨rfl, rfl, rfl, rfl, BodyGe.pre (rest := []) rfl rfl⟩, trivial⟩ rfl⟩, ?_⟩
  · (repeat (first | exact trivial | refine stw ?_))
  rintro i ⟨hi, hall⟩
  dsimp only
  by_cases hlt : i < ds.length
  · have e2 : decide ((i : Int) < (ds.length : Int)) = true := by simpa using hlt
    have hlt' : i < ds'.length := by omega
    have hat := allB_take sameDc ds ds' i hlt hlt'
    rw [hall, Bool.true_and] at hat
    have hfalse : sameDc ds[i] ds'[i] = false → allB sameDc ds ds' = false := allB_get sameDc hlt hlt'
    have hx := dc3 ds i hlt
    have hy := dc3 ds' i hlt'
    have hc := aggD ds[i] ds'[i]
    generalize ds[i] = x at *
    generalize ds'[i] = y at *
    generalize sameDc x y = w at *
    obtain ⟨xn, xp, xv⟩ := x
    obtain ⟨yn, yp, yv⟩ := y
    simp only [Dc.cells] at hx hy hc
    cases w with
    | true =>
      repeat' ((conv => whnf); first | (with_reducible refine ixJ i rfl ?_ ?_; (focus (omega))) | (refine exI hx ?_) | (refine exI hy ?_) | (refine exI hc ?_) | (first | refine stp ?_ | with_reducible refine condB (fun h => ?_) (fun h => ?_)))
      conv => whnf
      refine ⟨i + 1, ⟨hlt, hat⟩, by show ds.length - (i + 1) < ds.length - i; omega, FgL.mk [0, 1] rfl ?_ ⟨⟨rfl, rfl, rfl, rfl, BodyGe.pre (rest := []) rfl rfl⟩, ⟨rfl, rfl, rfl, rfl, BodyGe.pre (rest := []) rfl rfl⟩, trivial⟩ rfl⟩
      (repeat (first | exact trivial | refine stw ?_))
    | false =>
      rw [hfalse rfl, Bool.false_and]
      repeat' ((conv => whnf); first | (with_reducible refine ixJ i rfl ?_ ?_; (focus (omega))) | (refine exI hx ?_) | (refine exI hy ?_) | (refine exI hc ?_) | (first | refine stp ?_ | with_reducible refine condB (fun h => ?_) (fun h => ?_)))
      all_goals rfl
  · have e2 : decide ((i : Int) < (ds.length : Int)) = false := by simpa using hlt
    have hi2 : i = ds.length := by have := hi; omega
    subst hi2
    rw [List.take_length, hl1, List.take_length] at hall
    rw [hall, Bool.true_and]
    repeat' ((conv => whnf); first | refine stp ?_ | with_reducible refine condB (fun h => ?_) (fun h => ?_))
    conv => whnf
    refine ⟨Nat, (fun i => i ≤ ts.length ∧ allB sameSL (ts.take i) (ts'.take i) = true), (fun i => [(2, .ptr 0 0), (3, .ptr 1 0), (6, .int .i64 i)]), (fun _ => [⟨true, 0, 0, .cells [.rs ds.length 3 (dcC ds), .rs ts.length 1 (ts.map stA)] 25⟩, ⟨true, 1, 0, .cells [.rs ds'.length 3 (dcC ds'), .rs ts'.length 1 (ts'.map stA)] 25⟩]), (fun i => ts.length - i), ⟨0, ⟨Nat.zero_le _, rfl⟩, FgL.mk [0, 1] rfl ?_ ⟨⟨rfl, rfl, rfl, rfl, BodyGe.pre (rest := []) rfl rfl⟩, ⟨rfl, rfl, rfl, rfl, BodyGe.pre (rest := []) rfl rfl⟩, trivial⟩ rfl⟩, ?_⟩
    · (repeat (first | exact trivial | refine stw ?_))
    clear hall hi
    rintro i ⟨hi, hall⟩
    dsimp only
    by_cases hlt : i < ts.length
    · have e3 : decide ((i : Int) < (ts.length : Int)) = true := by simpa using hlt
      have hlt' : i < ts'.length := by omega
      have hat := allB_take sameSL ts ts' i hlt hlt'
      rw [hall, Bool.true_and] at hat
      have hfalse : sameSL ts[i] ts'[i] = false → allB sameSL ts ts' = false := allB_get sameSL hlt hlt'
      have hx := th1 ts i hlt
      have hy := th1 ts' i hlt'
      have hk := okTL_get ht1 _ (get_mem hlt)
      have q2 := q1 ts[i] ts'[i] hk.1 hk.2
      generalize ts[i] = x at *
      generalize ts'[i] = y at *
      generalize sameSL x y = w at *
      simp only [stA] at hx hy q2
      cases w with
      | true =>
        repeat' ((conv => whnf); first | (with_reducible refine exI (q2 _) ?_) | (with_reducible refine ixJ i rfl ?_ ?_; (focus (omega))) | (refine exI hx ?_) | (refine exI hy ?_) | (first | refine stp ?_ | with_reducible refine condB (fun h => ?_) (fun h => ?_)))
        conv => whnf
        refine ⟨i + 1, ⟨hlt, hat⟩, by show ts.length - (i + 1) < ts.length - i; omega, FgL.mk [0, 1] rfl ?_ ⟨⟨rfl, rfl, rfl, rfl, BodyGe.pre (rest := []) rfl rfl⟩, ⟨rfl, rfl, rfl, rfl, BodyGe.pre (rest := []) rfl rfl⟩, trivial⟩ rfl⟩
        (repeat (first | exact trivial | refine stw ?_))
      | false =>
        rw [hfalse rfl]
        repeat' ((conv => whnf); first | (with_reducible refine exI (q2 _) ?_) | (with_reducible refine ixJ i rfl ?_ ?_; (focus (omega))) | (refine exI hx ?_) | (refine exI hy ?_) | (first | refine stp ?_ | with_reducible refine condB (fun h => ?_) (fun h => ?_)))
        all_goals rfl
    · have e3 : decide ((i : Int) < (ts.length : Int)) = false := by simpa using hlt
      have hi2 : i = ts.length := by have := hi; omega
      subst hi2
      rw [List.take_length, hl2, List.take_length] at hall
      rw [hall]
      repeat' ((conv => whnf); first | refine stp ?_ | with_reducible refine condB (fun h => ?_) (fun h => ?_))
      all_goals rfl
end Go.Proofs.YtajhailaofchlaaDoor.lex
end

/-
  Copies of expressions.
-/
section
set_option linter.unusedVariables false
set_option linter.unusedSimpArgs false
namespace Go.Proofs.YtajhailaofchlaaDoor.lex
open Go.Abs Go.RowKit
set_option maxRecDepth 100000
set_option maxHeartbeats 4000000
variable {gl : Glob}
theorem ms_okG {P : Program} {t e : TypeId} {z b : Nat} {u : AV} {H : AHeap} (ht : P.underlying t = some (.slice e)) (hz : tsz P e = some z) (hb : (P.info? e).map (·.bytes) = some b) (hu : tzero P e = some u) (hul : u.cells.length = z) (hz0 : z ≠ 0) (n : Nat)
    (h : n ≤ 1099511627776) (h2 : b * n ≤ 140737488355328) : aMakeSlice P t (.int .i64 n) (.int .i64 n) H = some (.slice H.length 0 n n z, newBlk H (repl n u.cells) e) := by
  cases hi : P.info? e with
  | none => rw [hi] at hb; cases hb
  | some i =>
    rw [hi] at hb
    simp only [Option.map_some, Option.some.injEq] at hb
    have h2' : (b : Int) * (n : Int) ≤ 140737488355328 := by
      have : ((b * n : Nat) : Int) ≤ ((140737488355328 : Nat) : Int) := Int.ofNat_le.2 h2
      simpa using this
    simp only [aMakeSlice, msCore, ht, hz, hi, hb, hu]
    rw [if_pos ⟨by omega, by omega, by omega, h2'⟩]
    try simp only [Int.toNat_natCast]
    by_cases hn : n = 0
    · subst hn; simp [repl, newBlk]
    · have h0 : ¬ (n * z = 0) := fun e => by rcases Nat.mul_eq_zero.1 e with e | e; exact hn e; exact hz0 e
      rw [if_neg h0, if_pos hul]
theorem splN : ∀ (a b c vs : List AV), b.length = vs.length → spl (a ++ (b ++ c)) a.length vs = some (a ++ (vs ++ c))
  | [], [], c, [], _ => by cases c <;> rfl
  | [], x :: b, c, v :: vs, h => by
    have := splN [] b c vs (by simpa using h)
    simp only [List.nil_append, List.length_nil] at this
    simp only [List.nil_append, List.length_nil, List.cons_append, spl, this]
  | x :: a, b, c, vs, h => by
    have := splN a b c vs h
    simp only [List.cons_append, List.length_cons, spl, this]
  | [], [], c, _ :: _, h => by simp at h
  | [], _ :: _, c, [], h => by simp at h
/-- Without blocks, and frozen already. -/
def flat1 : AV → Bool
  | .bool _ => true
  | .int _ _ => true
  | .str _ => true
  | .rs _ _ _ => true
  | _ => false
theorem frz_flat {H : AHeap} {n : Nat} : ∀ {u : AV}, flat1 u = true → frz H (n + 1) u = some u
  | .bool _, _ => rfl
  | .int _ _, _ => rfl
  | .str _, _ => rfl
  | .rs _ _ _, _ => rfl
theorem frzL_flat {H : AHeap} {n : Nat} : ∀ {cs : List AV}, cs.all flat1 = true → frzL (frz H (n + 1)) cs = some cs
  | [], _ => rfl
  | c :: cs, h => by
    simp only [List.all_cons, Bool.and_eq_true] at h
    simp only [frzL, frz_flat h.1, frzL_flat h.2]
theorem frz_sliceF {H : AHeap} {n b f sh len cap z : Nat} {cs : List AV} {ty : TypeId} (hH : H[b]? = some ⟨true, f, sh, .cells cs ty⟩) (hc : cs.length = len * z) (hl : cs.all flat1 = true) : frz H (n + 2) (.slice b 0 len cap z) = some (.rs len z cs) := by
  cases len with
  | zero =>
    have : cs = [] := List.eq_nil_of_length_eq_zero (by omega)
    subst this; rfl
  | succ m =>
    have h2 : frzL (frz H (n + 1)) cs = some cs := frzL_flat hl
    unfold frz
    simp only [hH, List.drop_zero, tk_all hc]
    rw [h2]
theorem exC_flat : ∀ l : List Ex, (exC l).all flat1 = true
  | [] => by simp only [exC]; rfl
  | .mk o n s k :: l => by simp only [exC, Ex.cells, List.all_append, exC_flat l, Bool.and_true]; rfl
/-- What is made, so far. -/
def exAt (l : List Ex) (i : Nat) : List AV := exC (l.take i) ++ repl (l.length - i) [.int .i64 0, .int .i64 0, .str [], .nslice]
theorem exAt_split (l : List Ex) (i : Nat) (h : i < l.length) : exAt l i = exC (l.take i) ++ ([.int .i64 0, .int .i64 0, .str [], .nslice] ++ repl (l.length - (i + 1)) [.int .i64 0, .int .i64 0, .str [], .nslice]) := by
  have e : l.length - i = (l.length - (i + 1)) + 1 := by omega
  unfold exAt; rw [e]; rfl
theorem exAt_next (l : List Ex) (i : Nat) (h : i < l.length) : exC (l.take i) ++ (l[i].cells ++ repl (l.length - (i + 1)) [.int .i64 0, .int .i64 0, .str [], .nslice]) = exAt l (i + 1) := by
  unfold exAt
  rw [List.take_add_one, exC_app, List.getElem?_eq_getElem h]
  simp only [Option.toList_some, exC, List.append_nil, List.append_assoc]
theorem exAt_set (l : List Ex) (i k : Nat) (h : i < l.length) (hk : k = i * 4) : spl (exAt l i) k l[i].cells = some (exAt l (i + 1)) := by
  have hl : (exC (l.take i)).length = i * 4 := by rw [exC_len, List.length_take, Nat.min_eq_left (by omega)]
  rw [exAt_split l i h, hk, ← hl, splN _ _ _ _ (by rw [cells_len]; rfl), exAt_next l i h]
theorem exAt_zero (l : List Ex) : exAt l 0 = repl l.length [.int .i64 0, .int .i64 0, .str [], .nslice] := by simp only [exAt, List.take_zero, exC, List.nil_append, Nat.sub_zero]
theorem exAt_all (l : List Ex) : exAt l l.length = exC l := by simp only [exAt, List.take_length, Nat.sub_self, repl, List.append_nil]
def flat2 : AV → Bool
  | .bool _ => true
  | .int _ _ => true
  | .str _ => true
  | .rs _ _ _ => true
  | .nslice => true
  | _ => false
theorem refs_flat : ∀ {u : AV} {acc : List Nat}, flat2 u = true → refs u acc = acc
  | .bool _, _, _ => by simp only [refs]
  | .int _ _, _, _ => by simp only [refs]
  | .str _, _, _ => by simp only [refs]
  | .rs _ _ _, _, _ => by simp only [refs]
  | .nslice, _, _ => by simp only [refs]
theorem refsL_flat : ∀ {l : List AV} {acc : List Nat}, l.all flat2 = true → refsL l acc = acc
  | [], _, _ => by simp only [refsL]
  | c :: l, acc, h => by
    simp only [List.all_cons, Bool.and_eq_true] at h
    simp only [refsL, refs_flat h.1, refsL_flat h.2]
theorem flat12 : ∀ {l : List AV}, l.all flat1 = true → l.all flat2 = true := by
  intro l h
  rw [List.all_eq_true] at h ⊢
  intro u hu
  have := h u hu
  cases u <;> simp_all [flat1, flat2]
theorem repl_flat (z : List AV) (hz : z.all flat2 = true) : ∀ n, (repl n z).all flat2 = true
  | 0 => rfl
  | n + 1 => by simp only [repl, List.all_append, hz, repl_flat z hz n, Bool.and_true]
theorem exAt_refs (l : List Ex) (i : Nat) : refsL (exAt l i) [] = [] := by
  refine refsL_flat ?_
  unfold exAt
  rw [List.all_append, flat12 (exC_flat _), repl_flat _ rfl, Bool.and_true]
theorem exAt_len (l : List Ex) (i : Nat) (h : i ≤ l.length) : (exAt l i).length = l.length * 4 := by
  have hr : ∀ n, (repl n [AV.int .i64 0, .int .i64 0, .str [], .nslice]).length = n * 4 := by
    intro n
    induction n with
    | zero => rfl
    | succ n ih => simp only [repl, List.length_append, ih, List.length_cons, List.length_nil]; omega
  unfold exAt
  rw [List.length_append, exC_len, hr, List.length_take, Nat.min_eq_left h]; omega
theorem mkE_ok (n : Nat) (h : n ≤ 1048576) (H : AHeap) : aMakeSlice Tryd.prog 27 (.int .i64 n) (.int .i64 n) H = some (.slice H.length 0 n n 4, newBlk H (repl n [.int .i64 0, .int .i64 0, .str [], .nslice]) 36) := by
  have hz : tsz Tryd.prog 36 = some 4 := by kernel_rfl
  have hb : (Tryd.prog.info? 36).map (·.bytes) = some 56 := by kernel_rfl
  have hu : tzero Tryd.prog 36 = some (.agg [.int .i64 0, .int .i64 0, .str [], .nslice]) := by kernel_rfl
  exact ms_okG Tryd.underlying27 hz hb hu rfl (by decide) n (by omega) (by omega)
theorem copyE_ok : ∀ (n : Nat) (l : List Ex), sizeL l ≤ n → okL l → sizeL l ≤ 1048576 → ValOK Tryd.prog gl 81 [exA l] (exA l)
  | n, l, h, hok, hs => by
    obtain ⟨O, hO, p1, -⟩ := fams (P := Tryd.prog) (gl := gl) [{ I := List Ex, f := 81, G := fun l => sizeL l < n ∧ okL l ∧ sizeL l ≤ 1048576, A := fun l => [exA l], R := fun l => exA l, body := (by kernel_rfl), inj := (fun i j _ _ h => by simp only [List.cons.injEq, and_true] at h; exact h), ok := (fun l hl => ⟨rfl, match n, hl.1 with | n + 1, h => copyE_ok n l (by omega) hl.2.1 hl.2.2⟩) }] rfl
    have q1 : ∀ l, sizeL l < n → okL l → sizeL l ≤ 1048576 → ∀ H, acall Tryd.prog O H 81 [exA l] = some (exA l, H) := fun l h1 h2 h3 => p1 l ⟨h1, h2, h3⟩
    clear p1
    have hlen := sizeL_len l
    have hm := mkE_ok l.length (by omega)
    simp only [exA] at q1 ⊢
    refine fn_val follows noNum hO Tryd.func81 rfl ?_
    repeat' ((conv => whnf); first | (refine exI (hm _) ?_) | (first | refine stp ?_ | with_reducible refine condB (fun h => ?_) (fun h => ?_)))
    conv => whnf
    refine ⟨Nat, (fun i => i ≤ l.length), (fun i => [(3, .slice 0 0 l.length l.length 4), (9, .rs l.length 4 (exC l)), (10, .int .i64 l.length), (11, .int .i64 i)]), (fun i => [⟨true, 0, 0, .cells (exAt l i) 36⟩]), (fun i => l.length - i), ⟨0, Nat.zero_le _, FgL.mk [0] rfl ?_ ⟨⟨rfl, rfl, rfl, rfl, BodyGe.pre (rest := []) ?_ (exAt_refs l 0)⟩, trivial⟩ rfl⟩, ?_⟩
    · refine And.intro (Wk.slice rfl rfl rfl (Nat.le_refl _) (Nat.le_refl _) rfl) ?_
      (repeat (first | exact trivial | refine stw ?_))
    · rw [exAt_zero]; simp
    intro i hi
    dsimp only
    by_cases hlt : i < l.length
    · have e1 : decide ((i : Int) < (l.length : Int)) = true := by simpa using hlt
      have hx := ex4 l i hlt
      have hsp := exAt_set l i (0 + i * 4) hlt (by omega)
      have hsz := sizeL_mem _ _ (get_mem hlt)
      have hxo := okL_get hok _ (get_mem hlt)
      have hrf := exAt_refs l (i + 1)
      generalize hnx : exAt l (i + 1) = nx at *
      generalize l[i] = x at *
      obtain ⟨o, m, s, k⟩ := x
      have hk := okE_kids hxo
      simp only [Ex.kids, Ex.name, okN] at hk
      simp only [sizeE] at hsz
      have q2 := q1 k (by omega) hk.2 (by omega)
      simp only [Ex.cells] at hx hsp
      clear hk hxo
      repeat' ((conv => whnf); first | (with_reducible refine exI (q2 _) ?_) | (with_reducible refine ixJ i rfl ?_ ?_; (focus (omega))) | (refine exI hx ?_) | (refine exI hsp ?_) | (first | refine stp ?_ | with_reducible refine condB (fun h => ?_) (fun h => ?_)))
      conv => whnf
      refine ⟨i + 1, hlt, by show l.length - (i + 1) < l.length - i; omega, FgL.mk [0] rfl ?_ ⟨⟨rfl, rfl, rfl, rfl, BodyGe.pre (rest := []) ?_ (exAt_refs l (i + 1))⟩, trivial⟩ rfl⟩
      · refine And.intro (Wk.slice rfl rfl rfl (Nat.le_refl _) (Nat.le_refl _) rfl) ?_
        (repeat (first | exact trivial | refine stw ?_))
      · rw [hnx]; simp
    · have e1 : decide ((i : Int) < (l.length : Int)) = false := by simpa using hlt
      have hi2 : i = l.length := by have := hi; omega
      subst hi2
      rw [exAt_all]
      repeat' ((conv => whnf); first | refine stp ?_ | with_reducible refine condB (fun h => ?_) (fun h => ?_))
      conv => whnf
      exact ⟨_, frz_sliceF (b := 0) rfl (exC_len l) (exC_flat l), rfl⟩
end Go.Proofs.YtajhailaofchlaaDoor.lex
end

/-
  Copies of statements.
-/
section
set_option linter.unusedVariables false
set_option linter.unusedSimpArgs false
namespace Go.Proofs.YtajhailaofchlaaDoor.lex
open Go.Abs Go.RowKit
set_option maxRecDepth 100000
set_option maxHeartbeats 4000000
variable {gl : Glob}
theorem sizeS_pos' : ∀ e : St, 1 ≤ sizeS e
  | .mk _ _ _ _ _ _ _ => by simp only [sizeS]; omega
theorem sizeSL_len' : ∀ l : List St, l.length ≤ sizeSL l
  | [] => by simp [sizeSL]
  | e :: l => by have := sizeSL_len' l; have := sizeS_pos' e; simp only [sizeSL, List.length_cons]; omega
theorem stC_flat : ∀ l : List St, (stC l).all flat1 = true
  | [] => by simp only [stC]; rfl
  | .mk k n l o x t e :: r => by simp only [stC, St.cells, exA, List.all_append, stC_flat r, Bool.and_true]; rfl
theorem stC_app' : ∀ a b : List St, stC (a ++ b) = stC a ++ stC b
  | [], b => by simp only [stC, List.nil_append]
  | e :: a, b => by simp only [stC, List.cons_append, stC_app' a b, List.append_assoc]
theorem stC_len' : ∀ l : List St, (stC l).length = l.length * 7
  | [] => by simp only [stC]; rfl
  | .mk k n l o x t e :: r => by simp only [stC, St.cells, List.length_append, stC_len' r, List.length_cons, List.length_nil]; omega
theorem scells_len' : ∀ e : St, e.cells.length = 7
  | .mk _ _ _ _ _ _ _ => by simp only [St.cells]; rfl
/-- What is made of statements, so far. -/
def stAt (l : List St) (i : Nat) : List AV := stC (l.take i) ++ repl (l.length - i) [.int .i64 0, .str [], .str [], .int .i64 0, .nslice, .nslice, .nslice]
theorem stAt_split (l : List St) (i : Nat) (h : i < l.length) : stAt l i = stC (l.take i) ++ ([.int .i64 0, .str [], .str [], .int .i64 0, .nslice, .nslice, .nslice] ++ repl (l.length - (i + 1)) [.int .i64 0, .str [], .str [], .int .i64 0, .nslice, .nslice, .nslice]) := by
  have e : l.length - i = (l.length - (i + 1)) + 1 := by omega
  unfold stAt; rw [e]; rfl
theorem stAt_next (l : List St) (i : Nat) (h : i < l.length) : stC (l.take i) ++ (l[i].cells ++ repl (l.length - (i + 1)) [.int .i64 0, .str [], .str [], .int .i64 0, .nslice, .nslice, .nslice]) = stAt l (i + 1) := by
  unfold stAt
  rw [List.take_add_one, stC_app', List.getElem?_eq_getElem h]
  simp only [Option.toList_some, stC, List.append_nil, List.append_assoc]
theorem stAt_set (l : List St) (i k : Nat) (h : i < l.length) (hk : k = i * 7) : spl (stAt l i) k l[i].cells = some (stAt l (i + 1)) := by
  have hl : (stC (l.take i)).length = i * 7 := by rw [stC_len', List.length_take, Nat.min_eq_left (by omega)]
  rw [stAt_split l i h, hk, ← hl, splN _ _ _ _ (by rw [scells_len']; rfl), stAt_next l i h]
theorem stAt_zero (l : List St) : stAt l 0 = repl l.length [.int .i64 0, .str [], .str [], .int .i64 0, .nslice, .nslice, .nslice] := by simp only [stAt, List.take_zero, stC, List.nil_append, Nat.sub_zero]
theorem stAt_all (l : List St) : stAt l l.length = stC l := by simp only [stAt, List.take_length, Nat.sub_self, repl, List.append_nil]
theorem stAt_refs (l : List St) (i : Nat) : refsL (stAt l i) [] = [] := by
  refine refsL_flat ?_
  unfold stAt
  rw [List.all_append, flat12 (stC_flat _), repl_flat _ rfl, Bool.and_true]
theorem stAt_len (l : List St) (i : Nat) (h : i ≤ l.length) : (stAt l i).length = l.length * 7 := by
  have hr : ∀ n, (repl n [AV.int .i64 0, .str [], .str [], .int .i64 0, .nslice, .nslice, .nslice]).length = n * 7 := by
    intro n
    induction n with
    | zero => rfl
    | succ n ih => simp only [repl, List.length_append, ih, List.length_cons, List.length_nil]; omega
  unfold stAt
  rw [List.length_append, stC_len', hr, List.length_take, Nat.min_eq_left h]; omega
theorem mkS_ok (n : Nat) (h : n ≤ 1048576) (H : AHeap) : aMakeSlice Tryd.prog 28 (.int .i64 n) (.int .i64 n) H = some (.slice H.length 0 n n 7, newBlk H (repl n [.int .i64 0, .str [], .str [], .int .i64 0, .nslice, .nslice, .nslice]) 30) := by
  have hz : tsz Tryd.prog 30 = some 7 := by kernel_rfl
  have hb : (Tryd.prog.info? 30).map (·.bytes) = some 120 := by kernel_rfl
  have hu : tzero Tryd.prog 30 = some (.agg [.int .i64 0, .str [], .str [], .int .i64 0, .nslice, .nslice, .nslice]) := by kernel_rfl
  exact ms_okG Tryd.underlying28 hz hb hu rfl (by decide) n (by omega) (by omega)
theorem copyS_ok : ∀ (n : Nat) (l : List St), sizeSL l ≤ n → okSL l → sizeSL l ≤ 1048576 → ValOK Tryd.prog gl 60 [stA l] (stA l)
  | n, l, h, hok, hs => by
    obtain ⟨O, hO, p1, p2, -⟩ := fams (P := Tryd.prog) (gl := gl) [{ I := List St, f := 60, G := fun l => sizeSL l < n ∧ okSL l ∧ sizeSL l ≤ 1048576, A := fun l => [stA l], R := fun l => stA l, body := (by kernel_rfl), inj := (fun i j _ _ h => by simp only [List.cons.injEq, and_true] at h; exact h), ok := (fun l hl => ⟨rfl, match n, hl.1 with | n + 1, h => copyS_ok n l (by omega) hl.2.1 hl.2.2⟩) },
      { I := List Ex, f := 81, G := fun l => okL l ∧ sizeL l ≤ 1048576, A := fun l => [exA l], R := fun l => exA l, body := (by kernel_rfl), inj := (fun i j _ _ h => by simp only [List.cons.injEq, and_true] at h; exact h), ok := (fun l hl => ⟨rfl, copyE_ok _ l (Nat.le_refl _) hl.1 hl.2⟩) }] rfl
    have q1 : ∀ l, sizeSL l < n → okSL l → sizeSL l ≤ 1048576 → ∀ H, acall Tryd.prog O H 60 [stA l] = some (stA l, H) := fun l h1 h2 h3 => p1 l ⟨h1, h2, h3⟩
    have q2 : ∀ l, okL l → sizeL l ≤ 1048576 → ∀ H, acall Tryd.prog O H 81 [exA l] = some (exA l, H) := fun l h1 h2 => p2 l ⟨h1, h2⟩
    clear p1 p2
    have hlen := sizeSL_len' l
    have hm := mkS_ok l.length (by omega)
    simp only [stA, exA] at q1 q2 ⊢
    refine fn_val follows noNum hO Tryd.func60 rfl ?_
    repeat' ((conv => whnf); first | (refine exI (hm _) ?_) | (first | refine stp ?_ | with_reducible refine condB (fun h => ?_) (fun h => ?_)))
    conv => whnf
    refine ⟨Nat, (fun i => i ≤ l.length), (fun i => [(3, .slice 0 0 l.length l.length 7), (9, .rs l.length 7 (stC l)), (10, .int .i64 l.length), (11, .int .i64 i)]), (fun i => [⟨true, 0, 0, .cells (stAt l i) 30⟩]), (fun i => l.length - i), ⟨0, Nat.zero_le _, FgL.mk [0] rfl ?_ ⟨⟨rfl, rfl, rfl, rfl, BodyGe.pre (rest := []) ?_ (stAt_refs l 0)⟩, trivial⟩ rfl⟩, ?_⟩
    · refine And.intro (Wk.slice rfl rfl rfl (Nat.le_refl _) (Nat.le_refl _) rfl) ?_
      (repeat (first | exact trivial | refine stw ?_))
    · rw [stAt_zero]; simp
    intro i hi
    dsimp only
    by_cases hlt : i < l.length
    · have e1 : decide ((i : Int) < (l.length : Int)) = true := by simpa using hlt
      have hx := st7 l i hlt
      have hsp := stAt_set l i (0 + i * 7) hlt (by omega)
      have hsz := sizeSL_mem _ _ (get_mem hlt)
      have hxo := okSL_get hok _ (get_mem hlt)
      have hrf := stAt_refs l (i + 1)
      generalize hnx : stAt l (i + 1) = nx at *
      generalize l[i] = x at *
      obtain ⟨k, m, c, o, x, t, e⟩ := x
      have hk := okS_parts hxo
      simp only [St.exprs, St.name, St.loc, St.thn, St.els] at hk
      obtain ⟨_, _, _, _, _, hx2, ht2, he2⟩ := hk
      simp only [sizeS] at hsz
      have q3 := q2 x hx2 (by omega)
      have q4 := q1 t (by omega) ht2 (by omega)
      have q5 := q1 e (by omega) he2 (by omega)
      simp only [St.cells, exA] at hx hsp
      clear hxo
      repeat' ((conv => whnf); first | (with_reducible refine exI (q3 _) ?_) | (with_reducible refine exI (q4 _) ?_) | (with_reducible refine exI (q5 _) ?_) | (with_reducible refine ixJ i rfl ?_ ?_; (focus (omega))) | (refine exI hx ?_) | (refine exI hsp ?_) | (first | refine stp ?_ | with_reducible refine condB (fun h => ?_) (fun h => ?_)))
      conv => whnf
      refine ⟨i + 1, hlt, by show l.length - (i + 1) < l.length - i; omega, FgL.mk [0] rfl ?_ ⟨⟨rfl, rfl, rfl, rfl, BodyGe.pre (rest := []) ?_ (stAt_refs l (i + 1))⟩, trivial⟩ rfl⟩
      · refine And.intro (Wk.slice rfl rfl rfl (Nat.le_refl _) (Nat.le_refl _) rfl) ?_
        (repeat (first | exact trivial | refine stw ?_))
      · rw [hnx]; simp
    · have e1 : decide ((i : Int) < (l.length : Int)) = false := by simpa using hlt
      have hi2 : i = l.length := by have := hi; omega
      subst hi2
      rw [stAt_all]
      repeat' ((conv => whnf); first | refine stp ?_ | with_reducible refine condB (fun h => ?_) (fun h => ?_))
      conv => whnf
      exact ⟨_, frz_sliceF (b := 0) rfl (stC_len' l) (stC_flat l), rfl⟩
end Go.Proofs.YtajhailaofchlaaDoor.lex
end

/-
  Copies of programs.
-/
section
set_option linter.unusedVariables false
set_option linter.unusedSimpArgs false
namespace Go.Proofs.YtajhailaofchlaaDoor.lex
open Go.Abs Go.RowKit
set_option maxRecDepth 100000
set_option maxHeartbeats 4000000
variable {gl : Glob}
theorem msC {P : Program} {t e : TypeId} {z b : Nat} {u : AV} (ht : P.underlying t = some (.slice e)) (hz : tsz P e = some z) (hb : (P.info? e).map (·.bytes) = some b) (hu : tzero P e = some u) (hul : u.cells.length = z) (hz0 : z ≠ 0) (n : Nat)
    (h : n ≤ 1099511627776) (h2 : b * n ≤ 140737488355328) : msCore P t (.int .i64 n) (.int .i64 n) = some (repl n u.cells, e, z, n, n) := by
  cases hi : P.info? e with
  | none => rw [hi] at hb; cases hb
  | some i =>
    rw [hi] at hb
    simp only [Option.map_some, Option.some.injEq] at hb
    have h2' : (b : Int) * (n : Int) ≤ 140737488355328 := by
      have : ((b * n : Nat) : Int) ≤ ((140737488355328 : Nat) : Int) := Int.ofNat_le.2 h2
      simpa using this
    simp only [msCore, ht, hz, hi, hb, hu]
    rw [if_pos ⟨by omega, by omega, by omega, h2'⟩]
    by_cases hn : n = 0
    · subst hn; simp [repl]
    · have h0 : ¬ (n * z = 0) := fun e => by rcases Nat.mul_eq_zero.1 e with e | e; exact hn e; exact hz0 e
      simp only [Int.toNat_natCast]
      rw [if_neg h0, if_pos hul]
theorem mkslF {P : Program} {ρ : Operand → Option AV} {t e ty : TypeId} {z n : Nat} {zs : List AV} {d : Option Nat} {l : Operand} {p : String} {af : Array Edge} {gu : Option (Nat × Bool)} (h : msCore P t (.int .i64 n) (.int .i64 n) = some (zs, e, z, n, n)) (hl : ρ l = some (.int .i64 n)) :
    aallocF P ρ { dst := d, op := .makeSlice t l l, type := ty, pos := p, after := af, guard := gu } = some (fun b => .slice b 0 n n z, .cells zs e) := by
  simp only [aallocF, hl, h]
theorem mkD_ok (n : Nat) (h : n ≤ 1048576) : msCore Tryd.prog 22 (.int .i64 n) (.int .i64 n) = some (repl n [.str [], .bool false, .int .i64 0], 53, 3, n, n) := by
  have hz : tsz Tryd.prog 53 = some 3 := by kernel_rfl
  have hb : (Tryd.prog.info? 53).map (·.bytes) = some 32 := by kernel_rfl
  have hu : tzero Tryd.prog 53 = some (.agg [.str [], .bool false, .int .i64 0]) := by kernel_rfl
  exact msC Tryd.underlying22 hz hb hu rfl (by decide) n (by omega) (by omega)
theorem mkT_ok (n : Nat) (h : n ≤ 1048576) : msCore Tryd.prog 23 (.int .i64 n) (.int .i64 n) = some (repl n [.nslice], 28, 1, n, n) := by
  have hz : tsz Tryd.prog 28 = some 1 := by kernel_rfl
  have hb : (Tryd.prog.info? 28).map (·.bytes) = some 24 := by kernel_rfl
  have hu : tzero Tryd.prog 28 = some .nslice := by kernel_rfl
  exact msC Tryd.underlying23 hz hb hu rfl (by decide) n (by omega) (by omega)
theorem dcC_len : ∀ l : List Dc, (dcC l).length = l.length * 3
  | [] => by simp only [dcC]; rfl
  | d :: l => by simp only [dcC, Dc.cells, List.length_append, dcC_len l, List.length_cons, List.length_nil]; omega
theorem dcC_flat : ∀ l : List Dc, (dcC l).all flat1 = true
  | [] => by simp only [dcC]; rfl
  | d :: l => by simp only [dcC, Dc.cells, List.all_append, dcC_flat l, Bool.and_true]; rfl
theorem repl_len (z : List AV) : ∀ n, (repl n z).length = n * z.length
  | 0 => by simp [repl]
  | n + 1 => by simp only [repl, List.length_append, repl_len z n]; rw [Nat.add_mul]; omega
theorem dcC_one : ∀ l : List Dc, (dcC l).all Go.Abs.one = true
  | [] => by simp only [dcC]; rfl
  | d :: l => by simp only [dcC, Dc.cells, List.all_append, dcC_one l, Bool.and_true]; rfl
theorem copyD (ds : List Dc) (b0 b1 b3 b4 : ABody) : aCopy Tryd.prog 22 (.slice 2 0 ds.length ds.length 3) (.rs ds.length 3 (dcC ds)) [⟨true, 0, 0, b0⟩, ⟨true, 1, 0, b1⟩, ⟨true, 2, 0, .cells (repl ds.length [.str [], .bool false, .int .i64 0]) 53⟩, ⟨true, 3, 0, b3⟩, ⟨true, 4, 0, b4⟩] = some (.int .i64 ds.length, [⟨true, 0, 0, b0⟩, ⟨true, 1, 0, b1⟩, ⟨true, 2, 0, .cells (dcC ds) 53⟩, ⟨true, 3, 0, b3⟩, ⟨true, 4, 0, b4⟩]) := by
  have hz : tsz Tryd.prog 53 = some 3 := by kernel_rfl
  have hmin : Nat.min ds.length ds.length = ds.length := Nat.min_self _
  have hsp : spl (repl ds.length [AV.str [], .bool false, .int .i64 0]) 0 (dcC ds) = some (dcC ds) := by
    have := splN [] (repl ds.length [AV.str [], .bool false, .int .i64 0]) [] (dcC ds) (by rw [repl_len, dcC_len]; rfl)
    simpa using this
  unfold aCopy
  simp only [Tryd.underlying22, hz, xcells, if_true, hmin]
  by_cases h0 : ds.length = 0
  · have : ds = [] := List.eq_nil_of_length_eq_zero h0
    subst this; rfl
  · rw [if_neg h0, tk_all (dcC_len ds)]
    simp only [wr, List.getElem?_cons_succ, List.getElem?_cons_zero, dcC_one, if_true, hsp]
    rfl
def thAt (l : List (List St)) (i : Nat) : List AV := (l.take i).map stA ++ repl (l.length - i) [.nslice]
theorem thAt_set (l : List (List St)) (i k : Nat) (h : i < l.length) (hk : k = i * 1) : spl (thAt l i) k [stA l[i]] = some (thAt l (i + 1)) := by
  have e : l.length - i = (l.length - (i + 1)) + 1 := by omega
  have hl : ((l.take i).map stA).length = k := by rw [List.length_map, List.length_take]; omega
  have h1 : thAt l i = (l.take i).map stA ++ ([.nslice] ++ repl (l.length - (i + 1)) [.nslice]) := by unfold thAt; rw [e]; rfl
  rw [h1, ← hl, splN _ _ _ _ (by simp)]
  unfold thAt
  rw [List.take_add_one, List.getElem?_eq_getElem h]
  simp only [Option.toList_some, List.map_append, List.map_cons, List.map_nil, List.append_assoc]
theorem thAt_zero (l : List (List St)) : thAt l 0 = repl l.length [.nslice] := by simp [thAt]
theorem thAt_all (l : List (List St)) : thAt l l.length = l.map stA := by simp [thAt, repl]
theorem th_flat : ∀ l : List (List St), (l.map stA).all flat1 = true
  | [] => rfl
  | x :: l => by simp only [List.map_cons, List.all_cons, th_flat l, Bool.and_true]; rfl
theorem thAt_refs (l : List (List St)) (i : Nat) : refsL (thAt l i) [] = [] := by
  refine refsL_flat ?_
  unfold thAt
  rw [List.all_append, flat12 (th_flat _), repl_flat _ rfl, Bool.and_true]
theorem body2 {m : List Nat} {a b a2 b2 : AV} {ty : TypeId} (h1 : Wk m a a2) (h2 : Wk m b b2) : BodyGe m (.cells [a, b] ty) (.cells [a2, b2] ty) := by
  refine ⟨rfl, Nat.le_refl _, fun i c hc => ?_⟩
  match i, hc with
  | 0, hc => simp only [List.getElem?_cons_zero, Option.some.injEq] at hc; subst hc; exact ⟨a, rfl, h1⟩
  | 1, hc => simp only [List.getElem?_cons_succ, List.getElem?_cons_zero, Option.some.injEq] at hc; subst hc; exact ⟨b, rfl, h2⟩
  | n + 2, hc => simp at hc
theorem frz_agg2 {H : AHeap} {n : Nat} {a b a' b' : AV} (h1 : frz H n a = some a') (h2 : frz H n b = some b') : frz H (n + 1) (.agg [a, b]) = some (.agg [a', b']) := by
  show (match frzL (frz H n) [a, b] with | some l => some (AV.agg l) | none => none) = _
  simp only [frzL, h1, h2]
theorem copyP_ok (p : Pr) (hok : okP p) (hs : sizeTL p.threads ≤ 1048576) (hd : p.decls.length ≤ 1048576) (ht : p.threads.length ≤ 1048576) : ValOK Tryd.prog gl 25 [p.av] p.av := by
  obtain ⟨ds, ts⟩ := p
  obtain ⟨⟨hd1, hd2⟩, ht1, ht2⟩ := hok
  obtain ⟨O, hO, p1, -⟩ := fams (P := Tryd.prog) (gl := gl) [{ I := List St, f := 60, G := fun l => okSL l ∧ sizeSL l ≤ 1048576, A := fun l => [stA l], R := fun l => stA l, body := (by kernel_rfl), inj := (fun i j _ _ h => by simp only [List.cons.injEq, and_true] at h; exact h), ok := (fun l hl => ⟨rfl, copyS_ok _ l (Nat.le_refl _) hl.1 hl.2⟩) }] rfl
  have q1 : ∀ l, okSL l → sizeSL l ≤ 1048576 → ∀ H, acall Tryd.prog O H 60 [stA l] = some (stA l, H) := fun l h1 h2 => p1 l ⟨h1, h2⟩
  clear p1
  have hmd := mkD_ok ds.length hd
  have hmt := mkT_ok ts.length ht
  have hrd : ∀ k, allLt k (refsB (.cells (repl ds.length [.str [], .bool false, .int .i64 0]) 53) []) = true := fun k => by
    have : refsB (.cells (repl ds.length [.str [], .bool false, .int .i64 0]) 53) [] = [] := refsL_flat (repl_flat _ rfl _)
    rw [this]; rfl
  have hrt : ∀ k, allLt k (refsB (.cells (repl ts.length [.nslice]) 28) []) = true := fun k => by
    have : refsB (.cells (repl ts.length [.nslice]) 28) [] = [] := refsL_flat (repl_flat _ rfl _)
    rw [this]; rfl
  simp only [Pr.av] at *
  refine fn_val follows noNum hO Tryd.func25 rfl ?_
  repeat' ((conv => whnf); first | (rw [mkslF hmd]; rotate_left; (focus (rfl)); dsimp only; rw [if_pos (hrd _)]) | (rw [mkslF hmt]; rotate_left; (focus (rfl)); dsimp only; rw [if_pos (hrt _)]) | (refine exI (copyD ds _ _ _ _) ?_) | (first | refine stp ?_ | with_reducible refine condB (fun h => ?_) (fun h => ?_)))
  conv => whnf
  refine ⟨Nat, (fun i => i ≤ ts.length), (fun i => [(2, .ptr 0 0), (3, .ptr 1 0), (21, .rs ts.length 1 (ts.map stA)), (22, .int .i64 ts.length), (23, .int .i64 i)]), (fun i => [⟨true, 0, 0, .cells [.nslice, .nslice] 25⟩, ⟨true, 1, 0, .cells [.slice 2 0 ds.length ds.length 3, .slice 3 0 ts.length ts.length 1] 25⟩, ⟨true, 2, 0, .cells (dcC ds) 53⟩, ⟨true, 3, 0, .cells (thAt ts i) 28⟩]), (fun i => ts.length - i), ⟨0, Nat.zero_le _, FgL.mk [1, 4, 2, 3] rfl ?_ ⟨⟨rfl, rfl, rfl, rfl, BodyGe.pre (rest := []) rfl rfl⟩, ⟨rfl, rfl, rfl, rfl, body2 (Wk.slice rfl rfl rfl (Nat.le_refl _) (Nat.le_refl _) rfl) (Wk.slice rfl rfl rfl (Nat.le_refl _) (Nat.le_refl _) rfl)⟩, ⟨rfl, rfl, rfl, rfl, BodyGe.pre (rest := []) (by simp) (refsL_flat (flat12 (dcC_flat _)))⟩, ⟨rfl, rfl, rfl, rfl, BodyGe.pre (rest := []) (by rw [thAt_zero]; simp) (thAt_refs ts 0)⟩, trivial⟩ rfl⟩, ?_⟩
  · (repeat (first | exact trivial | refine stw ?_))
  intro i hi
  dsimp only
  by_cases hlt : i < ts.length
  · have e1 : decide ((i : Int) < (ts.length : Int)) = true := by simpa using hlt
    have hx := th1 ts i hlt
    have hsp := thAt_set ts i (0 + i * 1) hlt (by omega)
    have hk := okTL_get ht1 _ (get_mem hlt)
    have hsz := sizeTL_mem _ _ (get_mem hlt)
    have q2 := q1 ts[i] hk.1 (by omega)
    generalize hnx : thAt ts (i + 1) = nx at *
    generalize ts[i] = x at *
    simp only [stA] at hx hsp q2
    repeat' ((conv => whnf); first | (with_reducible refine exI (q2 _) ?_) | (with_reducible refine ixJ i rfl ?_ ?_; (focus (omega))) | (refine exI hx ?_) | (refine exI hsp ?_) | (first | refine stp ?_ | with_reducible refine condB (fun h => ?_) (fun h => ?_)))
    conv => whnf
    refine ⟨i + 1, hlt, by show ts.length - (i + 1) < ts.length - i; omega, FgL.mk [0, 1, 2, 3] rfl ?_ ⟨⟨rfl, rfl, rfl, rfl, BodyGe.pre (rest := []) rfl rfl⟩, ⟨rfl, rfl, rfl, rfl, body2 (Wk.slice rfl rfl rfl (Nat.le_refl _) (Nat.le_refl _) rfl) (Wk.slice rfl rfl rfl (Nat.le_refl _) (Nat.le_refl _) rfl)⟩, ⟨rfl, rfl, rfl, rfl, BodyGe.pre (rest := []) (by simp) (refsL_flat (flat12 (dcC_flat _)))⟩, ⟨rfl, rfl, rfl, rfl, BodyGe.pre (rest := []) (by rw [hnx]; simp) (thAt_refs ts (i + 1))⟩, trivial⟩ rfl⟩
    (repeat (first | exact trivial | refine stw ?_))
  · have e1 : decide ((i : Int) < (ts.length : Int)) = false := by simpa using hlt
    have hi2 : i = ts.length := by have := hi; omega
    subst hi2
    rw [thAt_all]
    repeat' ((conv => whnf); first | refine stp ?_ | with_reducible refine condB (fun h => ?_) (fun h => ?_))
    conv => whnf
    exact ⟨_, frz_agg2 (n := 29) (frz_sliceF (n := 27) (b := 2) rfl (dcC_len ds) (dcC_flat ds)) (frz_sliceF (n := 27) (b := 3) rfl (by simp) (th_flat ts)), rfl⟩
end Go.Proofs.YtajhailaofchlaaDoor.lex
end

/-
  Programs that are the same as themselves; how many statements are of a kind.
-/
section
set_option linter.unusedVariables false
set_option linter.unusedSimpArgs false
namespace Go.Proofs.YtajhailaofchlaaDoor.lex
open Go.Abs Go.RowKit
set_option maxRecDepth 100000
set_option maxHeartbeats 4000000
variable {gl : Glob}
mutual
theorem sameE_refl : ∀ e : Ex, sameE e e = true
  | .mk o n s k => by simp only [sameE, sameL_refl k, beq_self_eq_true, Bool.and_true]
theorem sameL_refl : ∀ l : List Ex, sameL l l = true
  | [] => by simp only [sameL]
  | e :: l => by simp only [sameL, sameE_refl e, sameL_refl l, Bool.and_true]
end
mutual
theorem sameS_refl : ∀ e : St, sameS e e = true
  | .mk k n l o x t e => by simp only [sameS, sameL_refl x, sameSL_refl t, sameSL_refl e, beq_self_eq_true, Bool.and_true]
theorem sameSL_refl : ∀ l : List St, sameSL l l = true
  | [] => by simp only [sameSL]
  | e :: l => by simp only [sameSL, sameS_refl e, sameSL_refl l, Bool.and_true]
end
theorem sameP_refl (p : Pr) : sameP p p = true := by
  unfold sameP
  rw [allB_refl sameDc fun d _ => by simp [sameDc], allB_refl sameSL fun t _ => sameSL_refl t]; rfl
mutual
def cntS (kd : Int) : St → Nat
  | .mk k _ _ _ _ t e => (cond (k == kd) 1 0) + cntSL kd t + cntSL kd e
def cntSL (kd : Int) : List St → Nat
  | [] => 0
  | x :: l => cntS kd x + cntSL kd l
end
theorem cntS_eq (kd : Int) : ∀ x : St, cntS kd x = (cond (x.kind == kd) 1 0) + cntSL kd x.thn + cntSL kd x.els
  | .mk _ _ _ _ _ _ _ => by simp only [cntS, St.kind, St.thn, St.els]
mutual
theorem cntS_le (kd : Int) : ∀ x : St, cntS kd x ≤ sizeS x
  | .mk k _ _ _ x t e => by
    have h1 := cntSL_le kd t; have h2 := cntSL_le kd e
    simp only [cntS, sizeS]; cases (k == kd) <;> simp only [cond_true, cond_false] <;> omega
theorem cntSL_le (kd : Int) : ∀ l : List St, cntSL kd l ≤ sizeSL l
  | [] => by simp only [cntSL, sizeSL]; omega
  | x :: l => by have h1 := cntS_le kd x; have h2 := cntSL_le kd l; simp only [cntSL, sizeSL]; omega
end
theorem cntSL_take (kd : Int) : ∀ (l : List St) (i : Nat) (h : i < l.length), cntSL kd (l.take (i + 1)) = cntSL kd (l.take i) + cntS kd l[i]
  | e :: l, 0, h => by simp only [List.take_succ_cons, List.take_zero, cntSL, List.getElem_cons_zero]; omega
  | e :: l, i + 1, h => by
    have := cntSL_take kd l i (by simpa using h)
    simp only [List.take_succ_cons, cntSL, List.getElem_cons_succ] at this ⊢; omega
theorem cntSL_take_le (kd : Int) : ∀ (l : List St) (i : Nat), cntSL kd (l.take i) ≤ cntSL kd l
  | [], i => by simp [cntSL]
  | e :: l, 0 => by simp [cntSL]
  | e :: l, i + 1 => by have := cntSL_take_le kd l i; simp only [List.take_succ_cons, cntSL]; omega
theorem cell_k (s : St) (rest : List AV) : tk 1 ((s.cells ++ rest).drop 0) = some [.int .i64 s.kind] := by
  obtain ⟨k, n, l, o, x, t, e⟩ := s
  simp only [St.cells, St.kind]; rfl
theorem countR_ok : ∀ (n : Nat) (l : List St) (kd : Int), sizeSL l ≤ n → okSL l → l.length ≤ 9223372036854775807 → sizeSL l ≤ 1048576 → ValOK Tryd.prog gl 70 [stA l, .int .i64 kd] (.int .i64 (cntSL kd l))
  | n, l, kd, h, hok, hl, hs => by
    obtain ⟨O, hO, p1, -⟩ := fams (P := Tryd.prog) (gl := gl) [{ I := List St, f := 70, G := fun l => sizeSL l < n ∧ okSL l ∧ l.length ≤ 9223372036854775807 ∧ sizeSL l ≤ 1048576, A := fun l => [stA l, .int .i64 kd], R := fun l => .int .i64 (cntSL kd l), body := (by kernel_rfl), inj := (fun i j _ _ h => by simp only [List.cons.injEq, and_true] at h; rw [stA_inj h]), ok := (fun l hl => ⟨rfl, match n, hl.1 with | n + 1, h => countR_ok n l kd (by omega) hl.2.1 hl.2.2.1 hl.2.2.2⟩) }] rfl
    have q1 : ∀ l, sizeSL l < n → okSL l → l.length ≤ 9223372036854775807 → sizeSL l ≤ 1048576 → ∀ H, acall Tryd.prog O H 70 [stA l, .int .i64 kd] = some (.int .i64 (cntSL kd l), H) := fun l h1 h2 h3 h4 => p1 l ⟨h1, h2, h3, h4⟩
    clear p1
    simp only [stA] at q1 ⊢
    refine fn_val follows noNum hO Tryd.func70 rfl ?_
    repeat' ((conv => whnf); first | refine stp ?_ | with_reducible refine condB (fun h => ?_) (fun h => ?_))
    conv => whnf
    refine ⟨Nat, (fun i => i ≤ l.length), (fun i => [(0, .rs l.length 7 (stC l)), (1, .int .i64 kd), (5, .int .i64 (cntSL kd (l.take i))), (6, .int .i64 i)]), (fun _ => []), (fun i => l.length - i), ⟨0, Nat.zero_le _, FgL.mk0 rfl ?_⟩, ?_⟩
    · simp only [List.take_zero, cntSL]; (repeat (first | exact trivial | refine stw ?_))
    intro i hi
    dsimp only
    by_cases hlt : i < l.length
    · have e1 : decide ((i : Int) < (l.length : Int)) = true := by simpa using hlt
      have hsz := sizeSL_mem _ _ (get_mem hlt)
      have hse := sizeS_eq l[i]
      have hat := cntSL_take kd l i hlt
      have hle := cntSL_take_le kd l (i + 1)
      have hle2 := cntSL_le kd l
      rw [cntS_eq] at hat
      have hx0 : tk 1 (((stC l).drop (i * 7)).drop 0) = some [.int .i64 l[i].kind] := by rw [stC_at l i hlt]; exact cell_k _ _
      have hx5 : tk 1 (((stC l).drop (i * 7)).drop 5) = some [stA l[i].thn] := by rw [stC_at l i hlt]; exact cell_t _ _
      have hx6 : tk 1 (((stC l).drop (i * 7)).drop 6) = some [stA l[i].els] := by rw [stC_at l i hlt]; exact cell_e _ _
      obtain ⟨k1, k2, k3, k4, k5, k6, k7, k8⟩ := okS_parts (okSL_get hok _ (get_mem hlt))
      have qt := q1 l[i].thn (by omega) k7 k4 (by omega)
      have qe := q1 l[i].els (by omega) k8 k5 (by omega)
      clear q1
      generalize hc : cntSL kd (l.take i) = c at *
      generalize l[i] = x at *
      obtain ⟨kind, name, loc, order, exprs, thn, els⟩ := x
      simp only [St.kind, St.thn, St.els, stA] at *
      generalize cntSL kd thn = c1 at *
      generalize cntSL kd els = c2 at *
      generalize hc3 : cntSL kd (List.take (i + 1) l) = c3 at *
      generalize cntSL kd l = c4 at *
      clear hsz hse h
      by_cases hkd : kind = kd
      · have e2 : (kind == kd) = true := by simpa using hkd
        rw [e2, cond_true] at hat
        repeat' ((conv => whnf); first | (with_reducible refine exI (qt _) ?_) | (with_reducible refine exI (qe _) ?_) | (with_reducible refine ixJ i rfl ?_ ?_; (focus (omega))) | (refine exI hx0 ?_) | (refine exI hx5 ?_) | (refine exI hx6 ?_) | (first | refine stp ?_ | with_reducible refine condB (fun h => ?_) (fun h => ?_)))
        conv => whnf
        refine ⟨i + 1, hlt, by show l.length - (i + 1) < l.length - i; omega, FgL.mk0 rfl ?_⟩
        rw [hc3]; (repeat (first | exact trivial | refine stw ?_))
      · have e2 : (kind == kd) = false := by simpa using hkd
        rw [e2, cond_false] at hat
        repeat' ((conv => whnf); first | (with_reducible refine exI (qt _) ?_) | (with_reducible refine exI (qe _) ?_) | (with_reducible refine ixJ i rfl ?_ ?_; (focus (omega))) | (refine exI hx0 ?_) | (refine exI hx5 ?_) | (refine exI hx6 ?_) | (first | refine stp ?_ | with_reducible refine condB (fun h => ?_) (fun h => ?_)))
        conv => whnf
        refine ⟨i + 1, hlt, by show l.length - (i + 1) < l.length - i; omega, FgL.mk0 rfl ?_⟩
        rw [hc3]; (repeat (first | exact trivial | refine stw ?_))
    · have e1 : decide ((i : Int) < (l.length : Int)) = false := by simpa using hlt
      have hi2 : i = l.length := by have := hi; omega
      subst hi2
      rw [List.take_length]
      repeat' ((conv => whnf); first | refine stp ?_ | with_reducible refine condB (fun h => ?_) (fun h => ?_))
      all_goals rfl
end Go.Proofs.YtajhailaofchlaaDoor.lex
end

/-
  Of 'cantileverlaw03': the variables that the statement lists, as the abstract interpreter knows them; 'lives' and the chapter's examples, run by the kernel.
-/
section
set_option linter.unusedVariables false
namespace Go.Proofs.YtajhailaofchlaaDoor.runLives
open Go.RowKit Go.Abs

/-- 'ast.shapes', cell by cell. -/
def tbl0 : List AV := [.bool false, .bool false, .int .i64 (.ofNat 0), .bool true, .bool false, .int .i64 (.ofNat 0), .bool false, .bool true, .int .i64 (.ofNat 0), 
    .bool false, .bool false, .int .i64 (.ofNat 1), .bool false, .bool false, .int .i64 (.ofNat 1), .bool false, .bool false, .int .i64 (.ofNat 2), 
    .bool false, .bool false, .int .i64 (.ofNat 2), .bool false, .bool false, .int .i64 (.ofNat 2), .bool false, .bool false, .int .i64 (.ofNat 2), 
    .bool false, .bool false, .int .i64 (.ofNat 2), .bool false, .bool false, .int .i64 (.ofNat 2), .bool false, .bool false, .int .i64 (.ofNat 2), 
    .bool false, .bool false, .int .i64 (.ofNat 2), .bool false, .bool false, .int .i64 (.ofNat 2), .bool false, .bool false, .int .i64 (.ofNat 2), 
    .bool false, .bool false, .int .i64 (.ofNat 2), .bool false, .bool false, .int .i64 (.ofNat 2)]

/-- 'ast.forms', cell by cell. -/
def tbl1 : List AV := [.bool false, .bool false, .bool false, .int .i64 (.ofNat 0), .bool false, .bool false, .bool true, .bool false, .bool false, .int .i64 (.ofNat 1), 
    .bool false, .bool false, .bool true, .bool true, .bool true, .int .i64 (.ofNat 0), .bool false, .bool false, .bool false, .bool true, .bool true, 
    .int .i64 (.ofNat 1), .bool false, .bool false, .bool true, .bool true, .bool true, .int .i64 (.ofNat 2), .bool false, .bool false, .bool true, 
    .bool true, .bool true, .int .i64 (.ofNat 1), .bool false, .bool false, .bool true, .bool true, .bool true, .int .i64 (.ofNat 1), .bool false, 
    .bool false, .bool false, .bool false, .bool true, .int .i64 (.ofNat 0), .bool false, .bool false, .bool false, .bool false, .bool false, 
    .int .i64 (.ofNat 1), .bool false, .bool false, .bool false, .bool false, .bool false, .int .i64 (.ofNat 1), .bool false, .bool false, .bool false, 
    .bool false, .bool false, .int .i64 (.ofNat 1), .bool true, .bool true, .bool false, .bool false, .bool false, .int .i64 (.ofNat 1), .bool true, 
    .bool false]

def gl : Glob := fun g => if Nat.beq g 0 then some tbl0 else if Nat.beq g 1 then some tbl1 else none

set_option maxRecDepth 100000

theorem follows : Tryd.prog.follows .mixedOrders = true := by kernel_rfl

theorem noNumAll : (Tryd.prog.funcs.toList.all fun fn => !(fn.name == "runtime.NumGoroutine")) = true := by kernel_rfl

theorem noNum : NoNum Tryd.prog := fun g fn h => by
  have h1 := List.all_eq_true.1 noNumAll fn (Array.mem_toList_iff.2 (Array.mem_of_getElem? h))
  simpa using h1

theorem laid_skip {P : Program} {W : World} {name : String} {d : DataW Unit} {rest : List (String × DataW Unit)} {ps : List MemPlace} (h : DataW.LaidVars P W ((name, d) :: rest) ps) : ∃ qs, DataW.LaidVars P W rest qs := by
  obtain ⟨_, _, _, _, _, q, _, _, _, _, hr, _⟩ := h
  exact ⟨q, hr⟩

theorem n0 : Tryd.prog.globalNamed "cantilever/ast.shapes" = some 0 := by kernel_rfl
theorem ty0 : (Tryd.prog.globals[0]?).map (·.type) = some 92 := by kernel_rfl
theorem av0 : avOf Tryd.prog 6 92 (Rows.laid_cantilever_ast_shapes (H := Unit)) = some tbl0 := by kernel_rfl
theorem n1 : Tryd.prog.globalNamed "cantilever/ast.forms" = some 1 := by kernel_rfl
theorem ty1 : (Tryd.prog.globals[1]?).map (·.type) = some 95 := by kernel_rfl
theorem av1 : avOf Tryd.prog 6 95 (Rows.laid_cantilever_ast_forms (H := Unit)) = some tbl1 := by kernel_rfl

theorem globs {W : World} (h : laidMetH Tryd.prog [("cantilever/ast.shapes", Rows.laid_cantilever_ast_shapes), ("cantilever/ast.forms", Rows.laid_cantilever_ast_forms)] W) : GlOK gl (snap0 W) := by
  have h' : laidMet Tryd.prog [("cantilever/ast.shapes", Rows.laid_cantilever_ast_shapes), ("cantilever/ast.forms", Rows.laid_cantilever_ast_forms)] W := h
  obtain ⟨_, hv, _⟩ := id h'
  obtain ⟨m0, _⟩ := laid_glob n0 ty0 av0 hv
  have h' := laidMet.tail h'
  obtain ⟨_, hv, _⟩ := id h'
  obtain ⟨m1, _⟩ := laid_glob n1 ty1 av1 hv
  intro g cs hg
  unfold gl at hg
  split at hg
  · rename_i e; have := Nat.eq_of_beq_eq_true e; subst this; simp at hg; subst hg; exact m0
  split at hg
  · rename_i e; have := Nat.eq_of_beq_eq_true e; subst this; simp at hg; subst hg; exact m1
  cases hg

end Go.Proofs.YtajhailaofchlaaDoor.runLives
end

/-
  Expressions: may they be (the program's answer); how many, how deep (the program's answer); its CheckExpr.
-/
section
set_option linter.unusedVariables false
set_option linter.unusedSimpArgs false
namespace Go.Proofs.YtajhailaofchlaaDoor.lex
open Go.Abs Go.RowKit
set_option maxRecDepth 100000
set_option maxHeartbeats 4000000

def isWordF (f : Nat) (xs : List AV) : Option AV := match f with
  | 37 => match xs with | [.str s, .bool m] => if s.length ≤ 9223372036854775807 then some (.bool (if m then wordB s else s == [])) else none | _ => none
  | _ => none
theorem isWordF_sound {gl : Glob} : OrcSound Tryd.prog gl (orcZ isWordF) := orcZ_sound fun f xs r h => by
  unfold isWordF at h
  split at h
  · split at h <;> try (cases h; done)
    split at h <;> cases h
    rename_i hs
    exact ⟨rfl, isWord_ok _ hs _⟩
  · cases h
theorem wordB_nil : wordB [] = false := rfl
theorem rightX_ok (e : Ex) (rest : List AV) (d : Int) (hok : okE e) : ValOK Tryd.prog runLives.gl 39 [.rp (e.cells ++ rest), .int .i64 d] (.bool (ownE e)) := by
  obtain ⟨⟨hn1, hn2⟩, _⟩ := okE_kids hok
  have hb : hasBody Tryd.prog 37 = true := by kernel_rfl
  have key : ∀ (op num : Int) (name : List UInt8) (v : AV) (n : Nat), (∃ cs, v = .rs n 4 cs) → name.length ≤ 9223372036854775807 → ValOK Tryd.prog runLives.gl 39 [.rp (.int .i64 op :: .int .i64 num :: .str name :: v :: rest), .int .i64 d] (.bool (ownF op num name n)) := by
    intro op num name v n hv hname
    have q : ∀ (m : Bool) (H : AHeap), acall Tryd.prog (orcZ isWordF) H 37 [.str name, .bool m] = some (.bool (if m then wordB name else name == []), H) := fun m H => callZ hb rfl (by simp only [isWordF]; rw [if_pos hname])
    by_cases h1 : op < 1
    · have e1 : decide (op < 1) = true := by simpa using h1
      have hk : kidsI op = -1 := by unfold kidsI; rw [if_neg (by omega), if_neg (by omega), if_neg (by omega)]
      obtain ⟨cs, rfl⟩ := hv
      all_goals
        refine fn_val follows noNum isWordF_sound Tryd.func39 rfl ?_
        repeat' ((conv => whnf); first | (refine exI (q _ _) ?_) | (first | refine stp ?_ | with_reducible refine condB (fun h => ?_) (fun h => ?_)))
      all_goals (show AV.bool _ = AV.bool _; congr 1; unfold ownF; rw [hk])
      all_goals (first | rfl | (symm; simp; intros; omega))
    · have e1 : decide (op < 1) = false := by simpa using h1
      by_cases h2 : 16 < op
      · have e2 : decide (op > 16) = true := by simpa using h2
        have hk : kidsI op = -1 := by unfold kidsI; rw [if_neg (by omega), if_neg (by omega), if_neg (by omega)]
        obtain ⟨cs, rfl⟩ := hv
        all_goals
          refine fn_val follows noNum isWordF_sound Tryd.func39 rfl ?_
          repeat' ((conv => whnf); first | (refine exI (q _ _) ?_) | (first | refine stp ?_ | with_reducible refine condB (fun h => ?_) (fun h => ?_)))
        all_goals (show AV.bool _ = AV.bool _; congr 1; unfold ownF; rw [hk])
        all_goals (first | rfl | (symm; simp; intros; omega))
      · clear e1
        have hop : op = 1 ∨ op = 2 ∨ op = 3 ∨ op = 4 ∨ op = 5 ∨ op = 6 ∨ op = 7 ∨ op = 8 ∨ op = 9 ∨ op = 10 ∨ op = 11 ∨ op = 12 ∨ op = 13 ∨ op = 14 ∨ op = 15 ∨ op = 16 := by omega
        clear h1 h2
        rcases hop with rfl | rfl | rfl | rfl | rfl | rfl | rfl | rfl | rfl | rfl | rfl | rfl | rfl | rfl | rfl | rfl
        all_goals (obtain ⟨cs, rfl⟩ := hv)
        all_goals (refine fn_val follows noNum isWordF_sound Tryd.func39 rfl ?_)
        all_goals (repeat' ((conv => whnf); first | (refine exI (q _ _) ?_) | (first | refine stp ?_ | with_reducible refine condB (fun h => ?_) (fun h => ?_))))
        all_goals (first | rfl | (show AV.bool _ = AV.bool _; clear q hb hok hn1 hn2; simp_all [ownF, kidsI]; done) | (show AV.bool _ = AV.bool _; clear q hb hok hn1 hn2; simp_all [ownF, kidsI]; omega) | skip)
        all_goals (clear q hb hok hn1 hn2)
        all_goals (show AV.bool _ = AV.bool _; rw [AV.bool.injEq, Bool.eq_iff_iff])
        all_goals (first | (simp_all [ownF, kidsI, wordB_nil]; done) | (simp_all [ownF, kidsI, wordB_nil]; omega))
  obtain ⟨op, num, name, kids⟩ := e
  simp only [Ex.cells]; exact key op num name _ kids.length ⟨_, rfl⟩ hn1
end Go.Proofs.YtajhailaofchlaaDoor.lex
end

/-
  Statements: may one be, what is in it left aside (the program's answer).
-/
section
set_option linter.unusedVariables false
set_option linter.unusedSimpArgs false
namespace Go.Proofs.YtajhailaofchlaaDoor.lex
open Go.Abs Go.RowKit
set_option maxRecDepth 100000
set_option maxHeartbeats 8000000

def isW (m : Bool) (s : List UInt8) : Bool := if m then wordB s else s == []
def hasN (k : Int) : Bool := k == 1 || (k == 2 || (k == 4 || (k == 5 || k == 6)))
def hasL (k : Int) : Bool := decide (2 ≤ k ∧ k ≤ 6)
def hasO (k : Int) : Bool := decide (2 ≤ k ∧ k ≤ 7)
def hasX (k : Int) : Nat := if k = 2 ∨ k = 7 then 0 else if k = 4 then 2 else 1
def hasT (k : Int) : Bool := k == 10 || k == 11
def hasE (k : Int) : Bool := k == 10
def ownSF (kind : Int) (name loc : List UInt8) (order : Int) (nx nt ne : Nat) : Bool :=
  decide (1 ≤ kind ∧ kind ≤ 11) && (isW (hasN kind) name && (isW (hasL kind) loc && ((if hasO kind then decide (1 ≤ order ∧ order ≤ 6) else order == 0) && (decide (nx = hasX kind) && ((hasT kind || decide (nt = 0)) && (hasE kind || decide (ne = 0)))))))
def ownS (x : St) : Bool := ownSF x.kind x.name x.loc x.order x.exprs.length x.thn.length x.els.length
theorem rightS_key (kind : Int) (name loc : List UInt8) (order : Int) (nx nt ne : Nat) (cx ct ce rest : List AV) (d : Int) (hn : name.length ≤ 9223372036854775807) (hl : loc.length ≤ 9223372036854775807) :
    ValOK Tryd.prog runLives.gl 40 [.rp (.int .i64 kind :: .str name :: .str loc :: .int .i64 order :: .rs nx 4 cx :: .rs nt 7 ct :: .rs ne 7 ce :: rest), .int .i64 d] (.bool (ownSF kind name loc order nx nt ne)) := by
  have hb : hasBody Tryd.prog 37 = true := by kernel_rfl
  have q1 : ∀ (m : Bool) (H : AHeap), acall Tryd.prog (orcZ isWordF) H 37 [.str name, .bool m] = some (.bool (isW m name), H) := fun m H => callZ hb rfl (by simp only [isWordF, isW]; rw [if_pos hn])
  have q2 : ∀ (m : Bool) (H : AHeap), acall Tryd.prog (orcZ isWordF) H 37 [.str loc, .bool m] = some (.bool (isW m loc), H) := fun m H => callZ hb rfl (by simp only [isWordF, isW]; rw [if_pos hl])
  by_cases h1 : kind < 1
  · have e1 : decide (kind < 1) = true := by simpa using h1
    refine fn_val follows noNum isWordF_sound Tryd.func40 rfl ?_
    repeat' ((conv => whnf); (first | refine stp ?_ | with_reducible refine condB (fun h => ?_) (fun h => ?_)))
    all_goals (show AV.bool _ = AV.bool _; congr 1; unfold ownSF; symm; rw [Bool.and_eq_false_iff]; left; simpa using fun h => absurd h (by omega))
  · have e1 : decide (kind < 1) = false := by simpa using h1
    by_cases h2 : 11 < kind
    · have e2 : decide (kind > 11) = true := by simpa using h2
      refine fn_val follows noNum isWordF_sound Tryd.func40 rfl ?_
      repeat' ((conv => whnf); (first | refine stp ?_ | with_reducible refine condB (fun h => ?_) (fun h => ?_)))
      all_goals (show AV.bool _ = AV.bool _; congr 1; unfold ownSF; symm; rw [Bool.and_eq_false_iff]; left; simpa using fun _ => h2)
    · clear e1
      have hop : kind = 1 ∨ kind = 2 ∨ kind = 3 ∨ kind = 4 ∨ kind = 5 ∨ kind = 6 ∨ kind = 7 ∨ kind = 8 ∨ kind = 9 ∨ kind = 10 ∨ kind = 11 := by omega
      clear h1 h2
      have b1 : ∀ m, isW m name = true ∨ isW m name = false := fun m => by cases isW m name <;> simp
      have b2 : ∀ m, isW m loc = true ∨ isW m loc = false := fun m => by cases isW m loc <;> simp
      rcases hop with rfl | rfl | rfl | rfl | rfl | rfl | rfl | rfl | rfl | rfl | rfl
      all_goals (refine fn_val follows noNum isWordF_sound Tryd.func40 rfl ?_)
      all_goals (repeat' ((conv => whnf); first | (refine exI (q1 _ _) ?_) | (refine exI (q2 _ _) ?_) | (first | refine stp ?_ | with_reducible refine condB (fun h => ?_) (fun h => ?_))))
      all_goals (clear q1 q2 hb b1 b2)
      all_goals (first | rfl | (show AV.bool _ = AV.bool _; rw [AV.bool.injEq, Bool.eq_iff_iff]; simp_all [ownSF, hasN, hasL, hasO, hasX, hasT, hasE]; done) | (show AV.bool _ = AV.bool _; rw [AV.bool.injEq, Bool.eq_iff_iff]; simp_all [ownSF, hasN, hasL, hasO, hasX, hasT, hasE]; omega) | skip)
      all_goals trace_state
end Go.Proofs.YtajhailaofchlaaDoor.lex
end

/-
  Statements and expressions: may they be, what is in them too (the program's answer); CheckExpr.
-/
section
set_option linter.unusedVariables false
set_option linter.unusedSimpArgs false
namespace Go.Proofs.YtajhailaofchlaaDoor.lex
open Go.Abs Go.RowKit
set_option maxRecDepth 100000
set_option maxHeartbeats 4000000

theorem noI_of {sn : Snap} {ι : IMap} {W : World} (h : R sn ι [] W) : ι = noI := by
  funext b
  cases hb : ι b with
  | none => rfl
  | some p => have := (h.dom b).2 ⟨p, hb⟩; simp at this
theorem mem_of_val {P : Program} {gl : Glob} {f : Nat} {args : List AV} {r : AV} (h : ValOK P gl f args r) (hp : plain r = true) : MemOK P gl f args [] r [] := by
  intro sn ι W cargs hg hR ha
  have := noI_of hR; subst this
  refine (h sn W cargs hg hR ha).mono ?_
  rintro e W' ⟨v, rfl, hx, hv⟩
  exact ⟨v, sn, noI, rfl, plain_VR hp hv, Stp.ext hR hx⟩
theorem val_of_mem {P : Program} {gl : Glob} {f : Nat} {args : List AV} {r : AV} (h : MemOK P gl f args [] r []) (hp : plain r = true) : ValOK P gl f args r := by
  intro sn W cargs hg hR ha
  refine (h sn noI W cargs hg hR ha).mono ?_
  rintro e W' ⟨v, sn', ι', rfl, hv, hs⟩
  exact ⟨v, rfl, ⟨fun c hc => hs.frame c hc fun b o p hb => by simp at hb, hs.size, hs.os, hs.tape, hs.output⟩, plain_VR hp hv⟩

/-! what rightExpr and rightStmt say of all -/
def rE (e : Ex) (_ : Int) (s : Unit) : Bool × Unit := (ownE e, s)
def rS (x : St) (_ : Int) (s : Unit) : Bool × Unit := (ownS x, s)
mutual
def rightS : St → Bool
  | .mk k n l o x t e => ownS (.mk k n l o x t e) && (rightL x && (rightSL t && rightSL e))
def rightSL : List St → Bool
  | [] => true
  | x :: l => rightS x && rightSL l
end
theorem rightS_eq : ∀ x : St, rightS x = (ownS x && (rightL x.exprs && (rightSL x.thn && rightSL x.els)))
  | .mk _ _ _ _ _ _ _ => by simp only [rightS, St.exprs, St.thn, St.els]
mutual
theorem goE_r : ∀ (e : Ex) (d : Int) (s : Unit), goE rE e d s = (rightE e, ())
  | .mk o n s k, d, t => by
    have := goL_r k (d + 1) ()
    simp only [goE, rE, ownE, Ex.op, Ex.num, Ex.name, Ex.kids, rightE, this]
    cases ownF o n s k.length <;> rfl
theorem goL_r : ∀ (l : List Ex) (d : Int) (s : Unit), goL rE l d s = (rightL l, ())
  | [], d, s => by simp only [goL, rightL]
  | e :: l, d, s => by
    simp only [goL, goE_r e d s, goL_r l d (), rightL]
    cases rightE e <;> rfl
end
mutual
theorem goS_r : ∀ (x : St) (d : Int) (s : Unit), goS rE rS x d s = (rightS x, ())
  | .mk k n l o x t e, d, s => by
    simp only [goS, rS, rightS, goL_r x (d + 1) (), goSL_r t (d + 1) (), goSL_r e (d + 1) (), thenB]
    cases ownS (.mk k n l o x t e) <;> cases rightL x <;> cases rightSL t <;> rfl
theorem goSL_r : ∀ (l : List St) (d : Int) (s : Unit), goSL rE rS l d s = (rightSL l, ())
  | [], d, s => by simp only [goSL, rightSL]
  | x :: l, d, s => by
    simp only [goSL, goS_r x d s, goSL_r l d (), rightSL, thenB]
    cases rightS x <;> rfl
end
/-- The walk with both. -/
def rV : TvS runLives.gl where
  σ := Unit
  Mem := fun _ => []
  k := 0
  len := fun _ => rfl
  same := fun _ => ⟨trivial, rfl, rfl⟩
  evo := fun _ _ => rfl
  inj := fun _ _ _ => rfl
  I := fun d s m => 0 ≤ d ∧ d + m ≤ 1152921504606846976
  up := fun d s m h0 h => ⟨h0, by have := h.2; omega⟩
  less := fun d s m h => ⟨h.1, by have := h.2; omega⟩
  bnd := fun d s m h => ⟨h.1, by have := h.2; omega⟩
  gE := 39
  cE := []
  hE := rE
  bodyE := by kernel_rfl
  wkE := trivial
  okE := fun e rest d s m ho _ => mem_of_val (rightX_ok e rest d ho) rfl
  downE := fun e d s m h _ => ⟨by have := h.1; omega, by have := h.2; omega⟩
  gS := 40
  cS := []
  hS := rS
  bodyS := by kernel_rfl
  wkS := trivial
  okS := fun x rest d s m ho _ => by
    refine mem_of_val ?_ rfl
    obtain ⟨k1, k2, _⟩ := okS_parts ho
    obtain ⟨k, n, l, o, x, t, e⟩ := x
    simp only [St.cells, exA]
    exact rightS_key k n l o x.length t.length e.length _ _ _ rest d k1 k2
  downS := fun e d s m h _ => ⟨by have := h.1; omega, by have := h.2; omega⟩
theorem stmts_r (l : List St) (d : Int) (hok : okSL l) (hl : l.length ≤ 9223372036854775807) (h0 : 0 ≤ d) (h1 : d + sizeSL l ≤ 1152921504606846976) : ValOK Tryd.prog runLives.gl 38 [stA l, .int .i64 d, .func (.func 39) [] [], .func (.func 40) [] []] (.bool (rightSL l)) := by
  have := TvS.stmts rV (sizeSL l) l d () 0 (Nat.le_refl _) hok hl ⟨h0, h1⟩
  have e : (goSL rV.hE rV.hS l d ()).1 = rightSL l := by
    have := goSL_r l d ()
    show (goSL rE rS l d ()).1 = _
    rw [this]
  rw [e] at this
  exact val_of_mem this rfl
theorem exprs_r (l : List Ex) (d : Int) (hok : okL l) (hl : l.length ≤ 9223372036854775807) (h0 : 0 ≤ d) (h1 : d + sizeL l ≤ 1152921504606846976) : ValOK Tryd.prog runLives.gl 41 [exA l, .int .i64 d, .func (.func 39) [] []] (.bool (rightL l)) := by
  have := TvE.exprs rV.toTvE follows (sizeL l) l d () 0 (Nat.le_refl _) hok hl ⟨h0, h1⟩
  have e : (goL rV.hE l d ()).1 = rightL l := by
    have := goL_r l d ()
    show (goL rE l d ()).1 = _
    rw [this]
  rw [e] at this
  exact val_of_mem this rfl

/-! counting, with limits -/
def cE (_ : Ex) (d : Int) (n : Nat) : Bool × Nat := (decide (((n + 1 : Nat) : Int) ≤ 2000) && decide (d ≤ 32), n + 1)
def cS (_ : St) (d : Int) (n : Nat) : Bool × Nat := (decide (((n + 1 : Nat) : Int) ≤ 2000) && decide (d ≤ 32), n + 1)
/-- A count: how many more, how deep at most. -/
def Cnt (r : Bool × Nat) (n a : Nat) (D : Int) : Prop := (r.1 = true ↔ n + a ≤ 2000 ∧ D ≤ 33) ∧ (r.1 = true → r.2 = n + a)
theorem cnt_then {r : Bool × Nat} {f : Nat → Bool × Nat} {n a b : Nat} {D1 D2 : Int} (h1 : Cnt r n a D1) (h2 : n + a ≤ 2000 → D1 ≤ 33 → Cnt (f (n + a)) (n + a) b D2) : Cnt (thenB r f) n (a + b) (max D1 D2) := by
  obtain ⟨g1, g2⟩ := h1
  unfold thenB
  by_cases h : r.1 = true
  · rw [if_pos h, g2 h]
    have h3 := g1.1 h
    obtain ⟨k1, k2⟩ := h2 h3.1 h3.2
    refine ⟨?_, fun h4 => by rw [k2 h4]; omega⟩
    rw [k1]
    constructor <;> (intro h; omega)
  · rw [if_neg h]
    refine ⟨⟨fun h => (by cases h), fun h3 => absurd (g1.2 (by omega)) h⟩, fun h => (by cases h)⟩
theorem cnt_one (d : Int) (n : Nat) : Cnt (decide (((n + 1 : Nat) : Int) ≤ 2000) && decide (d ≤ 32), n + 1) n 1 (d + 1) := by
  refine ⟨?_, fun _ => rfl⟩
  simp only [Bool.and_eq_true, decide_eq_true_eq]
  constructor <;> (intro h; omega)
theorem Cnt.to {r : Bool × Nat} {n a b : Nat} {D E : Int} (h : Cnt r n a D) (e1 : a = b) (e2 : D = E) : Cnt r n b E := by subst e1; subst e2; exact h
mutual
theorem goE_c : ∀ (e : Ex) (d : Int) (n : Nat), Cnt (goE cE e d n) n (sizeE e) (d + deepE e)
  | .mk o num s k, d, n => by
    have : goE cE (.mk o num s k) d n = thenB (cE (.mk o num s k) d n) fun n => goL cE k (d + 1) n := by simp only [goE, thenB]
    rw [this]
    exact (cnt_then (cnt_one d n) fun h1 h2 => goL_c k (d + 1) (n + 1) h1 h2).to (by simp only [sizeE]) (by simp only [deepE]; omega)
theorem goL_c : ∀ (l : List Ex) (d : Int) (n : Nat), n ≤ 2000 → d ≤ 33 → Cnt (goL cE l d n) n (sizeL l) (d + deepL l)
  | [], d, n, h1, h2 => by simp only [goL, sizeL, deepL]; exact ⟨⟨fun _ => by omega, fun _ => rfl⟩, fun _ => rfl⟩
  | e :: l, d, n, h1, h2 => by
    have : goL cE (e :: l) d n = thenB (goE cE e d n) fun n => goL cE l d n := by simp only [goL, thenB]
    rw [this]
    exact (cnt_then (goE_c e d n) fun h1 _ => goL_c l d _ h1 h2).to (by simp only [sizeL]) (by simp only [deepL]; omega)
end
mutual
theorem goS_c : ∀ (x : St) (d : Int) (n : Nat), Cnt (goS cE cS x d n) n (sizeS x) (d + deepS x)
  | .mk k nm lc o x t e, d, n => by
    simp only [goS]
    refine Cnt.to (cnt_then (cnt_one d n) fun h1 h2 => cnt_then (goL_c x (d + 1) (n + 1) h1 h2) fun h1 _ => cnt_then (goSL_c t (d + 1) _ h1 h2) fun h1 _ => goSL_c e (d + 1) _ h1 h2) ?_ ?_
    · simp only [sizeS]; omega
    · simp only [deepS]; omega
theorem goSL_c : ∀ (l : List St) (d : Int) (n : Nat), n ≤ 2000 → d ≤ 33 → Cnt (goSL cE cS l d n) n (sizeSL l) (d + deepSL l)
  | [], d, n, h1, h2 => by simp only [goSL, sizeSL, deepSL]; exact ⟨⟨fun _ => by omega, fun _ => rfl⟩, fun _ => rfl⟩
  | e :: l, d, n, h1, h2 => by
    simp only [goSL]
    exact (cnt_then (goS_c e d n) fun h1 _ => goSL_c l d _ h1 h2).to (by simp only [sizeSL]) (by simp only [deepSL]; omega)
end
end Go.Proofs.YtajhailaofchlaaDoor.lex
end

/-
  How many statements are of a kind: the program's answer.
-/
section
set_option linter.unusedVariables false
set_option linter.unusedSimpArgs false
namespace Go.Proofs.YtajhailaofchlaaDoor.lex
open Go.Abs Go.RowKit
set_option maxRecDepth 100000
set_option maxHeartbeats 4000000
def ksC (n : List Int) : List AV := n.map (AV.int .i64)
theorem ksC_flat : ∀ n, (ksC n).all flat1 = true
  | [] => rfl
  | c :: n => by simp only [ksC, List.map_cons, List.all_cons]; exact ksC_flat n
theorem ksC_refs (n : List Int) : refsL (ksC n) [] = [] := refsL_flat (flat12 (ksC_flat n))
def ksH (n : List Int) : AHeap := [⟨true, 0, 0, .cells (ksC n) 3⟩, ⟨true, 1, 0, .cells [.slice 0 0 11 11 1] 49⟩]
theorem ksC_inj : ∀ {a b : List Int}, ksC a = ksC b → a = b
  | [], [], _ => rfl
  | [], _ :: _, h => by simp [ksC] at h
  | _ :: _, [], h => by simp [ksC] at h
  | x :: a, y :: b, h => by
    simp only [ksC, List.map_cons, List.cons.injEq, AV.int.injEq, true_and] at h
    rw [h.1, ksC_inj (a := a) (b := b) h.2]
theorem ksH_inj {a b : List Int} (h : ksH a = ksH b) : a = b := by
  simp only [ksH, List.cons.injEq, AObj.mk.injEq, ABody.cells.injEq, and_true, true_and] at h
  exact ksC_inj h
def bump (k : Int) (s : List Int) : List Int := cond (decide (k ≥ 1) && decide (k ≤ 11)) (s.set (k - 1).toNat (s.getD (k - 1).toNat 0 + 1)) s
theorem ksC_len (s : List Int) : (ksC s).length = s.length := by simp [ksC]
theorem getD_at {s : List Int} {j : Nat} (h : j < s.length) : s.getD j 0 = s[j] := by rw [List.getD_eq_getElem?_getD, List.getElem?_eq_getElem h]; rfl
theorem ksC_at (s : List Int) (j : Nat) (h : j < s.length) : tk 1 ((ksC s).drop (0 + j * 1)) = some [.int .i64 (s.getD j 0)] := by
  have := tk1_map (AV.int .i64) s j h (off := 0 + j * 1) (by omega)
  rw [getD_at h]; exact this
theorem spl1 : ∀ (cs : List AV) (k : Nat) (v : AV), k < cs.length → spl cs k [v] = some (cs.set k v)
  | c :: cs, 0, v, h => by cases cs <;> rfl
  | c :: cs, k + 1, v, h => by simp only [spl, spl1 cs k v (by simpa using h)]; rfl
theorem ksC_set (s : List Int) (j : Nat) (v : Int) (h : j < s.length) : spl (ksC s) (0 + j * 1) [.int .i64 v] = some (ksC (s.set j v)) := by
  rw [show 0 + j * 1 = j by omega, spl1 _ _ _ (by rw [ksC_len]; exact h)]
  unfold ksC; rw [List.map_set]
def ksI (d : Int) (s : List Int) (m : Nat) : Prop := 0 ≤ d ∧ d + (m : Int) ≤ 576460752303423488 ∧ s.length = 11 ∧ ∀ c ∈ s, 0 ≤ c ∧ c + (m : Int) ≤ 576460752303423488
theorem bump_len (k : Int) (s : List Int) : (bump k s).length = s.length := by
  unfold bump; cases (decide (k ≥ 1) && decide (k ≤ 11)) <;> simp
theorem bump_mem {k : Int} {s : List Int} {c : Int} (h : c ∈ bump k s) : c ∈ s ∨ ∃ c0 ∈ s, c = c0 + 1 := by
  unfold bump at h
  cases hb : (decide (k ≥ 1) && decide (k ≤ 11)) with
  | false => rw [hb] at h; exact .inl h
  | true =>
    rw [hb] at h
    simp only [cond_true] at h
    by_cases hj : (k - 1).toNat < s.length
    · rcases List.mem_or_eq_of_mem_set h with h | rfl
      · exact .inl h
      · exact .inr ⟨_, by rw [getD_at hj]; exact List.getElem_mem hj, rfl⟩
    · rw [List.set_eq_of_length_le (by omega)] at h; exact .inl h
theorem ksI_down {d : Int} {s : List Int} {m : Nat} {k : Int} (h : ksI d s (m + 1)) : ksI (d + 1) (bump k s) m := by
  obtain ⟨h1, h2, h3, h4⟩ := h
  refine ⟨by omega, by omega, by rw [bump_len]; exact h3, fun c hc => ?_⟩
  rcases bump_mem hc with hc | ⟨c0, hc0, rfl⟩
  · have := h4 c hc; omega
  · have := h4 c0 hc0; omega
theorem ksI_less {d : Int} {s : List Int} {m : Nat} (h : ksI d s (m + 1)) : ksI d s m := by
  obtain ⟨h1, h2, h3, h4⟩ := h
  exact ⟨h1, by omega, h3, fun c hc => by have := h4 c hc; omega⟩
theorem ksI_step {d : Int} {s : List Int} {m : Nat} (h : ksI d s (m + 1)) : ksI (d + 1) s m := by
  obtain ⟨h1, h2, h3, h4⟩ := h
  exact ⟨by omega, by omega, h3, fun c hc => by have := h4 c hc; omega⟩
theorem ksI_up {d : Int} {s : List Int} {m : Nat} (h0 : 0 ≤ d) (h : ksI (d + 1) s m) : ksI d s m := by
  obtain ⟨h1, h2, h3, h4⟩ := h
  exact ⟨h0, by omega, h3, h4⟩
theorem ksI_bnd {d : Int} {s : List Int} {m : Nat} (h : ksI d s m) : 0 ≤ d ∧ d ≤ 1152921504606846976 := by
  obtain ⟨h1, h2, h3, h4⟩ := h
  omega
theorem ks_evo (s s' : List Int) : evoB 2 (ksH s) (ksH s') = true := by
  have h : refsB (.cells (ksC s') 3) [] = [] := ksC_refs s'
  simp only [ksH, evoB, h]; rfl
theorem ks1_ok (cs : List AV) (d : Int) (s : List Int) : MemOK Tryd.prog runLives.gl 68 [.rp cs, .int .i64 d] (ksH s) (.bool true) (ksH s) := by
  refine fn_mem (k := 2) follows noNum (orcN_sound follows noNum isWordF_sound 3) rfl Tryd.func68 rfl (wcall_ok (isC := fun _ => false) 3) ?_
  repeat' ((conv => whnf); first | refine stp ?_ | with_reducible refine condB (fun h => ?_) (fun h => ?_))
  all_goals (conv => whnf)
  all_goals (exact ⟨rfl, by rw [ks_evo]; rfl⟩)
theorem ks2_ok (x : St) (rest : List AV) (d : Int) (s : List Int) (m : Nat) (h : ksI d s (m + 1)) : MemOK Tryd.prog runLives.gl 69 [.rp (x.cells ++ rest), .int .i64 d, .ptr 1 0] (ksH s) (.bool true) (ksH (bump x.kind s)) := by
  obtain ⟨h1, h2, h3, h4⟩ := h
  have hx0 : tk 1 ((x.cells ++ rest).drop 0) = some [.int .i64 x.kind] := cell_k x rest
  refine fn_mem (k := 2) follows noNum (orcN_sound follows noNum isWordF_sound 3) rfl Tryd.func69 rfl (wcall_ok (isC := fun _ => false) 3) ?_
  have he := ks_evo s
  unfold bump
  generalize x.kind = k at *
  generalize x.cells ++ rest = cs at *
  by_cases hk : 1 ≤ k ∧ k ≤ 11
  · have e1 : decide (k ≥ 1) = true := by simpa using hk.1
    have e2 : decide (k ≤ 11) = true := by simpa using hk.2
    obtain ⟨j, hj⟩ : ∃ j : Nat, k - 1 = (j : Int) := ⟨(k - 1).toNat, by omega⟩
    have hjl : j < s.length := by omega
    have hjn : (k - 1).toNat = j := by omega
    have hat := ksC_at s j hjl
    have hset := ksC_set s j (s.getD j 0 + 1) hjl
    have hv := h4 s[j] (List.getElem_mem hjl)
    rw [← getD_at hjl] at hv
    have he := ks_evo s (s.set j (s.getD j 0 + 1))
    rw [e1, e2, Bool.and_true, cond_true, hjn]
    generalize s.getD j 0 = v at *
    have w1 : IntKind.i64.wrap (k - 1) = (j : Int) := by rw [hj]; exact wrapB (by omega) (by omega)
    have w2 : IntKind.i64.wrap (v + 1) = v + 1 := wrapB (by omega) (by omega)
    repeat' ((conv => whnf); first | (with_reducible refine exW w1 ?_) | (with_reducible refine exW w2 ?_) | (with_reducible refine ixJ j rfl ?_ ?_; (focus (omega))) | (refine exI hx0 ?_) | (refine exI hat ?_) | (refine exI hset ?_) | (first | refine stp ?_ | with_reducible refine condB (fun h => ?_) (fun h => ?_)))
    all_goals (conv => whnf)
    all_goals (exact ⟨rfl, by rw [he]; rfl⟩)
  · have e1 : (decide (k ≥ 1) && decide (k ≤ 11)) = false := by
      simp only [Bool.and_eq_false_iff, decide_eq_false_iff_not]; omega
    rw [e1, cond_false]
    by_cases hk1 : 1 ≤ k
    · have e2 : decide (k ≥ 1) = true := by simpa using hk1
      have e3 : decide (k ≤ 11) = false := by simp only [decide_eq_false_iff_not]; omega
      repeat' ((conv => whnf); first | (refine exI hx0 ?_) | (first | refine stp ?_ | with_reducible refine condB (fun h => ?_) (fun h => ?_)))
      all_goals (conv => whnf)
      all_goals (exact ⟨rfl, by rw [he]; rfl⟩)
    · have e2 : decide (k ≥ 1) = false := by simp only [decide_eq_false_iff_not]; omega
      repeat' ((conv => whnf); first | (refine exI hx0 ?_) | (first | refine stp ?_ | with_reducible refine condB (fun h => ?_) (fun h => ?_)))
      all_goals (conv => whnf)
      all_goals (exact ⟨rfl, by rw [he]; rfl⟩)
def kdE (_ : Ex) (_ : Int) (s : List Int) : Bool × List Int := (true, s)
def kdS (x : St) (_ : Int) (s : List Int) : Bool × List Int := (true, bump x.kind s)
def ksV : TvS runLives.gl where
  σ := List Int
  Mem := ksH
  k := 2
  len := fun _ => rfl
  same := fun s => ⟨⟨⟨rfl, rfl, rfl, rfl, BodyGe.pre (rest := []) (by simp) (ksC_refs s)⟩, ⟨rfl, rfl, rfl, rfl, BodyGe.cellsL ⟨Wk.slice rfl rfl rfl (Nat.le_refl _) (Nat.le_refl _) rfl, trivial⟩⟩, trivial⟩, rfl, rfl⟩
  evo := fun s s' => ks_evo s s'
  inj := fun _ _ h => ksH_inj h
  I := ksI
  up := fun d s m h0 h => ksI_up h0 h
  less := fun d s m h => ksI_less h
  bnd := fun d s m h => ksI_bnd h
  gE := 68
  cE := []
  hE := kdE
  bodyE := by kernel_rfl
  wkE := trivial
  okE := fun e rest d s m _ h => ks1_ok (e.cells ++ rest) d s
  downE := fun e d s m h _ => ksI_step h
  gS := 69
  cS := [.ptr 1 0]
  hS := kdS
  bodyS := by kernel_rfl
  wkS := ⟨Wk.ptr rfl rfl, trivial⟩
  okS := fun x rest d s m _ h => ks2_ok x rest d s m h
  downS := fun e d s m h _ => ksI_down h
mutual
theorem goE_kd : ∀ (e : Ex) (d : Int) (s : List Int), goE kdE e d s = (true, s)
  | .mk o n c k, d, s => by simp only [goE, kdE, if_true, goL_kd k (d + 1) s]
theorem goL_kd : ∀ (l : List Ex) (d : Int) (s : List Int), goL kdE l d s = (true, s)
  | [], d, s => by simp only [goL]
  | e :: l, d, s => by simp only [goL, goE_kd e d s, if_true, goL_kd l d s]
end
theorem bump_at (k : Int) (s : List Int) (hs : s.length = 11) (j : Nat) : (bump k s)[j]? = (s[j]?).map fun c => c + ((cond (k == ((j + 1 : Nat) : Int)) 1 0 : Nat) : Int) := by
  by_cases hj : j < s.length
  · by_cases hk : k = ((j + 1 : Nat) : Int)
    · have e1 : (k == ((j + 1 : Nat) : Int)) = true := by simpa using hk
      have e2 : (decide (k ≥ 1) && decide (k ≤ 11)) = true := by simp only [Bool.and_eq_true, decide_eq_true_eq]; omega
      have e3 : (k - 1).toNat = j := by omega
      unfold bump
      rw [e1, e2, e3, cond_true, cond_true, List.getElem?_set_self hj, getD_at hj, List.getElem?_eq_getElem hj]
      rfl
    · have e1 : (k == ((j + 1 : Nat) : Int)) = false := by simpa using hk
      rw [e1, cond_false]
      have e4 : (bump k s)[j]? = s[j]? := by
        unfold bump
        cases hb : (decide (k ≥ 1) && decide (k ≤ 11)) with
        | false => rfl
        | true =>
          simp only [Bool.and_eq_true, decide_eq_true_eq] at hb
          rw [cond_true, List.getElem?_set_ne (by omega)]
      rw [e4]; cases s[j]? <;> simp
  · rw [List.getElem?_eq_none (by rw [bump_len]; omega), List.getElem?_eq_none (by omega)]; rfl
mutual
theorem goS_kd : ∀ (x : St) (d : Int) (s : List Int), s.length = 11 → (goS kdE kdS x d s).1 = true ∧ (goS kdE kdS x d s).2.length = 11 ∧ ∀ j, (goS kdE kdS x d s).2[j]? = (s[j]?).map fun c => c + ((cntS ((j + 1 : Nat) : Int) x : Nat) : Int)
  | .mk k n lc o x t e, d, s, hs => by
    have h0 : (bump k s).length = 11 := by rw [bump_len]; exact hs
    obtain ⟨a1, a2, a3⟩ := goSL_kd t (d + 1) (bump k s) h0
    obtain ⟨b1, b2, b3⟩ := goSL_kd e (d + 1) _ a2
    have hg : goS kdE kdS (.mk k n lc o x t e) d s = goSL kdE kdS e (d + 1) (goSL kdE kdS t (d + 1) (bump k s)).2 := by
      simp only [goS]
      rw [show kdS (.mk k n lc o x t e) d s = (true, bump k s) from rfl]
      simp only [thenB, if_true, goL_kd, a1]
    rw [hg]
    refine ⟨b1, b2, fun j => ?_⟩
    rw [b3, a3, bump_at k s hs]
    simp only [cntS, Option.map_map]
    congr 1
    funext c
    simp only [Function.comp]
    omega
theorem goSL_kd : ∀ (l : List St) (d : Int) (s : List Int), s.length = 11 → (goSL kdE kdS l d s).1 = true ∧ (goSL kdE kdS l d s).2.length = 11 ∧ ∀ j, (goSL kdE kdS l d s).2[j]? = (s[j]?).map fun c => c + ((cntSL ((j + 1 : Nat) : Int) l : Nat) : Int)
  | [], d, s, hs => by
    refine ⟨by simp only [goSL], by simp only [goSL]; exact hs, fun j => ?_⟩
    simp only [goSL, cntSL]; cases s[j]? <;> simp
  | x :: l, d, s, hs => by
    obtain ⟨a1, a2, a3⟩ := goS_kd x d s hs
    obtain ⟨b1, b2, b3⟩ := goSL_kd l d _ a2
    have hg : goSL kdE kdS (x :: l) d s = goSL kdE kdS l d (goS kdE kdS x d s).2 := by
      simp only [goSL, thenB, a1, if_true]
    rw [hg]
    refine ⟨b1, b2, fun j => ?_⟩
    rw [b3, a3]
    simp only [cntSL, Option.map_map]
    congr 1
    funext c
    simp only [Function.comp]
    omega
end
end Go.Proofs.YtajhailaofchlaaDoor.lex
end

/-
  Registers, the program's side: a map of names, filled by closures.
-/
section
set_option linter.unusedVariables false
set_option linter.unusedSimpArgs false
namespace Go.Proofs.YtajhailaofchlaaDoor.lex
open Go.Abs Go.RowKit
set_option maxRecDepth 100000
set_option maxHeartbeats 4000000
/-- The map's entries, in the order in which they came. -/
def rgE : Nat → List (List UInt8) → List (AV × AV × Nat)
  | _, [] => []
  | i, s :: l => (.str s, .agg [], i) :: rgE (i + 1) l
def rgH (n : List (List UInt8)) : AHeap := [⟨true, 0, 0, .map (rgE 0 n) n.length⟩, ⟨true, 1, 0, .cells [.map 0] 78⟩, ⟨true, 2, 0, .cells [.func (.func 61) [] [.ptr 1 0]] 68⟩]
theorem rgE_inj : ∀ {a b : List (List UInt8)} {i : Nat}, rgE i a = rgE i b → a = b
  | [], [], _, _ => rfl
  | [], _ :: _, _, h => by simp [rgE] at h
  | _ :: _, [], _, h => by simp [rgE] at h
  | x :: a, y :: b, i, h => by
    simp only [rgE, List.cons.injEq, Prod.mk.injEq, AV.str.injEq, and_true] at h
    rw [h.1, rgE_inj h.2]
theorem rgH_inj {a b : List (List UInt8)} (h : rgH a = rgH b) : a = b := by
  simp only [rgH, List.cons.injEq, AObj.mk.injEq, ABody.map.injEq, and_true, true_and] at h
  exact rgE_inj h.1
theorem rgE_app (s : List UInt8) : ∀ (a : List (List UInt8)) (i : Nat), rgE i (a ++ [s]) = rgE i a ++ [(.str s, .agg [], i + a.length)]
  | [], i => rfl
  | x :: a, i => by
    simp only [List.cons_append, rgE, rgE_app s a (i + 1), List.length_cons]
    rw [show i + 1 + a.length = i + (a.length + 1) by omega]
theorem rg_find (s : List UInt8) : ∀ (a : List (List UInt8)) (i j : Nat), a.contains s = false → aFind .string (.str s) (rgE i a) j = some none
  | [], i, j, h => rfl
  | x :: a, i, j, h => by
    simp only [List.contains_cons, Bool.or_eq_false_iff] at h
    simp only [rgE, aFind, aSame, h.1]
    exact rg_find s a (i + 1) (j + 1) h.2
theorem rg_found (s : List UInt8) : ∀ (a : List (List UInt8)) (i j : Nat), a.contains s = true → ∃ k v, aFind .string (.str s) (rgE i a) j = some (some (j + k, v)) ∧ mset (.str s) (.agg []) k (rgE i a) = rgE i a
  | [], i, j, h => by simp at h
  | x :: a, i, j, h => by
    simp only [List.contains_cons, Bool.or_eq_true] at h
    cases hx : (s == x) with
    | true =>
      refine ⟨0, .agg [], by simp only [rgE, aFind, aSame, hx]; rfl, ?_⟩
      have : s = x := by simpa using hx
      subst this; rfl
    | false =>
      rw [hx] at h
      obtain ⟨k, v, h1, h2⟩ := rg_found s a (i + 1) (j + 1) (by simpa using h)
      refine ⟨k + 1, v, ?_, ?_⟩
      · simp only [rgE, aFind, aSame, hx]; rw [h1, show j + 1 + k = j + (k + 1) by omega]
      · simp only [rgE, mset, h2]
def rgP (s : List UInt8) (n : List (List UInt8)) : List (List UInt8) := if n.contains s = true then n else n ++ [s]
theorem rg_set (s : List UInt8) (n : List (List UInt8)) : aMapSet Tryd.prog 78 (.map 0) (.str s) (.agg []) (rgH n) = some (rgH (rgP s n)) := by
  have hd : keyDesc Tryd.prog 78 = some (.string, 79) := by kernel_rfl
  have hw : wkil 0 0 (rgH n) = rgH n := wkil_lone (o := ⟨true, 0, 0, .map (rgE 0 n) n.length⟩) rfl rfl
  unfold aMapSet
  simp only [hd]
  have h0 : (rgH n)[0]? = some ⟨true, 0, 0, .map (rgE 0 n) n.length⟩ := rfl
  simp only [h0, hw]
  cases h : n.contains s with
  | false =>
    rw [rg_find s n 0 0 h]
    simp only [rgP, h]
    rw [if_neg (by decide)]
    simp only [rgH, rgE_app, List.set_cons_zero, Nat.zero_add, List.length_append, List.length_cons, List.length_nil]
  | true =>
    obtain ⟨k, v, h1, h2⟩ := rg_found s n 0 0 h
    rw [h1]
    simp only [rgP, h, if_true, Nat.zero_add, h2]
    rfl
theorem rgE_refs : ∀ (n : List (List UInt8)) (i : Nat), refsB (.map (rgE i n) i) [] = []
  | [], i => rfl
  | x :: n, i => rgE_refs n (i + 1)
theorem rgE_ge (m : List Nat) : ∀ (n : List (List UInt8)) (i : Nat), EGe m (rgE i n) (rgE i n)
  | [], i => trivial
  | x :: n, i => ⟨Wk.noref rfl, Wk.noref rfl, rfl, rgE_ge m n (i + 1)⟩
theorem rg_evo (s s' : List (List UInt8)) : evoB 3 (rgH s) (rgH s') = true := by
  have h : ∀ c, refsB (.map (rgE 0 s') c) [] = [] := fun c => rgE_refs s' 0
  simp only [rgH, evoB, h]; rfl
def rgI (d : Int) (_ : List (List UInt8)) (m : Nat) : Prop := 0 ≤ d ∧ d + (m : Int) ≤ 576460752303423488
/-- A name is put. -/
def rgN (s : List UInt8) (n : List (List UInt8)) : List (List UInt8) := cond (s == []) n (rgP s n)
theorem cell_op (x : Ex) (rest : List AV) : tk 1 ((x.cells ++ rest).drop 0) = some [.int .i64 x.op] := by
  obtain ⟨o, n, s, k⟩ := x
  rfl
theorem cell_nm (x : Ex) (rest : List AV) : tk 1 ((x.cells ++ rest).drop 2) = some [.str x.name] := by
  obtain ⟨o, n, s, k⟩ := x
  rfl
theorem rg3_ok (x : St) (rest : List AV) (d : Int) (n : List (List UInt8)) : MemOK Tryd.prog runLives.gl 63 [.rp (x.cells ++ rest), .int .i64 d, .ptr 2 0] (rgH n) (.bool true) (rgH (rgN x.name n)) := by
  have hx := cell_n x rest
  refine fn_mem (k := 3) follows noNum (orcN_sound follows noNum isWordF_sound 3) rfl Tryd.func63 rfl (wcall_ok (isC := fun _ => false) 3) ?_
  have he := rg_evo n (rgN x.name n)
  have hset := rg_set x.name n
  unfold rgN at he ⊢
  generalize x.name = s at *
  generalize x.cells ++ rest = cs at *
  cases hs : (s == []) with
  | true =>
    rw [hs, cond_true] at he
    rw [cond_true]
    have e1 : (!(s == [])) = false := by rw [hs]; rfl
    repeat' ((conv => whnf); first | (refine exI hx ?_) | (first | refine stp ?_ | with_reducible refine condB (fun h => ?_) (fun h => ?_)))
    all_goals (conv => whnf)
    all_goals (exact ⟨rfl, by rw [he]; rfl⟩)
  | false =>
    rw [hs, cond_false] at he
    rw [cond_false]
    have e1 : (!(s == [])) = true := by rw [hs]; rfl
    simp only [rgH] at hset he ⊢
    generalize rgE 0 (rgP s n) = es' at *
    generalize (rgP s n).length = c' at *
    repeat' ((conv => whnf); first | (refine exI hx ?_) | (refine exI hset ?_) | (first | refine stp ?_ | with_reducible refine condB (fun h => ?_) (fun h => ?_)))
    all_goals (conv => whnf)
    all_goals (exact ⟨rfl, by rw [he]; rfl⟩)
end Go.Proofs.YtajhailaofchlaaDoor.lex
end

/-
  slices.Sorted(maps.Keys(m)) at this program: the keys, rising. Conditions: the map holds texts as keys, at most maxLen of them. The layings were written by the kit's tools lay-iter and lay-plain; the rest is own work.
-/
section
namespace Go.Proofs.YtajhailaofchlaaDoor.shelf
open Go.Shelf Go.RowKit Go.Maps Go.Sort
def keys65_ren : Go.Shelf.Ren := ⟨fun | 7 => 65 | 10 => 84 | n => n, fun | 23 => 78 | 26 => 9 | 3 => 79 | 28 => 83 | 0 => 0 | 27 => 82 | 33 => 68 | 4 => 4 | n => n, fun | n => n⟩
theorem keys65 : Go.Proofs.SlLaysZ.n7 Tryd.prog keys65_ren := {
  mixed := by kernel_rfl
  f7 := ⟨Tryd.f65.name, by decide, Tryd.func65.trans (congrArg some (by kernel_rfl))⟩
  f10 := ⟨Tryd.f84.name, by decide, Tryd.func84.trans (congrArg some (by kernel_rfl))⟩
  t0 := Tryd.underlying0
  a0 := Tryd.isAgg0
  z0 := Tryd.sizeOf0
  v0 := Tryd.zeroValue0
  t4 := Tryd.underlying4
  a4 := Tryd.isAgg4
  z4 := Tryd.sizeOf4
  v4 := Tryd.zeroValue4
  t23 := Tryd.underlying78
  a23 := Tryd.isAgg78
  z23 := Tryd.sizeOf78
  v23 := Tryd.zeroValue78
  t26 := Tryd.underlying9
  a26 := Tryd.isAgg9
  z26 := Tryd.sizeOf9
  v26 := Tryd.zeroValue9
  t27 := Tryd.underlying82
  a27 := Tryd.isAgg82
  z27 := Tryd.sizeOf82
  v27 := Tryd.zeroValue82
  t28 := Tryd.underlying83
  a28 := Tryd.isAgg83
  z28 := Tryd.sizeOf83
  v28 := Tryd.zeroValue83
  t33 := Tryd.underlying68
  a33 := Tryd.isAgg68
  z33 := Tryd.sizeOf68
  v33 := Tryd.zeroValue68 }
def sorted64_ren : Go.Shelf.Ren := ⟨fun | 6 => 64 | 8 => 82 | 9 => 83 | 11 => 92 | 13 => 94 | 12 => 93 | 23 => 109 | 24 => 110 | 14 => 100 | 15 => 101 | 16 => 102 | 17 => 103 | 18 => 104 | 19 => 105 | 20 => 106 | 21 => 107 | 22 => 108 | 25 => 111 | 26 => 112 | 27 => 113 | 28 => 114 | 29 => 115 | 30 => 116 | 31 => 117 | n => n, fun | 26 => 9 | 28 => 83 | 24 => 46 | 0 => 0 | 3 => 3 | 37 => 114 | 48 => 126 | 50 => 128 | 4 => 4 | 40 => 119 | 39 => 118 | 45 => 86 | 5 => 5 | 9 => 9 | 51 => 129 | 55 => 133 | 57 => 135 | 58 => 136 | 33 => 68 | n => n, fun | n => n⟩
theorem sorted64 : Go.Proofs.SlLaysZ.n6 Tryd.prog sorted64_ren := {
  mixed := by kernel_rfl
  f6 := ⟨Tryd.f64.name, by decide, Tryd.func64.trans (congrArg some (by kernel_rfl))⟩
  f8 := ⟨Tryd.f82.name, by decide, Tryd.func82.trans (congrArg some (by kernel_rfl))⟩
  f11 := ⟨Tryd.f92.name, by decide, Tryd.func92.trans (congrArg some (by kernel_rfl))⟩
  t0 := Tryd.underlying0
  a0 := Tryd.isAgg0
  z0 := Tryd.sizeOf0
  v0 := Tryd.zeroValue0
  t24 := Tryd.underlying46
  a24 := Tryd.isAgg46
  z24 := Tryd.sizeOf46
  v24 := Tryd.zeroValue46
  t26 := Tryd.underlying9
  a26 := Tryd.isAgg9
  z26 := Tryd.sizeOf9
  v26 := Tryd.zeroValue9
  t28 := Tryd.underlying83
  a28 := Tryd.isAgg83
  z28 := Tryd.sizeOf83
  v28 := Tryd.zeroValue83
  i26 := by kernel_rfl }
def sort83_ren : Go.Shelf.Ren := ⟨fun | 6 => 83 | 8 => 94 | 9 => 93 | 19 => 109 | 20 => 110 | 21 => 100 | 22 => 101 | 23 => 102 | 24 => 103 | 25 => 104 | 26 => 105 | 27 => 106 | 28 => 107 | 29 => 108 | 36 => 111 | 31 => 112 | 32 => 113 | 37 => 114 | 38 => 115 | 39 => 116 | 41 => 117 | n => n, fun | 27 => 46 | 29 => 9 | 3 => 3 | 32 => 114 | 26 => 46 | 0 => 0 | 44 => 126 | 46 => 128 | 4 => 4 | 36 => 119 | 35 => 118 | 41 => 86 | 5 => 5 | 9 => 9 | 53 => 129 | 57 => 133 | 63 => 135 | 64 => 136 | n => n, fun | n => n⟩
theorem sort83 : Go.Proofs.SlLaysM.n6 Tryd.prog sort83_ren := {
  mixed := by kernel_rfl
  f6 := ⟨Tryd.f83.name, by decide, Tryd.func83.trans (congrArg some (by kernel_rfl))⟩
  f8 := Tryd.func94.trans (congrArg some (by kernel_rfl))
  f9 := ⟨Tryd.f93.name, by decide, Tryd.func93.trans (congrArg some (by kernel_rfl))⟩
  f19 := Tryd.func109.trans (congrArg some (by kernel_rfl))
  f20 := Tryd.func110.trans (congrArg some (by kernel_rfl))
  f21 := ⟨Tryd.f100.name, by decide, Tryd.func100.trans (congrArg some (by kernel_rfl))⟩
  f22 := ⟨Tryd.f101.name, by decide, Tryd.func101.trans (congrArg some (by kernel_rfl))⟩
  f23 := ⟨Tryd.f102.name, by decide, Tryd.func102.trans (congrArg some (by kernel_rfl))⟩
  f24 := ⟨Tryd.f103.name, by decide, Tryd.func103.trans (congrArg some (by kernel_rfl))⟩
  f25 := ⟨Tryd.f104.name, by decide, Tryd.func104.trans (congrArg some (by kernel_rfl))⟩
  f26 := ⟨Tryd.f105.name, by decide, Tryd.func105.trans (congrArg some (by kernel_rfl))⟩
  f27 := ⟨Tryd.f106.name, by decide, Tryd.func106.trans (congrArg some (by kernel_rfl))⟩
  f28 := ⟨Tryd.f107.name, by decide, Tryd.func107.trans (congrArg some (by kernel_rfl))⟩
  f29 := ⟨Tryd.f108.name, by decide, Tryd.func108.trans (congrArg some (by kernel_rfl))⟩
  f31 := Tryd.func112.trans (congrArg some (by kernel_rfl))
  f32 := Tryd.func113.trans (congrArg some (by kernel_rfl))
  f36 := ⟨Tryd.f111.name, by decide, Tryd.func111.trans (congrArg some (by kernel_rfl))⟩
  f37 := ⟨Tryd.f114.name, by decide, Tryd.func114.trans (congrArg some (by kernel_rfl))⟩
  f38 := ⟨Tryd.f115.name, by decide, Tryd.func115.trans (congrArg some (by kernel_rfl))⟩
  f39 := ⟨Tryd.f116.name, by decide, Tryd.func116.trans (congrArg some (by kernel_rfl))⟩
  f41 := ⟨Tryd.f117.name, by decide, Tryd.func117.trans (congrArg some (by kernel_rfl))⟩
  t0 := Tryd.underlying0
  a0 := Tryd.isAgg0
  z0 := Tryd.sizeOf0
  v0 := Tryd.zeroValue0
  t3 := Tryd.underlying3
  a3 := Tryd.isAgg3
  z3 := Tryd.sizeOf3
  v3 := Tryd.zeroValue3
  t4 := Tryd.underlying4
  a4 := Tryd.isAgg4
  z4 := Tryd.sizeOf4
  v4 := Tryd.zeroValue4
  t5 := Tryd.underlying5
  a5 := Tryd.isAgg5
  z5 := Tryd.sizeOf5
  v5 := Tryd.zeroValue5
  t9 := Tryd.underlying9
  a9 := Tryd.isAgg9
  z9 := Tryd.sizeOf9
  v9 := Tryd.zeroValue9
  t26 := Tryd.underlying46
  a26 := Tryd.isAgg46
  z26 := Tryd.sizeOf46
  v26 := Tryd.zeroValue46
  t27 := Tryd.underlying46
  a27 := Tryd.isAgg46
  z27 := Tryd.sizeOf46
  v27 := Tryd.zeroValue46
  t29 := Tryd.underlying9
  a29 := Tryd.isAgg9
  z29 := Tryd.sizeOf9
  v29 := Tryd.zeroValue9
  t32 := Tryd.underlying114
  a32 := Tryd.isAgg114
  z32 := Tryd.sizeOf114
  v32 := Tryd.zeroValue114
  t35 := Tryd.underlying118
  a35 := Tryd.isAgg118
  z35 := Tryd.sizeOf118
  v35 := Tryd.zeroValue118
  t36 := Tryd.underlying119
  a36 := Tryd.isAgg119
  z36 := Tryd.sizeOf119
  v36 := Tryd.zeroValue119
  t41 := Tryd.underlying86
  a41 := Tryd.isAgg86
  z41 := Tryd.sizeOf86
  v41 := Tryd.zeroValue86
  t44 := Tryd.underlying126
  a44 := Tryd.isAgg126
  z44 := Tryd.sizeOf126
  v44 := Tryd.zeroValue126
  t46 := Tryd.underlying128
  a46 := Tryd.isAgg128
  z46 := Tryd.sizeOf128
  v46 := Tryd.zeroValue128
  t53 := Tryd.underlying129
  a53 := Tryd.isAgg129
  z53 := Tryd.sizeOf129
  v53 := Tryd.zeroValue129
  t57 := Tryd.underlying133
  a57 := Tryd.isAgg133
  z57 := Tryd.sizeOf133
  v57 := Tryd.zeroValue133
  t63 := Tryd.underlying135
  a63 := Tryd.isAgg135
  z63 := Tryd.sizeOf135
  v63 := Tryd.zeroValue135
  t64 := Tryd.underlying136
  a64 := Tryd.isAgg136
  z64 := Tryd.sizeOf136
  v64 := Tryd.zeroValue136 }

/-- slices.Sort's two contracts at this dump. -/
theorem sorts (m : Nat) : AnyZ.SortsIn Tryd.prog sorted64_ren Fence.wide m :=
  ⟨fun blk off cap ss W hH hblk hsz => callsIn_wide.2 (AnyM.slices_Sort_string sort83 blk off cap ss W hH hblk hsz),
   fun p cap W => callsIn_wide.2 (AnyM.slices_Sort_string_none sort83 p cap W)⟩

set_option maxHeartbeats 1000000 in
theorem sortsKeys : Go.Abs.SortsKeys Tryd.prog 64 84 9 := by
  intro Bm b nn D0 R W hcell hown hmax hbytes
  have hBm : Bm < W.heap.size := by
    by_cases h : Bm < W.heap.size
    · exact h
    · have h2 : W.heap[Bm]? = none := Array.getElem?_eq_none (by omega)
      simp [World.cell?, h2] at hcell
  have hseq : SeqGives Fence.wide 2 Tryd.prog 84 #[.pointer (some ⟨Bm, 0, none⟩)] encStr (fun ss => ss.Perm (strKeys D0)) (Maps.size D0) W :=
    AnyZ.keys_gives (ρ := keys65_ren) { keys65 with } Fence.wide _ trivial rfl (by omega) Bm b nn D0 W hBm hcell hown
  exact callsIn_wide.1 (AnyZ.sorted_in sorted64 Fence.wide 5 trivial trivial trivial trivial rfl (by omega) (sorts _) (enters_of Tryd.func83 (by kernel_rfl) rfl) 84 #[.pointer (some ⟨Bm, 0, none⟩)] trivial (enters_of Tryd.func84 (by kernel_rfl) rfl) _ _ hmax hbytes W hseq)
theorem keyT : Tryd.prog.underlying 9 = some .string := by kernel_rfl
/-- The contract, for runs. -/
theorem sound {gl : Go.Abs.Glob} : Go.Abs.OrcSound Tryd.prog gl (Go.Abs.sortO 64 84) := Go.Abs.sortO_sound sortsKeys keyT
end Go.Proofs.YtajhailaofchlaaDoor.shelf
end

/-
  Registers: what the program's Regs hands back.
-/
section
set_option linter.unusedVariables false
set_option linter.unusedSimpArgs false
namespace Go.Proofs.YtajhailaofchlaaDoor.lex
open Go.Abs Go.RowKit
set_option maxRecDepth 100000
set_option maxHeartbeats 4000000
theorem rg2_ok (x : Ex) (rest : List AV) (d : Int) (n : List (List UInt8)) : MemOK Tryd.prog runLives.gl 62 [.rp (x.cells ++ rest), .int .i64 d, .ptr 2 0] (rgH n) (.bool true) (rgH (cond (x.op == 2) (rgN x.name n) n)) := by
  have hx := cell_op x rest
  have hx2 := cell_nm x rest
  refine fn_mem (k := 3) follows noNum (orcN_sound follows noNum isWordF_sound 3) rfl Tryd.func62 rfl (wcall_ok (isC := fun _ => false) 3) ?_
  have he := rg_evo n (cond (x.op == 2) (rgN x.name n) n)
  have hset := rg_set x.name n
  unfold rgN at he ⊢
  generalize x.name = s at *
  generalize x.op = o at *
  generalize x.cells ++ rest = cs at *
  cases ho : (o == 2) with
  | false =>
    rw [ho, cond_false] at he
    rw [cond_false]
    have e1 : (o != 2) = true := bne_of (b := false) ho
    repeat' ((conv => whnf); first | (refine exI hx ?_) | (refine exI hx2 ?_) | (first | refine stp ?_ | with_reducible refine condB (fun h => ?_) (fun h => ?_)))
    all_goals (conv => whnf)
    all_goals (exact ⟨rfl, by rw [he]; rfl⟩)
  | true =>
    rw [ho, cond_true] at he
    rw [cond_true]
    have e0 : (o != 2) = false := bne_of (b := true) ho
    cases hs : (s == []) with
    | true =>
      rw [hs, cond_true] at he
      rw [cond_true]
      have e1 : (!(s == [])) = false := by rw [hs]; rfl
      repeat' ((conv => whnf); first | (refine exI hx ?_) | (refine exI hx2 ?_) | (first | refine stp ?_ | with_reducible refine condB (fun h => ?_) (fun h => ?_)))
      all_goals (conv => whnf)
      all_goals (exact ⟨rfl, by rw [he]; rfl⟩)
    | false =>
      rw [hs, cond_false] at he
      rw [cond_false]
      have e1 : (!(s == [])) = true := by rw [hs]; rfl
      simp only [rgH] at hset he ⊢
      generalize rgE 0 (rgP s n) = es' at *
      generalize (rgP s n).length = c' at *
      repeat' ((conv => whnf); first | (refine exI hx ?_) | (refine exI hx2 ?_) | (refine exI hset ?_) | (first | refine stp ?_ | with_reducible refine condB (fun h => ?_) (fun h => ?_)))
      all_goals (conv => whnf)
      all_goals (exact ⟨rfl, by rw [he]; rfl⟩)
def rgEf (x : Ex) (_ : Int) (n : List (List UInt8)) : Bool × List (List UInt8) := (true, cond (x.op == 2) (rgN x.name n) n)
def rgSf (x : St) (_ : Int) (n : List (List UInt8)) : Bool × List (List UInt8) := (true, rgN x.name n)
def rgV : TvS runLives.gl where
  σ := List (List UInt8)
  Mem := rgH
  k := 3
  len := fun _ => rfl
  same := fun s => ⟨⟨⟨rfl, rfl, rfl, rfl, ⟨rfl, rgE_ge _ s 0⟩⟩, ⟨rfl, rfl, rfl, rfl, BodyGe.cellsL ⟨Wk.map rfl, trivial⟩⟩, ⟨rfl, rfl, rfl, rfl, BodyGe.cellsL ⟨Wk.func trivial ⟨Wk.ptr rfl rfl, trivial⟩, trivial⟩⟩, trivial⟩, rfl, rfl⟩
  evo := fun s s' => rg_evo s s'
  inj := fun _ _ h => rgH_inj h
  I := rgI
  up := fun d s m h0 h => ⟨h0, by have := h.2; omega⟩
  less := fun d s m h => ⟨h.1, by have := h.2; omega⟩
  bnd := fun d s m h => ⟨h.1, by have := h.2; omega⟩
  gE := 62
  cE := [.ptr 2 0]
  hE := rgEf
  bodyE := by kernel_rfl
  wkE := ⟨Wk.ptr rfl rfl, trivial⟩
  okE := fun e rest d s m _ h => rg2_ok e rest d s
  downE := fun e d s m h _ => ⟨by have := h.1; omega, by have := h.2; omega⟩
  gS := 63
  cS := [.ptr 2 0]
  hS := rgSf
  bodyS := by kernel_rfl
  wkS := ⟨Wk.ptr rfl rfl, trivial⟩
  okS := fun x rest d s m _ h => rg3_ok x rest d s
  downS := fun e d s m h _ => ⟨by have := h.1; omega, by have := h.2; omega⟩
/-! the names, in the order of the walk -/
mutual
def nmE : Ex → List (List UInt8)
  | .mk o _ s k => (cond (o == 2 && !(s == [])) [s] []) ++ nmL k
def nmL : List Ex → List (List UInt8)
  | [] => []
  | e :: l => nmE e ++ nmL l
end
mutual
def nmS : St → List (List UInt8)
  | .mk _ n _ _ x t e => (cond (!(n == [])) [n] []) ++ (nmL x ++ (nmSL t ++ nmSL e))
def nmSL : List St → List (List UInt8)
  | [] => []
  | x :: l => nmS x ++ nmSL l
end
/-- All of them put. -/
def addA (l : List (List UInt8)) (n : List (List UInt8)) : List (List UInt8) := l.foldl (fun n s => rgP s n) n
theorem addA_app (a b n : List (List UInt8)) : addA (a ++ b) n = addA b (addA a n) := List.foldl_append
theorem rgN_add (b : Bool) (s : List UInt8) (n : List (List UInt8)) : cond b (rgN s n) n = addA (cond (b && !(s == [])) [s] []) n := by
  unfold rgN
  cases b <;> cases (s == []) <;> rfl
mutual
theorem goE_rg : ∀ (e : Ex) (d : Int) (n : List (List UInt8)), goE rgEf e d n = (true, addA (nmE e) n)
  | .mk o m s k, d, n => by
    simp only [goE, rgEf, if_true, Ex.op, Ex.name]
    rw [goL_rg k (d + 1), rgN_add, nmE, addA_app]
theorem goL_rg : ∀ (l : List Ex) (d : Int) (n : List (List UInt8)), goL rgEf l d n = (true, addA (nmL l) n)
  | [], d, n => by simp only [goL, nmL]; rfl
  | e :: l, d, n => by
    simp only [goL, goE_rg e d n, if_true, goL_rg l d, nmL, addA_app]
end
mutual
theorem goS_rg : ∀ (x : St) (d : Int) (n : List (List UInt8)), goS rgEf rgSf x d n = (true, addA (nmS x) n)
  | .mk k m lc o x t e, d, n => by
    have h := rgN_add true m n
    simp only [cond_true, Bool.true_and] at h
    simp only [goS]
    rw [show rgSf (.mk k m lc o x t e) d n = (true, rgN m n) from rfl, h]
    simp only [thenB, goL_rg, if_true, goSL_rg t, goSL_rg e, nmS, addA_app]
theorem goSL_rg : ∀ (l : List St) (d : Int) (n : List (List UInt8)), goSL rgEf rgSf l d n = (true, addA (nmSL l) n)
  | [], d, n => by simp only [goSL, nmSL]; rfl
  | e :: l, d, n => by
    simp only [goSL, thenB, goS_rg e d n, if_true, goSL_rg l d, nmSL, addA_app]
end
theorem rgP_nodup {s : List UInt8} {n : List (List UInt8)} (h : n.Nodup) : (rgP s n).Nodup := by
  unfold rgP
  split
  · exact h
  · rename_i hc
    have hm : s ∉ n := by simpa using hc
    exact List.nodup_append.2 ⟨h, by simp, fun a ha b hb => by simp at hb; subst hb; exact fun e => hm (e ▸ ha)⟩
theorem addA_nodup : ∀ (l n : List (List UInt8)), n.Nodup → (addA l n).Nodup
  | [], n, h => h
  | s :: l, n, h => addA_nodup l (rgP s n) (rgP_nodup h)
theorem rgP_mem {s x : List UInt8} {n : List (List UInt8)} : x ∈ rgP s n ↔ x ∈ n ∨ x = s := by
  unfold rgP
  split
  · rename_i hc
    have hm : s ∈ n := by simpa using hc
    exact ⟨.inl, fun h => h.elim id (fun e => e ▸ hm)⟩
  · simp
theorem addA_mem {x : List UInt8} : ∀ {l n : List (List UInt8)}, x ∈ addA l n ↔ x ∈ n ∨ x ∈ l
  | [], n => by simp [addA]
  | s :: l, n => by
    have := addA_mem (x := x) (l := l) (n := rgP s n)
    rw [rgP_mem] at this
    show x ∈ addA l (rgP s n) ↔ _
    rw [this]; simp only [List.mem_cons]; exact or_assoc
theorem addA_len : ∀ (l n : List (List UInt8)), (addA l n).length ≤ n.length + l.length
  | [], n => by simp [addA]
  | s :: l, n => by
    have := addA_len l (rgP s n)
    have h2 : (rgP s n).length ≤ n.length + 1 := by unfold rgP; split <;> simp
    show (addA l (rgP s n)).length ≤ _
    simp only [List.length_cons]; omega
mutual
theorem nmE_len : ∀ e : Ex, (nmE e).length ≤ sizeE e
  | .mk o m s k => by
    have := nmL_len k
    simp only [nmE, sizeE, List.length_append]
    cases (o == 2 && !(s == [])) <;> simp <;> omega
theorem nmL_len : ∀ l : List Ex, (nmL l).length ≤ sizeL l
  | [] => by simp [nmL]
  | e :: l => by have := nmE_len e; have := nmL_len l; simp only [nmL, sizeL, List.length_append]; omega
end
mutual
theorem nmS_len : ∀ e : St, (nmS e).length ≤ sizeS e
  | .mk k n lc o x t e => by
    have := nmL_len x; have := nmSL_len t; have := nmSL_len e
    simp only [nmS, sizeS, List.length_append]
    cases (!(n == [])) <;> simp <;> omega
theorem nmSL_len : ∀ l : List St, (nmSL l).length ≤ sizeSL l
  | [] => by simp [nmSL]
  | e :: l => by have := nmS_len e; have := nmSL_len l; simp only [nmSL, sizeSL, List.length_append]; omega
end
mutual
theorem nmE_ok : ∀ {e : Ex}, okE e → ∀ x ∈ nmE e, x.length ≤ 9223372036854775807
  | .mk o m s k, h, x, hx => by
    have h1 := okE_kids h
    simp only [Ex.name, Ex.kids, okN] at h1
    simp only [nmE, List.mem_append] at hx
    rcases hx with hx | hx
    · cases hb : (o == 2 && !(s == [])) with
      | true => rw [hb] at hx; simp at hx; subst hx; exact h1.1.1
      | false => rw [hb] at hx; simp at hx
    · exact nmL_ok h1.2 x hx
theorem nmL_ok : ∀ {l : List Ex}, okL l → ∀ x ∈ nmL l, x.length ≤ 9223372036854775807
  | [], h, x, hx => by simp [nmL] at hx
  | e :: l, h, x, hx => by
    simp only [nmL, List.mem_append] at hx
    rcases hx with hx | hx
    · exact nmE_ok (okL_get h e (by simp)) x hx
    · exact nmL_ok (by simp only [okL] at h; exact h.2) x hx
end
mutual
theorem nmS_ok : ∀ {e : St}, okS e → ∀ x ∈ nmS e, x.length ≤ 9223372036854775807
  | .mk k n lc o ex t e, h, x, hx => by
    obtain ⟨k1, k2, k3, k4, k5, k6, k7, k8⟩ := okS_parts h
    simp only [St.name, St.exprs, St.thn, St.els] at *
    simp only [nmS, List.mem_append] at hx
    rcases hx with hx | hx | hx | hx
    · cases hb : (!(n == [])) with
      | true => rw [hb] at hx; simp at hx; subst hx; exact k1
      | false => rw [hb] at hx; simp at hx
    · exact nmL_ok k6 x hx
    · exact nmSL_ok k7 x hx
    · exact nmSL_ok k8 x hx
theorem nmSL_ok : ∀ {l : List St}, okSL l → ∀ x ∈ nmSL l, x.length ≤ 9223372036854775807
  | [], h, x, hx => by simp [nmSL] at hx
  | e :: l, h, x, hx => by
    simp only [nmSL, List.mem_append] at hx
    rcases hx with hx | hx
    · exact nmS_ok (okSL_get h e (by simp)) x hx
    · exact nmSL_ok (by simp only [okSL] at h; exact h.2) x hx
end
theorem strsE_rg : ∀ (n : List (List UInt8)) (i : Nat), strsE (rgE i n) = some n
  | [], i => rfl
  | x :: n, i => by simp only [rgE, strsE, strsE_rg n (i + 1)]
theorem born_rg : ∀ (n : List (List UInt8)) (i : Nat), (rgE i n).map (·.2.2) = (List.range' i n.length)
  | [], i => rfl
  | x :: n, i => by simp only [rgE, List.map_cons, born_rg n (i + 1), List.length_cons, List.range'_succ]
theorem rg_keys {n : List (List UInt8)} (h1 : n.Nodup) (h2 : ∀ x ∈ n, x.length ≤ 9223372036854775807) (h3 : n.length ≤ 1000000) : okKeys n (rgE 0 n) n.length = true := by
  unfold okKeys
  simp only [born_rg, Bool.and_eq_true, decide_eq_true_eq]
  refine ⟨h1, h2, List.nodup_range', ?_, by simpa using h3⟩
  rw [List.all_eq_true]
  intro b hb
  have := List.mem_range'_1.1 hb
  simp only [decide_eq_true_eq]; omega
end Go.Proofs.YtajhailaofchlaaDoor.lex
end

/-
  Texts, rising, each once: two ways to the same list (plain lists).
-/
section
set_option linter.unusedVariables false
set_option linter.unusedSimpArgs false
namespace Go.Proofs.YtajhailaofchlaaDoor.lex
open Go.Abs Go.RowKit
theorem bl_eq : ∀ (x y : List UInt8), Op.bytesLess x y = decide (x < y)
  | [], [] => by simp [Op.bytesLess]
  | _ :: _, [] => by simp [Op.bytesLess]
  | [], _ :: _ => by simp [Op.bytesLess]
  | a :: x, b :: y => by
    rw [Op.bytesLess, bl_eq x y]
    simp only [List.cons_lt_cons_iff]
    by_cases h1 : a < b <;> by_cases h2 : a = b <;> by_cases h3 : x < y <;> simp [h1, h2, h3]
/-- How many stand ahead. -/
def posU (s : List UInt8) : List (List UInt8) → Nat
  | [] => 0
  | x :: o => if Op.bytesLess x s = true then posU s o + 1 else 0
def insU (s : List UInt8) : List (List UInt8) → List (List UInt8)
  | [] => [s]
  | x :: o => if Op.bytesLess x s = true then x :: insU s o else if (x == s) = true then x :: o else s :: x :: o
def setU (l : List (List UInt8)) : List (List UInt8) := l.foldl (fun o s => insU s o) []
theorem posU_le (s : List UInt8) : ∀ o, posU s o ≤ o.length
  | [] => Nat.le_refl _
  | x :: o => by have := posU_le s o; simp only [posU, List.length_cons]; split <;> omega
theorem posU_lt (s : List UInt8) : ∀ (o : List (List UInt8)) (k : Nat) (h : k < o.length), k < posU s o → Op.bytesLess o[k] s = true
  | x :: o, 0, h, hk => by
    simp only [posU] at hk
    split at hk
    · assumption
    · omega
  | x :: o, k + 1, h, hk => by
    simp only [posU] at hk
    split at hk
    · exact posU_lt s o k (by simpa using h) (by omega)
    · omega
theorem posU_at (s : List UInt8) : ∀ (o : List (List UInt8)) (h : posU s o < o.length), Op.bytesLess o[posU s o] s = false
  | x :: o, h => by
    cases hx : Op.bytesLess x s with
    | true =>
      have e : posU s (x :: o) = posU s o + 1 := by simp [posU, hx]
      simp only [e, List.length_cons] at h
      simp only [e, List.getElem_cons_succ]
      exact posU_at s o (by omega)
    | false =>
      have e : posU s (x :: o) = 0 := by simp [posU, hx]
      simp only [e, List.getElem_cons_zero]; exact hx
theorem insU_same (s : List UInt8) : ∀ (o : List (List UInt8)) (h : posU s o < o.length), (o[posU s o] == s) = true → insU s o = o
  | x :: o, h, he => by
    cases hx : Op.bytesLess x s with
    | true =>
      have e : posU s (x :: o) = posU s o + 1 := by simp [posU, hx]
      simp only [e, List.length_cons] at h
      simp only [e, List.getElem_cons_succ] at he
      simp only [insU, hx, if_true, insU_same s o (by omega) he]
    | false =>
      have e : posU s (x :: o) = 0 := by simp [posU, hx]
      simp only [e, List.getElem_cons_zero] at he
      simp only [insU, hx, he, if_true, Bool.false_eq_true, if_false]
theorem insU_new (s : List UInt8) : ∀ (o : List (List UInt8)), (∀ h : posU s o < o.length, (o[posU s o] == s) = false) → insU s o = o.take (posU s o) ++ (s :: o.drop (posU s o))
  | [], _ => rfl
  | x :: o, he => by
    cases hx : Op.bytesLess x s with
    | true =>
      have e : posU s (x :: o) = posU s o + 1 := by simp [posU, hx]
      have := insU_new s o fun h => by
        have := he (by rw [e]; simpa using h)
        simpa only [e, List.getElem_cons_succ] using this
      rw [e]
      simp only [insU, hx, if_true, List.take_succ_cons, List.drop_succ_cons, List.cons_append, ← this]
    | false =>
      have e : posU s (x :: o) = 0 := by simp [posU, hx]
      have h2 := he (by rw [e]; simp)
      simp only [e, List.getElem_cons_zero] at h2
      rw [e]
      simp only [insU, hx, h2, Bool.false_eq_true, if_false, List.take_zero, List.drop_zero, List.nil_append]
theorem insU_mem {s x : List UInt8} : ∀ {o : List (List UInt8)}, x ∈ insU s o ↔ x ∈ o ∨ x = s
  | [] => by simp [insU]
  | y :: o => by
    have ih := insU_mem (s := s) (x := x) (o := o)
    simp only [insU]
    split
    · simp only [List.mem_cons, ih, or_assoc]
    · split
      · rename_i h
        have : y = s := by simpa using h
        subst this
        simp only [List.mem_cons]
        constructor
        · exact .inl
        · rintro (h | rfl)
          · exact h
          · exact .inl rfl
      · simp only [List.mem_cons]
        constructor
        · rintro (h | h)
          · exact .inr h
          · exact .inl h
        · rintro (h | h)
          · exact .inr h
          · exact .inl h
theorem insU_len (s : List UInt8) : ∀ o, (insU s o).length ≤ o.length + 1
  | [] => by simp [insU]
  | x :: o => by have := insU_len s o; simp only [insU]; split <;> (try split) <;> simp only [List.length_cons] <;> omega
theorem setU_len : ∀ (l o : List (List UInt8)), (l.foldl (fun o s => insU s o) o).length ≤ o.length + l.length
  | [], o => by simp
  | s :: l, o => by
    have := setU_len l (insU s o)
    have h2 := insU_len s o
    simp only [List.foldl_cons, List.length_cons]; omega
theorem lt_of (a b : List UInt8) (h : ¬ a < b) (hn : a ≠ b) : b < a := by
  rcases List.le_total a b with h1 | h1
  · have h2 : b ≤ a := List.not_lt.1 h
    exact absurd (List.le_antisymm h1 h2) hn
  · exact List.not_le.1 fun h2 => hn (List.le_antisymm h2 h1)
theorem insU_sorted (s : List UInt8) : ∀ {o : List (List UInt8)}, o.Pairwise (· < ·) → (insU s o).Pairwise (· < ·)
  | [], _ => by simp [insU]
  | x :: o, h => by
    rw [List.pairwise_cons] at h
    simp only [insU, bl_eq, decide_eq_true_eq]
    split
    · rename_i hx
      rw [List.pairwise_cons]
      refine ⟨fun a ha => ?_, insU_sorted s h.2⟩
      rcases insU_mem.1 ha with ha | rfl
      · exact h.1 a ha
      · exact hx
    · rename_i hx
      split
      · rw [List.pairwise_cons]; exact h
      · rename_i hn
        have hsx : s < x := lt_of x s hx (fun e => hn (by simp [e]))
        rw [List.pairwise_cons]
        refine ⟨fun a ha => ?_, by rw [List.pairwise_cons]; exact h⟩
        rcases List.mem_cons.1 ha with rfl | ha
        · exact hsx
        · exact List.lt_trans hsx (h.1 a ha)
theorem setU_sorted : ∀ (l o : List (List UInt8)), o.Pairwise (· < ·) → (l.foldl (fun o s => insU s o) o).Pairwise (· < ·)
  | [], o, h => h
  | s :: l, o, h => setU_sorted l _ (insU_sorted s h)
theorem setU_mem {x : List UInt8} : ∀ {l o : List (List UInt8)}, x ∈ l.foldl (fun o s => insU s o) o ↔ x ∈ o ∨ x ∈ l
  | [], o => by simp
  | s :: l, o => by
    have := setU_mem (x := x) (l := l) (o := insU s o)
    simp only [List.foldl_cons, this, insU_mem, List.mem_cons, or_assoc]
theorem setU_eq (l : List (List UInt8)) : setU l = sortB (addA l []) := by
  have h1 := setU_sorted l [] List.Pairwise.nil
  refine sortB_unique ?_ (h1.imp fun {a b} h => ?_)
  · have hn : (setU l).Nodup := h1.imp fun {a b} h e => by subst e; exact List.lt_irrefl _ h
    refine (List.perm_ext_iff_of_nodup hn (addA_nodup l [] List.nodup_nil)).2 fun a => ?_
    rw [addA_mem]; exact setU_mem
  · simp only [leB, decide_eq_true_eq]; exact List.le_of_lt h
theorem setU_next (l : List (List UInt8)) (i : Nat) (h : i < l.length) : setU (l.take (i + 1)) = insU l[i] (setU (l.take i)) := by
  unfold setU
  rw [List.take_succ_eq_append_getElem h, List.foldl_append]; rfl
theorem setU_take_len (l : List (List UInt8)) (i : Nat) : (setU (l.take i)).length ≤ l.length := by
  have := setU_len (l.take i) []
  unfold setU
  simp only [List.length_nil, List.length_take] at this
  omega
end Go.Proofs.YtajhailaofchlaaDoor.lex
end

/-
  A verified abstract interpreter, part 47: lists that grow by append.
-/
section
set_option linter.unusedSimpArgs false
set_option linter.unusedVariables false
namespace Go.Abs
open Go.RowKit

/-- A list that grows: nil as long as it is empty, else the whole of block b. -/
def grA {α : Type} (b z : Nat) : List α → AV
  | [] => .nslice
  | _ :: r => .slice b 0 (r.length + 1) (r.length + 1) z
def grB {α : Type} (b : Nat) (C : List α → List AV) (ty : TypeId) : List α → AHeap
  | [] => []
  | x :: r => [⟨true, b, 0, .cells (C (x :: r)) ty⟩]
/-- Nothing is appended to nil. -/
theorem app_n0 {P : Program} {t t2 e : TypeId} {z by_ : Nat} (hT : appT P t t2 = some (e, z, by_)) {H : AHeap} {x : AV} {xs : List AV} (hx : xcells H z x = some (0, xs)) :
    aAppend P t t2 .nslice x H = some (.nslice, H) := by
  obtain ⟨h1, i, u, h2, h3, h4, rfl, rfl⟩ := appT_some hT
  simp only [aAppend, h1, h2, h3]
  rw [if_pos h4]
  simp only [hx, if_true]
/-- Of each block of a family, how far its cells are known. -/
def ekOk (f e : Nat) : AHeap → Prop
  | [] => True
  | o :: H => (o.fam ≠ f ∨ o.sh + o.body.len ≤ e) ∧ ekOk f e H
theorem ekOk_mem {f e : Nat} : ∀ {H : AHeap}, ekOk f e H → ∀ o ∈ H, o.fam = f → o.sh + o.body.len ≤ e
  | [], _, o, h, _ => by cases h
  | x :: H, h, o, ho, hf => by
    rcases List.mem_cons.1 ho with rfl | ho
    · rcases h.1 with h1 | h1
      · exact absurd hf h1
      · exact h1
    · exact ekOk_mem h.2 o ho hf
theorem ekil_ok {f e : Nat} {H : AHeap} (h : ekOk f e H) : ekil f e H = H := ekil_le (ekOk_mem h)
/-- An append, whatever stands there. -/
theorem apS {P Q : Prop} (q : Q) (h : Stp1 P Q := by
    first
    | (with_reducible apply s1I (app_n0 (by assumption) ?_)); (any_goals (exact rfl)); done
    | (with_reducible apply s1I (app_zero (by assumption) ?_)); (any_goals (exact rfl)); done
    | (with_reducible apply s1I (app_nil (by assumption) ?_ ?_ ?_)); (any_goals (exact rfl)); (all_goals first | omega | (simp only [List.length_cons]; omega))
    | (with_reducible apply s1I (app_okG (by assumption) ?_ ?_ (ekil_ok ?_) ?_ ?_ ?_ ?_)); (any_goals (exact rfl));
      (all_goals first
        | assumption
        | omega
        | (simp only [List.length_cons]; omega)
        | (simp [ekOk, ABody.len]; done) | (simp [ekOk, ABody.len]; omega)
        | (simp; done) | (simp; omega))) : P := h q
theorem strs_one : ∀ l : List (List UInt8), (l.map AV.str).all one = true
  | [] => rfl
  | x :: l => strs_one l
theorem strs_refs : ∀ (l : List (List UInt8)) (acc : List Nat), refsL (l.map AV.str) acc = acc
  | [], acc => rfl
  | x :: l, acc => strs_refs l acc
end Go.Abs
end


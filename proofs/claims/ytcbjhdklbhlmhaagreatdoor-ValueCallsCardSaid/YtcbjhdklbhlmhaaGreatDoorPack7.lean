/-
  Texts of this proof, one behind the other (part 7).
-/
import Derived.Test.YtcbjhdklbhlmhaaGreatDoorPack6
import Derived.Shelf.SlIter.Nil
import Derived.Shelf.SortM.Plain
import Derived.Shelf.SortM.SortNone
import Derived.Test.YtcbjhdklbhlmhaaGreatDoorProg

/-
  Expressions that are the same.
-/
section
set_option linter.unusedVariables false
set_option linter.unusedSimpArgs false
namespace Go.Proofs.YtcbjhdklbhlmhaaGreatDoor.lex
open Go.Abs Go.RowKit
set_option maxRecDepth 100000
set_option maxHeartbeats 4000000
variable {gl : Glob}
def allB {α β : Type} (f : α → β → Bool) : List α → List β → Bool
  | [], [] => true
  | x :: a, y :: b => f x y && allB f a b
  | _, _ => false
theorem allB_len {α β : Type} (f : α → β → Bool) : ∀ (a : List α) (b : List β), a.length ≠ b.length → allB f a b = false
  | [], [], h => by simp at h
  | [], _ :: _, _ => rfl
  | _ :: _, [], _ => rfl
  | x :: a, y :: b, h => by simp only [allB, allB_len f a b (by simpa using h), Bool.and_false]
theorem allB_take {α β : Type} (f : α → β → Bool) : ∀ (a : List α) (b : List β) (i : Nat) (h : i < a.length) (h' : i < b.length), allB f (a.take (i + 1)) (b.take (i + 1)) = (allB f (a.take i) (b.take i) && f a[i] b[i])
  | x :: a, y :: b, 0, h, h' => by simp [allB]
  | x :: a, y :: b, i + 1, h, h' => by
    have := allB_take f a b i (by simpa using h) (by simpa using h')
    simp only [List.take_succ_cons, allB, List.getElem_cons_succ] at this ⊢; rw [this, Bool.and_assoc]
theorem allB_get {α β : Type} (f : α → β → Bool) : ∀ {a : List α} {b : List β} {i : Nat} (h : i < a.length) (h' : i < b.length), f a[i] b[i] = false → allB f a b = false
  | x :: a, y :: b, 0, h, h', e => by simp only [List.getElem_cons_zero] at e; simp only [allB, e, Bool.false_and]
  | x :: a, y :: b, i + 1, h, h', e => by simp only [List.getElem_cons_succ] at e; simp only [allB, allB_get f (a := a) (b := b) (by simpa using h) (by simpa using h') e, Bool.and_false]
theorem allB_refl {α : Type} (f : α → α → Bool) : ∀ {a : List α}, (∀ x ∈ a, f x x = true) → allB f a a = true
  | [], _ => rfl
  | x :: a, h => by simp only [allB, h x (by simp), allB_refl f (a := a) fun y hy => h y (by simp [hy]), Bool.true_and]
mutual
def sameE : Ex → Ex → Bool
  | .mk o n s k, .mk o' n' s' k' => (o == o') && ((n == n') && ((s == s') && sameL k k'))
def sameL : List Ex → List Ex → Bool
  | [], [] => true
  | x :: a, y :: b => sameE x y && sameL a b
  | _, _ => false
end
theorem sameL_eq : ∀ (a b : List Ex), sameL a b = allB sameE a b
  | [], [] => by simp only [sameL, allB]
  | [], _ :: _ => by simp only [sameL, allB]
  | _ :: _, [] => by simp only [sameL, allB]
  | x :: a, y :: b => by simp only [sameL, allB, sameL_eq a b]
theorem two_refs (a b : Ex) : refsL [.agg a.cells, .agg b.cells] [] = [] := by
  obtain ⟨o, n, s, k⟩ := a
  obtain ⟨o', n', s', k'⟩ := b
  simp only [Ex.cells]; rfl
def famTwo {g : Nat} (hb : hasBody Tryz.prog g = true) (G : Ex × Ex → Prop) (h : ∀ p, G p → ValOK Tryz.prog gl g [.agg p.1.cells, .agg p.2.cells] (.bool (sameE p.1 p.2))) : Fam Tryz.prog gl := { I := Ex × Ex, f := g, G := G, A := fun p => [.agg p.1.cells, .agg p.2.cells], R := fun p => .bool (sameE p.1 p.2), body := hb, inj := (fun i j _ _ h => by simp only [List.cons.injEq, AV.agg.injEq, and_true] at h; rw [cells_inj _ _ h.1, cells_inj _ _ h.2]), ok := (fun p hp => ⟨two_refs p.1 p.2, h p hp⟩) }
theorem eqfE_ok (a b : List Ex) (ha : a.length ≤ 9223372036854775807) (each : ∀ x ∈ a, ∀ y ∈ b, ValOK Tryz.prog gl 67 [.agg x.cells, .agg y.cells] (.bool (sameE x y))) : ValOK Tryz.prog gl 83 [exA a, exA b, .func (.func 67) [] []] (.bool (sameL a b)) := by
  obtain ⟨O, hO, p1, -⟩ := fams (P := Tryz.prog) (gl := gl) [famTwo (g := 67) (by kernel_rfl) (fun p => p.1 ∈ a ∧ p.2 ∈ b) (fun p hp => each _ hp.1 _ hp.2)] rfl
  have q1 : ∀ x ∈ a, ∀ y ∈ b, ∀ H, acall Tryz.prog O H 67 [.agg x.cells, .agg y.cells] = some (.bool (sameE x y), H) := fun x hx y hy => p1 (x, y) ⟨hx, hy⟩
  clear p1
  rw [sameL_eq]
  unfold exA
  refine fn_val follows noNum hO Tryz.func83 rfl ?_
  by_cases hl : a.length = b.length
  · have e0 : ((a.length : Int) == (b.length : Int)) = true := by rw [hl]; simp
    repeat' ((conv => whnf); first | refine stp ?_ | with_reducible refine condB (fun h => ?_) (fun h => ?_))
    conv => whnf
    refine ⟨Nat, (fun i => i ≤ a.length ∧ allB sameE (a.take i) (b.take i) = true), (fun i => [(1, .rs b.length 4 (exC b)), (2, .func (.func 67) [] []), (15, .rs a.length 4 (exC a)), (16, .int .i64 a.length), (17, .int .i64 i)]), (fun _ => []), (fun i => a.length - i), ⟨0, ⟨Nat.zero_le _, rfl⟩, FgL.mk0 rfl ?_⟩, ?_⟩
    · (repeat (first | exact trivial | refine stw ?_))
    rintro i ⟨hi, hall⟩
    dsimp only
    by_cases hlt : i < a.length
    · have e1 : decide ((i : Int) < (a.length : Int)) = true := by simpa using hlt
      have hlt' : i < b.length := by omega
      have hat := allB_take sameE a b i hlt hlt'
      rw [hall, Bool.true_and] at hat
      have hfalse : sameE a[i] b[i] = false → allB sameE a b = false := allB_get sameE hlt hlt'
      have hx := ex4 a i hlt
      have hy := ex4 b i hlt'
      have q2 := q1 a[i] (get_mem hlt) b[i] (get_mem hlt')
      generalize a[i] = x at *
      generalize b[i] = y at *
      generalize sameE x y = w at *
      obtain ⟨o, n, s, k⟩ := x
      obtain ⟨o', n', s', k'⟩ := y
      simp only [Ex.cells] at hx hy q2
      cases w with
      | true =>
        repeat' ((conv => whnf); first | (with_reducible refine exI (q2 _) ?_) | (with_reducible refine ixJ i rfl ?_ ?_; (focus (omega))) | (refine exI hx ?_) | (refine exI hy ?_) | (first | refine stp ?_ | with_reducible refine condB (fun h => ?_) (fun h => ?_)))
        conv => whnf
        refine ⟨i + 1, ⟨hlt, hat⟩, by show a.length - (i + 1) < a.length - i; omega, FgL.mk0 rfl ?_⟩
        (repeat (first | exact trivial | refine stw ?_))
      | false =>
        rw [hfalse rfl]
        repeat' ((conv => whnf); first | (with_reducible refine exI (q2 _) ?_) | (with_reducible refine ixJ i rfl ?_ ?_; (focus (omega))) | (refine exI hx ?_) | (refine exI hy ?_) | (first | refine stp ?_ | with_reducible refine condB (fun h => ?_) (fun h => ?_)))
        all_goals rfl
    · have e1 : decide ((i : Int) < (a.length : Int)) = false := by simpa using hlt
      have hi2 : i = a.length := by have := hi; omega
      subst hi2
      rw [List.take_length, hl, List.take_length] at hall
      rw [hall]
      repeat' ((conv => whnf); first | refine stp ?_ | with_reducible refine condB (fun h => ?_) (fun h => ?_))
      all_goals rfl
  · rw [allB_len _ _ _ hl]
    have e0 : ((a.length : Int) == (b.length : Int)) = false := by simpa using (fun h => hl (by omega))
    repeat' ((conv => whnf); first | refine stp ?_ | with_reducible refine condB (fun h => ?_) (fun h => ?_))
    all_goals rfl
theorem sameX_ok : ∀ (n : Nat) (a b : Ex), sizeE a ≤ n → okE a → ValOK Tryz.prog gl 67 [.agg a.cells, .agg b.cells] (.bool (sameE a b))
  | n, .mk o m s k, .mk o' m' s' k', h, hok => by
    have hk := okE_kids hok
    simp only [Ex.kids, Ex.name, okN] at hk
    simp only [sizeE] at h
    obtain ⟨O, hO, p1, -⟩ := fams (P := Tryz.prog) (gl := gl) [{ I := Unit, f := 83, G := fun _ => True, A := fun _ => [exA k, exA k', .func (.func 67) [] []], R := fun _ => .bool (sameL k k'), body := (by kernel_rfl), inj := (fun _ _ _ _ _ => rfl), ok := (fun _ _ => ⟨rfl, eqfE_ok k k' hk.1.2 fun x hx y _ => match n, (show 1 ≤ n by omega), h with | n + 1, _, h => sameX_ok n x y (by have := sizeL_mem _ _ hx; omega) (okL_get hk.2 _ hx)⟩) }] rfl
    have q1 : ∀ H, acall Tryz.prog O H 83 [exA k, exA k', .func (.func 67) [] []] = some (.bool (sameL k k'), H) := p1 () trivial
    clear p1
    simp only [Ex.cells, exA, sameE] at q1 ⊢
    generalize sameL k k' = w at *
    refine fn_val follows noNum hO Tryz.func67 rfl ?_
    generalize hb1 : (o == o') = b1
    generalize hb2 : (m == m') = b2
    generalize hb3 : (s == s') = b3
    cases b1 <;> cases b2 <;> cases b3 <;> cases w
    all_goals (repeat' ((conv => whnf); first | (with_reducible refine exI (q1 _) ?_) | (first | refine stp ?_ | with_reducible refine condB (fun h => ?_) (fun h => ?_))))
    all_goals (first | rfl | (simp_all [resOf]; done))
/-- The document's. -/
theorem bne_of {α : Type} [BEq α] {x y : α} {b : Bool} (h : (x == y) = b) : (x != y) = !b := by simp only [bne, h]
theorem sameR_ok : ∀ (n : Nat) (a b : Ex), sizeE a ≤ n → okE a → ValOK Tryz.prog gl 70 [.agg a.cells, .agg b.cells] (.bool (sameE a b))
  | n, .mk o m s k, .mk o' m' s' k', h, hok => by
    have hk := okE_kids hok
    simp only [Ex.kids, Ex.name, okN] at hk
    simp only [sizeE] at h
    obtain ⟨O, hO, p1, -⟩ := fams (P := Tryz.prog) (gl := gl) [famTwo (g := 70) (by kernel_rfl) (fun p => p.1 ∈ k ∧ p.2 ∈ k') (fun p hp => match n, (show 1 ≤ n by omega), h with | n + 1, _, h => sameR_ok n p.1 p.2 (by have := sizeL_mem _ _ hp.1; omega) (okL_get hk.2 _ hp.1))] rfl
    have q1 : ∀ x ∈ k, ∀ y ∈ k', ∀ H, acall Tryz.prog O H 70 [.agg x.cells, .agg y.cells] = some (.bool (sameE x y), H) := fun x hx y hy => p1 (x, y) ⟨hx, hy⟩
    clear p1
    simp only [Ex.cells, sameE, sameL_eq]
    refine fn_val follows noNum hO Tryz.func70 rfl ?_
    by_cases hh : (o == o') = true ∧ (m == m') = true ∧ (s == s') = true ∧ k.length = k'.length
    · obtain ⟨hb1, hb2, hb3, hl⟩ := hh
      have e0 : ((k.length : Int) == (k'.length : Int)) = true := by rw [hl]; simp
      have n1 : (o != o') = false := bne_of hb1
      have n2 : (m != m') = false := bne_of hb2
      have n3 : (!(s == s')) = false := by rw [hb3]; rfl
      have n4 : ((k.length : Int) != (k'.length : Int)) = false := bne_of e0
      rw [hb1, hb2, hb3]
      simp only [Bool.true_and]
      repeat' ((conv => whnf); first | (first | refine stp ?_ | with_reducible refine condB (fun h => ?_) (fun h => ?_)))
      conv => whnf
      refine ⟨Nat, (fun i => i ≤ k.length ∧ allB sameE (k.take i) (k'.take i) = true), (fun i => [(2, .ptr 0 0), (3, .ptr 1 0), (5, .int .i64 i)]), (fun _ => [⟨true, 0, 0, .cells [.int .i64 o, .int .i64 m, .str s, .rs k.length 4 (exC k)] 24⟩, ⟨true, 1, 0, .cells [.int .i64 o', .int .i64 m', .str s', .rs k'.length 4 (exC k')] 24⟩]), (fun i => k.length - i), ⟨0, ⟨Nat.zero_le _, rfl⟩, FgL.mk [0, 1] rfl ?_ ⟨⟨rfl, rfl, rfl, rfl, BodyGe.pre (rest := []) rfl rfl⟩, ⟨rfl, rfl, rfl, rfl, BodyGe.pre (rest := []) rfl rfl⟩, trivial⟩ rfl⟩, ?_⟩
      · (repeat (first | exact trivial | refine stw ?_))
      rintro i ⟨hi, hall⟩
      dsimp only
      by_cases hlt : i < k.length
      · have e1 : decide ((i : Int) < (k.length : Int)) = true := by simpa using hlt
        have hlt' : i < k'.length := by omega
        have hat := allB_take sameE k k' i hlt hlt'
        rw [hall, Bool.true_and] at hat
        have hfalse : sameE k[i] k'[i] = false → allB sameE k k' = false := allB_get sameE hlt hlt'
        have hx := ex4 k i hlt
        have hy := ex4 k' i hlt'
        have q2 := q1 k[i] (get_mem hlt) k'[i] (get_mem hlt')
        generalize k[i] = x at *
        generalize k'[i] = y at *
        generalize sameE x y = w at *
        obtain ⟨xo, xn, xs, xk⟩ := x
        obtain ⟨yo, yn, ys, yk⟩ := y
        simp only [Ex.cells] at hx hy q2
        cases w with
        | true =>
          repeat' ((conv => whnf); first | (with_reducible refine exI (q2 _) ?_) | (with_reducible refine ixJ i rfl ?_ ?_; (focus (omega))) | (refine exI hx ?_) | (refine exI hy ?_) | (first | refine stp ?_ | with_reducible refine condB (fun h => ?_) (fun h => ?_)))
          conv => whnf
          refine ⟨i + 1, ⟨hlt, hat⟩, by show k.length - (i + 1) < k.length - i; omega, FgL.mk [0, 1] rfl ?_ ⟨⟨rfl, rfl, rfl, rfl, BodyGe.pre (rest := []) rfl rfl⟩, ⟨rfl, rfl, rfl, rfl, BodyGe.pre (rest := []) rfl rfl⟩, trivial⟩ rfl⟩
          (repeat (first | exact trivial | refine stw ?_))
        | false =>
          rw [hfalse rfl]
          repeat' ((conv => whnf); first | (with_reducible refine exI (q2 _) ?_) | (with_reducible refine ixJ i rfl ?_ ?_; (focus (omega))) | (refine exI hx ?_) | (refine exI hy ?_) | (first | refine stp ?_ | with_reducible refine condB (fun h => ?_) (fun h => ?_)))
          all_goals rfl
      · have e1 : decide ((i : Int) < (k.length : Int)) = false := by simpa using hlt
        have hi2 : i = k.length := by have := hi; omega
        subst hi2
        rw [List.take_length, hl, List.take_length] at hall
        rw [hall]
        repeat' ((conv => whnf); first | refine stp ?_ | with_reducible refine condB (fun h => ?_) (fun h => ?_))
        all_goals rfl
    · have hw : ((o == o') && ((m == m') && ((s == s') && allB sameE k k'))) = false := by
        by_cases h1 : (o == o') = true
        · by_cases h2 : (m == m') = true
          · by_cases h3 : (s == s') = true
            · rw [allB_len _ _ _ (fun h4 => hh ⟨h1, h2, h3, h4⟩)]; simp
            · simp only [Bool.not_eq_true] at h3; rw [h3]; simp
          · simp only [Bool.not_eq_true] at h2; rw [h2]; simp
        · simp only [Bool.not_eq_true] at h1; rw [h1]; simp
      rw [hw]
      clear hw
      have h4 : k.length = k'.length ↔ ((k.length : Int) == (k'.length : Int)) = true := by rw [beq_iff_eq]; omega
      rw [h4] at hh
      obtain ⟨b1, hb1⟩ : ∃ b1, (o == o') = b1 := ⟨_, rfl⟩
      obtain ⟨b2, hb2⟩ : ∃ b2, (m == m') = b2 := ⟨_, rfl⟩
      obtain ⟨b3, hb3⟩ : ∃ b3, (s == s') = b3 := ⟨_, rfl⟩
      obtain ⟨b4, hb4⟩ : ∃ b4, ((k.length : Int) == (k'.length : Int)) = b4 := ⟨_, rfl⟩
      rw [hb1, hb2, hb3, hb4] at hh
      have n1 := bne_of hb1
      have n2 := bne_of hb2
      have n3 : (!(s == s')) = !b3 := by rw [hb3]
      have n4 := bne_of hb4
      cases b1 <;> cases b2 <;> cases b3 <;> cases b4
      all_goals first | (exact absurd ⟨rfl, rfl, rfl, rfl⟩ hh) | simp only [Bool.not_true, Bool.not_false] at n1 n2 n3 n4
      all_goals (repeat' ((conv => whnf); first | (first | refine stp ?_ | with_reducible refine condB (fun h => ?_) (fun h => ?_))))
      all_goals rfl
/-- The kit's. -/
theorem kexprs_ok (a b : List Ex) (ha : a.length ≤ 9223372036854775807) (each : ∀ x ∈ a, ∀ y ∈ b, ValOK Tryz.prog gl 13 [.agg x.cells, .agg y.cells] (.bool (sameE x y))) : ValOK Tryz.prog gl 30 [exA a, exA b] (.bool (sameL a b)) := by
  obtain ⟨O, hO, p1, -⟩ := fams (P := Tryz.prog) (gl := gl) [famTwo (g := 13) (by kernel_rfl) (fun p => p.1 ∈ a ∧ p.2 ∈ b) (fun p hp => each _ hp.1 _ hp.2)] rfl
  have q1 : ∀ x ∈ a, ∀ y ∈ b, ∀ H, acall Tryz.prog O H 13 [.agg x.cells, .agg y.cells] = some (.bool (sameE x y), H) := fun x hx y hy => p1 (x, y) ⟨hx, hy⟩
  clear p1
  rw [sameL_eq]
  unfold exA
  refine fn_val follows noNum hO Tryz.func30 rfl ?_
  by_cases hl : a.length = b.length
  · have e0 : ((a.length : Int) != (b.length : Int)) = false := bne_of (b := true) (by rw [hl]; simp)
    repeat' ((conv => whnf); first | refine stp ?_ | with_reducible refine condB (fun h => ?_) (fun h => ?_))
    conv => whnf
    refine ⟨Nat, (fun i => i ≤ a.length ∧ allB sameE (a.take i) (b.take i) = true), (fun i => [(0, .rs a.length 4 (exC a)), (1, .rs b.length 4 (exC b)), (5, .int .i64 i)]), (fun _ => []), (fun i => a.length - i), ⟨0, ⟨Nat.zero_le _, rfl⟩, FgL.mk0 rfl ?_⟩, ?_⟩
    · (repeat (first | exact trivial | refine stw ?_))
    rintro i ⟨hi, hall⟩
    dsimp only
    by_cases hlt : i < a.length
    · have e1 : decide ((i : Int) < (a.length : Int)) = true := by simpa using hlt
      have hlt' : i < b.length := by omega
      have hat := allB_take sameE a b i hlt hlt'
      rw [hall, Bool.true_and] at hat
      have hfalse : sameE a[i] b[i] = false → allB sameE a b = false := allB_get sameE hlt hlt'
      have hx := ex4 a i hlt
      have hy := ex4 b i hlt'
      have q2 := q1 a[i] (get_mem hlt) b[i] (get_mem hlt')
      generalize a[i] = x at *
      generalize b[i] = y at *
      generalize sameE x y = w at *
      obtain ⟨o, n, s, k⟩ := x
      obtain ⟨o', n', s', k'⟩ := y
      simp only [Ex.cells] at hx hy q2
      cases w with
      | true =>
        repeat' ((conv => whnf); first | (with_reducible refine exI (q2 _) ?_) | (with_reducible refine ixJ i rfl ?_ ?_; (focus (omega))) | (refine exI hx ?_) | (refine exI hy ?_) | (first | refine stp ?_ | with_reducible refine condB (fun h => ?_) (fun h => ?_)))
        conv => whnf
        refine ⟨i + 1, ⟨hlt, hat⟩, by show a.length - (i + 1) < a.length - i; omega, FgL.mk0 rfl ?_⟩
        (repeat (first | exact trivial | refine stw ?_))
      | false =>
        rw [hfalse rfl]
        repeat' ((conv => whnf); first | (with_reducible refine exI (q2 _) ?_) | (with_reducible refine ixJ i rfl ?_ ?_; (focus (omega))) | (refine exI hx ?_) | (refine exI hy ?_) | (first | refine stp ?_ | with_reducible refine condB (fun h => ?_) (fun h => ?_)))
        all_goals rfl
    · have e1 : decide ((i : Int) < (a.length : Int)) = false := by simpa using hlt
      have hi2 : i = a.length := by have := hi; omega
      subst hi2
      rw [List.take_length, hl, List.take_length] at hall
      rw [hall]
      repeat' ((conv => whnf); first | refine stp ?_ | with_reducible refine condB (fun h => ?_) (fun h => ?_))
      all_goals rfl
  · rw [allB_len _ _ _ hl]
    have e0 : ((a.length : Int) != (b.length : Int)) = true := bne_of (b := false) (by simpa using (fun h => hl (by omega)))
    repeat' ((conv => whnf); first | refine stp ?_ | with_reducible refine condB (fun h => ?_) (fun h => ?_))
    all_goals rfl
theorem kexpr_ok : ∀ (n : Nat) (a b : Ex), sizeE a ≤ n → okE a → ValOK Tryz.prog gl 13 [.agg a.cells, .agg b.cells] (.bool (sameE a b))
  | n, .mk o m s k, .mk o' m' s' k', h, hok => by
    have hk := okE_kids hok
    simp only [Ex.kids, Ex.name, okN] at hk
    simp only [sizeE] at h
    obtain ⟨O, hO, p1, -⟩ := fams (P := Tryz.prog) (gl := gl) [{ I := Unit, f := 30, G := fun _ => True, A := fun _ => [exA k, exA k'], R := fun _ => .bool (sameL k k'), body := (by kernel_rfl), inj := (fun _ _ _ _ _ => rfl), ok := (fun _ _ => ⟨rfl, kexprs_ok k k' hk.1.2 fun x hx y _ => match n, (show 1 ≤ n by omega), h with | n + 1, _, h => kexpr_ok n x y (by have := sizeL_mem _ _ hx; omega) (okL_get hk.2 _ hx)⟩) }] rfl
    have q1 : ∀ H, acall Tryz.prog O H 30 [exA k, exA k'] = some (.bool (sameL k k'), H) := p1 () trivial
    clear p1
    simp only [Ex.cells, exA, sameE] at q1 ⊢
    generalize sameL k k' = w at *
    refine fn_val follows noNum hO Tryz.func13 rfl ?_
    generalize hb1 : (o == o') = b1
    generalize hb2 : (m == m') = b2
    generalize hb3 : (s == s') = b3
    cases b1 <;> cases b2 <;> cases b3 <;> cases w
    all_goals (repeat' ((conv => whnf); first | (with_reducible refine exI (q1 _) ?_) | (first | refine stp ?_ | with_reducible refine condB (fun h => ?_) (fun h => ?_))))
    all_goals (first | rfl | (simp_all [resOf]; done))
end Go.Proofs.YtcbjhdklbhlmhaaGreatDoor.lex
end

/-
  Expressions reckoned, made simple, put into one another (plain functions, plain laws).
-/
section
set_option linter.unusedVariables false
set_option linter.unusedSimpArgs false
namespace Go.Proofs.YtcbjhdklbhlmhaaGreatDoor.lex
open Go.Abs Go.RowKit
set_option maxRecDepth 100000
set_option maxHeartbeats 4000000
/-! numbers in their range -/
mutual
def inE : Ex → Prop
  | .mk _ n _ k => (-9223372036854775808 ≤ n ∧ n ≤ 9223372036854775807) ∧ inL k
def inL : List Ex → Prop
  | [] => True
  | e :: l => inE e ∧ inL l
end
theorem inL_get : ∀ {l : List Ex}, inL l → ∀ e ∈ l, inE e
  | x :: l, h, e, he => by
    simp only [inL] at h
    rcases List.mem_cons.1 he with rfl | he
    · exact h.1
    · exact inL_get h.2 e he
theorem inL_of : ∀ {l : List Ex}, (∀ e ∈ l, inE e) → inL l
  | [], _ => trivial
  | x :: l, h => by simp only [inL]; exact ⟨h x (by simp), inL_of fun e he => h e (by simp [he])⟩
theorem okL_of : ∀ {l : List Ex}, (∀ e ∈ l, okE e) → okL l
  | [], _ => by simp only [okL]
  | x :: l, h => by simp only [okL]; exact ⟨h x (by simp), okL_of fun e he => h e (by simp [he])⟩
/-! registers -/
def getR (s : List UInt8) : List (List UInt8 × Int) → Option Int
  | [] => none
  | (k, v) :: n => bif s == k then some v else getR s n
def putR (s : List UInt8) (v : Int) : List (List UInt8 × Int) → List (List UInt8 × Int)
  | [] => [(s, v)]
  | (k, w) :: n => bif s == k then (s, v) :: n else (k, w) :: putR s v n
def regR (n : List (List UInt8 × Int)) (s : List UInt8) : Int := (getR s n).getD 0
def mpE : Nat → List (List UInt8 × Int) → List (AV × AV × Nat)
  | _, [] => []
  | i, (s, v) :: l => (.str s, .int .i64 v, i) :: mpE (i + 1) l
theorem mp_app (s : List UInt8) (v : Int) : ∀ (a : List (List UInt8 × Int)) (i : Nat), mpE i (a ++ [(s, v)]) = mpE i a ++ [(.str s, .int .i64 v, i + a.length)]
  | [], i => rfl
  | (x, w) :: a, i => by
    simp only [List.cons_append, mpE, mp_app s v a (i + 1), List.length_cons]
    rw [show i + 1 + a.length = i + (a.length + 1) by omega]
theorem mp_none (s : List UInt8) : ∀ (a : List (List UInt8 × Int)) (i j : Nat), getR s a = none → aFind .string (.str s) (mpE i a) j = some none
  | [], i, j, h => rfl
  | (x, w) :: a, i, j, h => by
    simp only [getR] at h
    cases hx : (s == x) with
    | true => rw [hx] at h; cases h
    | false =>
      rw [hx] at h
      simp only [mpE, aFind, aSame, hx]
      exact mp_none s a (i + 1) (j + 1) h
theorem mp_some (s : List UInt8) (v : Int) : ∀ (a : List (List UInt8 × Int)) (i j : Nat), getR s a = some v → ∃ k, aFind .string (.str s) (mpE i a) j = some (some (j + k, .int .i64 v)) ∧ ∀ w, mset (.str s) (.int .i64 w) k (mpE i a) = mpE i (putR s w a)
  | [], i, j, h => by cases h
  | (x, w) :: a, i, j, h => by
    simp only [getR] at h
    cases hx : (s == x) with
    | true =>
      rw [hx] at h
      simp only [cond_true, Option.some.injEq] at h
      subst h
      refine ⟨0, by simp only [mpE, aFind, aSame, hx]; rfl, fun w' => ?_⟩
      simp only [putR, hx, cond_true, mpE]; rfl
    | false =>
      rw [hx] at h
      obtain ⟨k, h1, h2⟩ := mp_some s v a (i + 1) (j + 1) h
      refine ⟨k + 1, ?_, fun w' => ?_⟩
      · simp only [mpE, aFind, aSame, hx]; rw [h1, show j + 1 + k = j + (k + 1) by omega]
      · simp only [putR, hx, cond_false, mpE, mset, h2]
theorem putR_none (s : List UInt8) (v : Int) : ∀ (a : List (List UInt8 × Int)), getR s a = none → putR s v a = a ++ [(s, v)]
  | [], _ => rfl
  | (x, w) :: a, h => by
    simp only [getR] at h
    cases hx : (s == x) with
    | true => rw [hx] at h; cases h
    | false => rw [hx] at h; simp only [putR, hx, cond_false, List.cons_append, putR_none s v a h]
theorem putR_len (s : List UInt8) (v : Int) : ∀ (a : List (List UInt8 × Int)) {w}, getR s a = some w → (putR s v a).length = a.length
  | [], w, h => by cases h
  | (x, u) :: a, w, h => by
    simp only [getR] at h
    cases hx : (s == x) with
    | true => simp only [putR, hx, cond_true, List.length_cons]
    | false => rw [hx] at h; simp only [putR, hx, cond_false, List.length_cons, putR_len s v a h]
theorem getR_put (s : List UInt8) (v : Int) (k : List UInt8) : ∀ a : List (List UInt8 × Int), getR k (putR s v a) = bif k == s then some v else getR k a
  | [] => by simp only [putR, getR]
  | (x, u) :: a => by
    simp only [putR]
    cases hx : (s == x) with
    | true =>
      have : s = x := by simpa using hx
      subst this
      simp only [cond_true, getR]
      cases (k == s) <;> rfl
    | false =>
      simp only [cond_false, getR, getR_put s v k a]
      cases hk : (k == x) with
      | true =>
        have : k = x := by simpa using hk
        subst this
        have : (k == s) = false := by simpa using fun e : k = s => by subst e; simp at hx
        rw [this]; rfl
      | false => simp only [cond_false]
/-! reckoned -/
mutual
def evalE (r : List UInt8 → Int) : Ex → Int
  | .mk op num name kids => bif op == 1 then num else bif op == 2 then r name else (doI op (evalL r kids)).1
def evalL (r : List UInt8 → Int) : List Ex → List Int
  | [] => []
  | e :: l => evalE r e :: evalL r l
end
theorem evalL_map (r : List UInt8 → Int) : ∀ l : List Ex, evalL r l = l.map (evalE r)
  | [] => by simp only [evalL, List.map_nil]
  | e :: l => by simp only [evalL, evalL_map r l, List.map_cons]
/-! made simple -/
def numX (v : Int) : Ex := .mk 1 v [] []
def isX (e : Ex) (n : Int) : Bool := e.op == 1 && e.num == n
def twoS (op : Int) (a b : Ex) : Ex :=
  bif (op == 14 && isX b 0) || ((op == 15 && isX b 0) || ((op == 16 && isX b 1) || ((op == 11 && isX b 0) || (op == 12 && isX b 0)))) then a else
  bif (op == 14 && isX a 0) || ((op == 16 && isX a 1) || ((op == 11 && isX a 0) || (op == 12 && isX a 0))) then b else
  bif (op == 16 || op == 13) && (isX b 0 || isX a 0) then numX 0 else
  bif !(sameE a b) then .mk op 0 [] [a, b] else
  bif op == 7 || op == 10 then numX 1 else
  bif op == 8 || (op == 9 || (op == 12 || op == 15)) then numX 0 else .mk op 0 [] [a, b]
def ruleS (op : Int) : List Ex → Ex
  | [a, b] => twoS op a b
  | k :: l => bif op == 3 && k.op == 3 then (k.kids.headD (numX 0)) else .mk op 0 [] (k :: l)
  | [] => .mk op 0 [] []
def outS (op : Int) (ks : List Ex) : Ex :=
  bif ks.all (fun k => k.op == 1) then (bif decide (0 ≤ (doI op (ks.map Ex.num)).1) then numX (doI op (ks.map Ex.num)).1 else .mk op 0 [] ks) else ruleS op ks
mutual
def simpE : Ex → Ex
  | .mk op num name [] => .mk op num name []
  | .mk op num name (k :: l) => outS op (simpE k :: simpL l)
def simpL : List Ex → List Ex
  | [] => []
  | e :: l => simpE e :: simpL l
end
theorem simpL_map : ∀ l : List Ex, simpL l = l.map simpE
  | [] => by simp only [simpL, List.map_nil]
  | e :: l => by simp only [simpL, simpL_map l, List.map_cons]
theorem simpE_kids (op num : Int) (name : List UInt8) (kids : List Ex) (h : kids ≠ []) : simpE (.mk op num name kids) = outS op (kids.map simpE) := by
  cases kids with
  | nil => exact absurd rfl h
  | cons k l => simp only [simpE, simpL_map, List.map_cons]
/-- The program's way. -/
def outX (op : Int) (ks : List Ex) : Ex :=
  bif ks.all (fun k => k.op == 1) && decide (0 ≤ (doI op (ks.map Ex.num)).1) then numX (doI op (ks.map Ex.num)).1 else ruleS op ks
end Go.Proofs.YtcbjhdklbhlmhaaGreatDoor.lex
end

/-
  Registers, the program's side: a map of names, filled by closures.
-/
section
set_option linter.unusedVariables false
set_option linter.unusedSimpArgs false
namespace Go.Proofs.YtcbjhdklbhlmhaaGreatDoor.lex
open Go.Abs Go.RowKit
set_option maxRecDepth 100000
set_option maxHeartbeats 4000000
/-- The map's entries, in the order in which they came. -/
def rgE : Nat → List (List UInt8) → List (AV × AV × Nat)
  | _, [] => []
  | i, s :: l => (.str s, .agg [], i) :: rgE (i + 1) l
def rgH (n : List (List UInt8)) : AHeap := [⟨true, 0, 0, .map (rgE 0 n) n.length⟩, ⟨true, 1, 0, .cells [.map 0] 72⟩, ⟨true, 2, 0, .cells [.func (.func 49) [] [.ptr 1 0]] 74⟩]
theorem rgE_inj : ∀ {a b : List (List UInt8)} {i : Nat}, rgE i a = rgE i b → a = b
  | [], [], _, _ => rfl
  | [], _ :: _, _, h => by simp [rgE] at h
  | _ :: _, [], _, h => by simp [rgE] at h
  | x :: a, y :: b, i, h => by
    simp only [rgE, List.cons.injEq, Prod.mk.injEq, AV.str.injEq, and_true] at h
    rw [h.1, rgE_inj h.2]
theorem rgH_inj {a b : List (List UInt8)} (h : rgH a = rgH b) : a = b := by
  simp only [rgH, List.cons.injEq, AObj.mk.injEq, ABody.map.injEq, and_true, true_and] at h
  exact rgE_inj h.1
theorem rgE_app (s : List UInt8) : ∀ (a : List (List UInt8)) (i : Nat), rgE i (a ++ [s]) = rgE i a ++ [(.str s, .agg [], i + a.length)]
  | [], i => rfl
  | x :: a, i => by
    simp only [List.cons_append, rgE, rgE_app s a (i + 1), List.length_cons]
    rw [show i + 1 + a.length = i + (a.length + 1) by omega]
theorem rg_find (s : List UInt8) : ∀ (a : List (List UInt8)) (i j : Nat), a.contains s = false → aFind .string (.str s) (rgE i a) j = some none
  | [], i, j, h => rfl
  | x :: a, i, j, h => by
    simp only [List.contains_cons, Bool.or_eq_false_iff] at h
    simp only [rgE, aFind, aSame, h.1]
    exact rg_find s a (i + 1) (j + 1) h.2
theorem rg_found (s : List UInt8) : ∀ (a : List (List UInt8)) (i j : Nat), a.contains s = true → ∃ k v, aFind .string (.str s) (rgE i a) j = some (some (j + k, v)) ∧ mset (.str s) (.agg []) k (rgE i a) = rgE i a
  | [], i, j, h => by simp at h
  | x :: a, i, j, h => by
    simp only [List.contains_cons, Bool.or_eq_true] at h
    cases hx : (s == x) with
    | true =>
      refine ⟨0, .agg [], by simp only [rgE, aFind, aSame, hx]; rfl, ?_⟩
      have : s = x := by simpa using hx
      subst this; rfl
    | false =>
      rw [hx] at h
      obtain ⟨k, v, h1, h2⟩ := rg_found s a (i + 1) (j + 1) (by simpa using h)
      refine ⟨k + 1, v, ?_, ?_⟩
      · simp only [rgE, aFind, aSame, hx]; rw [h1, show j + 1 + k = j + (k + 1) by omega]
      · simp only [rgE, mset, h2]
def rgP (s : List UInt8) (n : List (List UInt8)) : List (List UInt8) := if n.contains s = true then n else n ++ [s]
theorem rg_set (s : List UInt8) (n : List (List UInt8)) : aMapSet Tryz.prog 72 (.map 0) (.str s) (.agg []) (rgH n) = some (rgH (rgP s n)) := by
  have hd : keyDesc Tryz.prog 72 = some (.string, 73) := by kernel_rfl
  have hw : wkil 0 0 (rgH n) = rgH n := wkil_lone (o := ⟨true, 0, 0, .map (rgE 0 n) n.length⟩) rfl rfl
  unfold aMapSet
  simp only [hd]
  have h0 : (rgH n)[0]? = some ⟨true, 0, 0, .map (rgE 0 n) n.length⟩ := rfl
  simp only [h0, hw]
  cases h : n.contains s with
  | false =>
    rw [rg_find s n 0 0 h]
    simp only [rgP, h]
    rw [if_neg (by decide)]
    simp only [rgH, rgE_app, List.set_cons_zero, Nat.zero_add, List.length_append, List.length_cons, List.length_nil]
  | true =>
    obtain ⟨k, v, h1, h2⟩ := rg_found s n 0 0 h
    rw [h1]
    simp only [rgP, h, if_true, Nat.zero_add, h2]
    rfl
theorem rgE_refs : ∀ (n : List (List UInt8)) (i : Nat), refsB (.map (rgE i n) i) [] = []
  | [], i => rfl
  | x :: n, i => rgE_refs n (i + 1)
theorem rgE_ge (m : List Nat) : ∀ (n : List (List UInt8)) (i : Nat), EGe m (rgE i n) (rgE i n)
  | [], i => trivial
  | x :: n, i => ⟨Wk.noref rfl, Wk.noref rfl, rfl, rgE_ge m n (i + 1)⟩
theorem rg_evo (s s' : List (List UInt8)) : evoB 3 (rgH s) (rgH s') = true := by
  have h : ∀ c, refsB (.map (rgE 0 s') c) [] = [] := fun c => rgE_refs s' 0
  simp only [rgH, evoB, h]; rfl
def rgI (d : Int) (_ : List (List UInt8)) (m : Nat) : Prop := 0 ≤ d ∧ d + (m : Int) ≤ 576460752303423488
/-- A name is put. -/
def rgN (s : List UInt8) (n : List (List UInt8)) : List (List UInt8) := cond (s == []) n (rgP s n)
theorem cell_op (x : Ex) (rest : List AV) : tk 1 ((x.cells ++ rest).drop 0) = some [.int .i64 x.op] := by
  obtain ⟨o, n, s, k⟩ := x
  rfl
theorem cell_nm (x : Ex) (rest : List AV) : tk 1 ((x.cells ++ rest).drop 2) = some [.str x.name] := by
  obtain ⟨o, n, s, k⟩ := x
  rfl
theorem rg3_ok (x : St) (rest : List AV) (d : Int) (n : List (List UInt8)) : MemOK Tryz.prog runLives.gl 52 [.rp (x.cells ++ rest), .int .i64 d, .ptr 2 0] (rgH n) (.bool true) (rgH (rgN x.name n)) := by
  have hx := cell_n x rest
  refine fn_mem (k := 3) follows noNum (orcN_sound follows noNum isWordF_sound 3) rfl Tryz.func52 rfl (wcall_ok (isC := fun _ => false) 3) ?_
  have he := rg_evo n (rgN x.name n)
  have hset := rg_set x.name n
  unfold rgN at he ⊢
  generalize x.name = s at *
  generalize x.cells ++ rest = cs at *
  cases hs : (s == []) with
  | true =>
    rw [hs, cond_true] at he
    rw [cond_true]
    have e1 : (!(s == [])) = false := by rw [hs]; rfl
    repeat' ((conv => whnf); first | (refine exI hx ?_) | (first | refine stp ?_ | with_reducible refine condB (fun h => ?_) (fun h => ?_)))
    all_goals (conv => whnf)
    all_goals (exact ⟨rfl, by rw [he]; rfl⟩)
  | false =>
    rw [hs, cond_false] at he
    rw [cond_false]
    have e1 : (!(s == [])) = true := by rw [hs]; rfl
    simp only [rgH] at hset he ⊢
    generalize rgE 0 (rgP s n) = es' at *
    generalize (rgP s n).length = c' at *
    repeat' ((conv => whnf); first | (refine exI hx ?_) | (refine exI hset ?_) | (first | refine stp ?_ | with_reducible refine condB (fun h => ?_) (fun h => ?_)))
    all_goals (conv => whnf)
    all_goals (exact ⟨rfl, by rw [he]; rfl⟩)
end Go.Proofs.YtcbjhdklbhlmhaaGreatDoor.lex
end

/-
  slices.Sorted(maps.Keys(m)) at this program: the keys, rising. Conditions: the map holds texts as keys, at most maxLen of them. The layings were written by the kit's tools lay-iter and lay-plain; the rest is own work.
-/
section
namespace Go.Proofs.YtcbjhdklbhlmhaaGreatDoor.shelf
open Go.Shelf Go.RowKit Go.Maps Go.Sort
def keys54_ren : Go.Shelf.Ren := ⟨fun | 7 => 54 | 10 => 73 | n => n, fun | 23 => 72 | 26 => 9 | 3 => 73 | 28 => 80 | 0 => 0 | 27 => 79 | 33 => 74 | 4 => 4 | n => n, fun | n => n⟩
theorem keys54 : Go.Proofs.SlLaysZ.n7 Tryz.prog keys54_ren := {
  mixed := by kernel_rfl
  f7 := ⟨Tryz.f54.name, by decide, Tryz.func54.trans (congrArg some (by kernel_rfl))⟩
  f10 := ⟨Tryz.f73.name, by decide, Tryz.func73.trans (congrArg some (by kernel_rfl))⟩
  t0 := Tryz.underlying0
  a0 := Tryz.isAgg0
  z0 := Tryz.sizeOf0
  v0 := Tryz.zeroValue0
  t4 := Tryz.underlying4
  a4 := Tryz.isAgg4
  z4 := Tryz.sizeOf4
  v4 := Tryz.zeroValue4
  t23 := Tryz.underlying72
  a23 := Tryz.isAgg72
  z23 := Tryz.sizeOf72
  v23 := Tryz.zeroValue72
  t26 := Tryz.underlying9
  a26 := Tryz.isAgg9
  z26 := Tryz.sizeOf9
  v26 := Tryz.zeroValue9
  t27 := Tryz.underlying79
  a27 := Tryz.isAgg79
  z27 := Tryz.sizeOf79
  v27 := Tryz.zeroValue79
  t28 := Tryz.underlying80
  a28 := Tryz.isAgg80
  z28 := Tryz.sizeOf80
  v28 := Tryz.zeroValue80
  t33 := Tryz.underlying74
  a33 := Tryz.isAgg74
  z33 := Tryz.sizeOf74
  v33 := Tryz.zeroValue74 }
def sorted53_ren : Go.Shelf.Ren := ⟨fun | 6 => 53 | 8 => 71 | 9 => 72 | 11 => 84 | 13 => 86 | 12 => 85 | 23 => 105 | 24 => 106 | 14 => 96 | 15 => 97 | 16 => 98 | 17 => 99 | 18 => 100 | 19 => 101 | 20 => 102 | 21 => 103 | 22 => 104 | 25 => 115 | 26 => 116 | 27 => 117 | 28 => 118 | 29 => 119 | 30 => 120 | 31 => 121 | n => n, fun | 26 => 9 | 28 => 80 | 24 => 25 | 0 => 0 | 3 => 3 | 37 => 117 | 48 => 132 | 50 => 83 | 4 => 4 | 40 => 126 | 39 => 125 | 45 => 111 | 5 => 5 | 9 => 9 | 51 => 138 | 55 => 142 | 57 => 144 | 58 => 145 | 33 => 74 | n => n, fun | n => n⟩
theorem sorted53 : Go.Proofs.SlLaysZ.n6 Tryz.prog sorted53_ren := {
  mixed := by kernel_rfl
  f6 := ⟨Tryz.f53.name, by decide, Tryz.func53.trans (congrArg some (by kernel_rfl))⟩
  f8 := ⟨Tryz.f71.name, by decide, Tryz.func71.trans (congrArg some (by kernel_rfl))⟩
  f11 := ⟨Tryz.f84.name, by decide, Tryz.func84.trans (congrArg some (by kernel_rfl))⟩
  t0 := Tryz.underlying0
  a0 := Tryz.isAgg0
  z0 := Tryz.sizeOf0
  v0 := Tryz.zeroValue0
  t24 := Tryz.underlying25
  a24 := Tryz.isAgg25
  z24 := Tryz.sizeOf25
  v24 := Tryz.zeroValue25
  t26 := Tryz.underlying9
  a26 := Tryz.isAgg9
  z26 := Tryz.sizeOf9
  v26 := Tryz.zeroValue9
  t28 := Tryz.underlying80
  a28 := Tryz.isAgg80
  z28 := Tryz.sizeOf80
  v28 := Tryz.zeroValue80
  i26 := by kernel_rfl }
def sort72_ren : Go.Shelf.Ren := ⟨fun | 6 => 72 | 8 => 86 | 9 => 85 | 19 => 105 | 20 => 106 | 21 => 96 | 22 => 97 | 23 => 98 | 24 => 99 | 25 => 100 | 26 => 101 | 27 => 102 | 28 => 103 | 29 => 104 | 36 => 115 | 31 => 116 | 32 => 117 | 37 => 118 | 38 => 119 | 39 => 120 | 41 => 121 | n => n, fun | 27 => 25 | 29 => 9 | 3 => 3 | 32 => 117 | 26 => 25 | 0 => 0 | 44 => 132 | 46 => 83 | 4 => 4 | 36 => 126 | 35 => 125 | 41 => 111 | 5 => 5 | 9 => 9 | 53 => 138 | 57 => 142 | 63 => 144 | 64 => 145 | n => n, fun | n => n⟩
theorem sort72 : Go.Proofs.SlLaysM.n6 Tryz.prog sort72_ren := {
  mixed := by kernel_rfl
  f6 := ⟨Tryz.f72.name, by decide, Tryz.func72.trans (congrArg some (by kernel_rfl))⟩
  f8 := Tryz.func86.trans (congrArg some (by kernel_rfl))
  f9 := ⟨Tryz.f85.name, by decide, Tryz.func85.trans (congrArg some (by kernel_rfl))⟩
  f19 := Tryz.func105.trans (congrArg some (by kernel_rfl))
  f20 := Tryz.func106.trans (congrArg some (by kernel_rfl))
  f21 := ⟨Tryz.f96.name, by decide, Tryz.func96.trans (congrArg some (by kernel_rfl))⟩
  f22 := ⟨Tryz.f97.name, by decide, Tryz.func97.trans (congrArg some (by kernel_rfl))⟩
  f23 := ⟨Tryz.f98.name, by decide, Tryz.func98.trans (congrArg some (by kernel_rfl))⟩
  f24 := ⟨Tryz.f99.name, by decide, Tryz.func99.trans (congrArg some (by kernel_rfl))⟩
  f25 := ⟨Tryz.f100.name, by decide, Tryz.func100.trans (congrArg some (by kernel_rfl))⟩
  f26 := ⟨Tryz.f101.name, by decide, Tryz.func101.trans (congrArg some (by kernel_rfl))⟩
  f27 := ⟨Tryz.f102.name, by decide, Tryz.func102.trans (congrArg some (by kernel_rfl))⟩
  f28 := ⟨Tryz.f103.name, by decide, Tryz.func103.trans (congrArg some (by kernel_rfl))⟩
  f29 := ⟨Tryz.f104.name, by decide, Tryz.func104.trans (congrArg some (by kernel_rfl))⟩
  f31 := Tryz.func116.trans (congrArg some (by kernel_rfl))
  f32 := Tryz.func117.trans (congrArg some (by kernel_rfl))
  f36 := ⟨Tryz.f115.name, by decide, Tryz.func115.trans (congrArg some (by kernel_rfl))⟩
  f37 := ⟨Tryz.f118.name, by decide, Tryz.func118.trans (congrArg some (by kernel_rfl))⟩
  f38 := ⟨Tryz.f119.name, by decide, Tryz.func119.trans (congrArg some (by kernel_rfl))⟩
  f39 := ⟨Tryz.f120.name, by decide, Tryz.func120.trans (congrArg some (by kernel_rfl))⟩
  f41 := ⟨Tryz.f121.name, by decide, Tryz.func121.trans (congrArg some (by kernel_rfl))⟩
  t0 := Tryz.underlying0
  a0 := Tryz.isAgg0
  z0 := Tryz.sizeOf0
  v0 := Tryz.zeroValue0
  t3 := Tryz.underlying3
  a3 := Tryz.isAgg3
  z3 := Tryz.sizeOf3
  v3 := Tryz.zeroValue3
  t4 := Tryz.underlying4
  a4 := Tryz.isAgg4
  z4 := Tryz.sizeOf4
  v4 := Tryz.zeroValue4
  t5 := Tryz.underlying5
  a5 := Tryz.isAgg5
  z5 := Tryz.sizeOf5
  v5 := Tryz.zeroValue5
  t9 := Tryz.underlying9
  a9 := Tryz.isAgg9
  z9 := Tryz.sizeOf9
  v9 := Tryz.zeroValue9
  t26 := Tryz.underlying25
  a26 := Tryz.isAgg25
  z26 := Tryz.sizeOf25
  v26 := Tryz.zeroValue25
  t27 := Tryz.underlying25
  a27 := Tryz.isAgg25
  z27 := Tryz.sizeOf25
  v27 := Tryz.zeroValue25
  t29 := Tryz.underlying9
  a29 := Tryz.isAgg9
  z29 := Tryz.sizeOf9
  v29 := Tryz.zeroValue9
  t32 := Tryz.underlying117
  a32 := Tryz.isAgg117
  z32 := Tryz.sizeOf117
  v32 := Tryz.zeroValue117
  t35 := Tryz.underlying125
  a35 := Tryz.isAgg125
  z35 := Tryz.sizeOf125
  v35 := Tryz.zeroValue125
  t36 := Tryz.underlying126
  a36 := Tryz.isAgg126
  z36 := Tryz.sizeOf126
  v36 := Tryz.zeroValue126
  t41 := Tryz.underlying111
  a41 := Tryz.isAgg111
  z41 := Tryz.sizeOf111
  v41 := Tryz.zeroValue111
  t44 := Tryz.underlying132
  a44 := Tryz.isAgg132
  z44 := Tryz.sizeOf132
  v44 := Tryz.zeroValue132
  t46 := Tryz.underlying83
  a46 := Tryz.isAgg83
  z46 := Tryz.sizeOf83
  v46 := Tryz.zeroValue83
  t53 := Tryz.underlying138
  a53 := Tryz.isAgg138
  z53 := Tryz.sizeOf138
  v53 := Tryz.zeroValue138
  t57 := Tryz.underlying142
  a57 := Tryz.isAgg142
  z57 := Tryz.sizeOf142
  v57 := Tryz.zeroValue142
  t63 := Tryz.underlying144
  a63 := Tryz.isAgg144
  z63 := Tryz.sizeOf144
  v63 := Tryz.zeroValue144
  t64 := Tryz.underlying145
  a64 := Tryz.isAgg145
  z64 := Tryz.sizeOf145
  v64 := Tryz.zeroValue145 }

/-- slices.Sort's two contracts at this dump. -/
theorem sorts (m : Nat) : AnyZ.SortsIn Tryz.prog sorted53_ren Fence.wide m :=
  ⟨fun blk off cap ss W hH hblk hsz => callsIn_wide.2 (AnyM.slices_Sort_string sort72 blk off cap ss W hH hblk hsz),
   fun p cap W => callsIn_wide.2 (AnyM.slices_Sort_string_none sort72 p cap W)⟩

set_option maxHeartbeats 1000000 in
theorem sortsKeys : Go.Abs.SortsKeys Tryz.prog 53 73 9 := by
  intro Bm b nn D0 R W hcell hown hmax hbytes
  have hBm : Bm < W.heap.size := by
    by_cases h : Bm < W.heap.size
    · exact h
    · have h2 : W.heap[Bm]? = none := Array.getElem?_eq_none (by omega)
      simp [World.cell?, h2] at hcell
  have hseq : SeqGives Fence.wide 2 Tryz.prog 73 #[.pointer (some ⟨Bm, 0, none⟩)] encStr (fun ss => ss.Perm (strKeys D0)) (Maps.size D0) W :=
    AnyZ.keys_gives (ρ := keys54_ren) { keys54 with } Fence.wide _ trivial rfl (by omega) Bm b nn D0 W hBm hcell hown
  exact callsIn_wide.1 (AnyZ.sorted_in sorted53 Fence.wide 5 trivial trivial trivial trivial rfl (by omega) (sorts _) (enters_of Tryz.func72 (by kernel_rfl) rfl) 73 #[.pointer (some ⟨Bm, 0, none⟩)] trivial (enters_of Tryz.func73 (by kernel_rfl) rfl) _ _ hmax hbytes W hseq)
theorem keyT : Tryz.prog.underlying 9 = some .string := by kernel_rfl
/-- The contract, for runs. -/
theorem sound {gl : Go.Abs.Glob} : Go.Abs.OrcSound Tryz.prog gl (Go.Abs.sortO 53 73) := Go.Abs.sortO_sound sortsKeys keyT
end Go.Proofs.YtcbjhdklbhlmhaaGreatDoor.shelf
end

/-
  Registers: what the program's Regs hands back.
-/
section
set_option linter.unusedVariables false
set_option linter.unusedSimpArgs false
namespace Go.Proofs.YtcbjhdklbhlmhaaGreatDoor.lex
open Go.Abs Go.RowKit
set_option maxRecDepth 100000
set_option maxHeartbeats 4000000
theorem rg2_ok (x : Ex) (rest : List AV) (d : Int) (n : List (List UInt8)) : MemOK Tryz.prog runLives.gl 51 [.rp (x.cells ++ rest), .int .i64 d, .ptr 2 0] (rgH n) (.bool true) (rgH (cond (x.op == 2) (rgN x.name n) n)) := by
  have hx := cell_op x rest
  have hx2 := cell_nm x rest
  refine fn_mem (k := 3) follows noNum (orcN_sound follows noNum isWordF_sound 3) rfl Tryz.func51 rfl (wcall_ok (isC := fun _ => false) 3) ?_
  have he := rg_evo n (cond (x.op == 2) (rgN x.name n) n)
  have hset := rg_set x.name n
  unfold rgN at he ⊢
  generalize x.name = s at *
  generalize x.op = o at *
  generalize x.cells ++ rest = cs at *
  cases ho : (o == 2) with
  | false =>
    rw [ho, cond_false] at he
    rw [cond_false]
    have e1 : (o != 2) = true := bne_of (b := false) ho
    repeat' ((conv => whnf); first | (refine exI hx ?_) | (refine exI hx2 ?_) | (first | refine stp ?_ | with_reducible refine condB (fun h => ?_) (fun h => ?_)))
    all_goals (conv => whnf)
    all_goals (exact ⟨rfl, by rw [he]; rfl⟩)
  | true =>
    rw [ho, cond_true] at he
    rw [cond_true]
    have e0 : (o != 2) = false := bne_of (b := true) ho
    cases hs : (s == []) with
    | true =>
      rw [hs, cond_true] at he
      rw [cond_true]
      have e1 : (!(s == [])) = false := by rw [hs]; rfl
      repeat' ((conv => whnf); first | (refine exI hx ?_) | (refine exI hx2 ?_) | (first | refine stp ?_ | with_reducible refine condB (fun h => ?_) (fun h => ?_)))
      all_goals (conv => whnf)
      all_goals (exact ⟨rfl, by rw [he]; rfl⟩)
    | false =>
      rw [hs, cond_false] at he
      rw [cond_false]
      have e1 : (!(s == [])) = true := by rw [hs]; rfl
      simp only [rgH] at hset he ⊢
      generalize rgE 0 (rgP s n) = es' at *
      generalize (rgP s n).length = c' at *
      repeat' ((conv => whnf); first | (refine exI hx ?_) | (refine exI hx2 ?_) | (refine exI hset ?_) | (first | refine stp ?_ | with_reducible refine condB (fun h => ?_) (fun h => ?_)))
      all_goals (conv => whnf)
      all_goals (exact ⟨rfl, by rw [he]; rfl⟩)
def rgEf (x : Ex) (_ : Int) (n : List (List UInt8)) : Bool × List (List UInt8) := (true, cond (x.op == 2) (rgN x.name n) n)
def rgSf (x : St) (_ : Int) (n : List (List UInt8)) : Bool × List (List UInt8) := (true, rgN x.name n)
def rgV : TvS runLives.gl where
  σ := List (List UInt8)
  Mem := rgH
  k := 3
  len := fun _ => rfl
  same := fun s => ⟨⟨⟨rfl, rfl, rfl, rfl, ⟨rfl, rgE_ge _ s 0⟩⟩, ⟨rfl, rfl, rfl, rfl, BodyGe.cellsL ⟨Wk.map rfl, trivial⟩⟩, ⟨rfl, rfl, rfl, rfl, BodyGe.cellsL ⟨Wk.func trivial ⟨Wk.ptr rfl rfl, trivial⟩, trivial⟩⟩, trivial⟩, rfl, rfl⟩
  evo := fun s s' => rg_evo s s'
  inj := fun _ _ h => rgH_inj h
  I := rgI
  up := fun d s m h0 h => ⟨h0, by have := h.2; omega⟩
  less := fun d s m h => ⟨h.1, by have := h.2; omega⟩
  bnd := fun d s m h => ⟨h.1, by have := h.2; omega⟩
  gE := 51
  cE := [.ptr 2 0]
  hE := rgEf
  bodyE := by kernel_rfl
  wkE := ⟨Wk.ptr rfl rfl, trivial⟩
  okE := fun e rest d s m _ h => rg2_ok e rest d s
  downE := fun e d s m h _ => ⟨by have := h.1; omega, by have := h.2; omega⟩
  gS := 52
  cS := [.ptr 2 0]
  hS := rgSf
  bodyS := by kernel_rfl
  wkS := ⟨Wk.ptr rfl rfl, trivial⟩
  okS := fun x rest d s m _ h => rg3_ok x rest d s
  downS := fun e d s m h _ => ⟨by have := h.1; omega, by have := h.2; omega⟩
/-! the names, in the order of the walk -/
mutual
def nmE : Ex → List (List UInt8)
  | .mk o _ s k => (cond (o == 2 && !(s == [])) [s] []) ++ nmL k
def nmL : List Ex → List (List UInt8)
  | [] => []
  | e :: l => nmE e ++ nmL l
end
mutual
def nmS : St → List (List UInt8)
  | .mk _ n _ _ x t e => (cond (!(n == [])) [n] []) ++ (nmL x ++ (nmSL t ++ nmSL e))
def nmSL : List St → List (List UInt8)
  | [] => []
  | x :: l => nmS x ++ nmSL l
end
/-- All of them put. -/
def addA (l : List (List UInt8)) (n : List (List UInt8)) : List (List UInt8) := l.foldl (fun n s => rgP s n) n
theorem addA_app (a b n : List (List UInt8)) : addA (a ++ b) n = addA b (addA a n) := List.foldl_append
theorem rgN_add (b : Bool) (s : List UInt8) (n : List (List UInt8)) : cond b (rgN s n) n = addA (cond (b && !(s == [])) [s] []) n := by
  unfold rgN
  cases b <;> cases (s == []) <;> rfl
mutual
theorem goE_rg : ∀ (e : Ex) (d : Int) (n : List (List UInt8)), goE rgEf e d n = (true, addA (nmE e) n)
  | .mk o m s k, d, n => by
    simp only [goE, rgEf, if_true, Ex.op, Ex.name]
    rw [goL_rg k (d + 1), rgN_add, nmE, addA_app]
theorem goL_rg : ∀ (l : List Ex) (d : Int) (n : List (List UInt8)), goL rgEf l d n = (true, addA (nmL l) n)
  | [], d, n => by simp only [goL, nmL]; rfl
  | e :: l, d, n => by
    simp only [goL, goE_rg e d n, if_true, goL_rg l d, nmL, addA_app]
end
mutual
theorem goS_rg : ∀ (x : St) (d : Int) (n : List (List UInt8)), goS rgEf rgSf x d n = (true, addA (nmS x) n)
  | .mk k m lc o x t e, d, n => by
    have h := rgN_add true m n
    simp only [cond_true, Bool.true_and] at h
    simp only [goS]
    rw [show rgSf (.mk k m lc o x t e) d n = (true, rgN m n) from rfl, h]
    simp only [thenB, goL_rg, if_true, goSL_rg t, goSL_rg e, nmS, addA_app]
theorem goSL_rg : ∀ (l : List St) (d : Int) (n : List (List UInt8)), goSL rgEf rgSf l d n = (true, addA (nmSL l) n)
  | [], d, n => by simp only [goSL, nmSL]; rfl
  | e :: l, d, n => by
    simp only [goSL, thenB, goS_rg e d n, if_true, goSL_rg l d, nmSL, addA_app]
end
theorem rgP_nodup {s : List UInt8} {n : List (List UInt8)} (h : n.Nodup) : (rgP s n).Nodup := by
  unfold rgP
  split
  · exact h
  · rename_i hc
    have hm : s ∉ n := by simpa using hc
    exact List.nodup_append.2 ⟨h, by simp, fun a ha b hb => by simp at hb; subst hb; exact fun e => hm (e ▸ ha)⟩
theorem addA_nodup : ∀ (l n : List (List UInt8)), n.Nodup → (addA l n).Nodup
  | [], n, h => h
  | s :: l, n, h => addA_nodup l (rgP s n) (rgP_nodup h)
theorem rgP_mem {s x : List UInt8} {n : List (List UInt8)} : x ∈ rgP s n ↔ x ∈ n ∨ x = s := by
  unfold rgP
  split
  · rename_i hc
    have hm : s ∈ n := by simpa using hc
    exact ⟨.inl, fun h => h.elim id (fun e => e ▸ hm)⟩
  · simp
theorem addA_mem {x : List UInt8} : ∀ {l n : List (List UInt8)}, x ∈ addA l n ↔ x ∈ n ∨ x ∈ l
  | [], n => by simp [addA]
  | s :: l, n => by
    have := addA_mem (x := x) (l := l) (n := rgP s n)
    rw [rgP_mem] at this
    show x ∈ addA l (rgP s n) ↔ _
    rw [this]; simp only [List.mem_cons]; exact or_assoc
theorem addA_len : ∀ (l n : List (List UInt8)), (addA l n).length ≤ n.length + l.length
  | [], n => by simp [addA]
  | s :: l, n => by
    have := addA_len l (rgP s n)
    have h2 : (rgP s n).length ≤ n.length + 1 := by unfold rgP; split <;> simp
    show (addA l (rgP s n)).length ≤ _
    simp only [List.length_cons]; omega
mutual
theorem nmE_len : ∀ e : Ex, (nmE e).length ≤ sizeE e
  | .mk o m s k => by
    have := nmL_len k
    simp only [nmE, sizeE, List.length_append]
    cases (o == 2 && !(s == [])) <;> simp <;> omega
theorem nmL_len : ∀ l : List Ex, (nmL l).length ≤ sizeL l
  | [] => by simp [nmL]
  | e :: l => by have := nmE_len e; have := nmL_len l; simp only [nmL, sizeL, List.length_append]; omega
end
mutual
theorem nmS_len : ∀ e : St, (nmS e).length ≤ sizeS e
  | .mk k n lc o x t e => by
    have := nmL_len x; have := nmSL_len t; have := nmSL_len e
    simp only [nmS, sizeS, List.length_append]
    cases (!(n == [])) <;> simp <;> omega
theorem nmSL_len : ∀ l : List St, (nmSL l).length ≤ sizeSL l
  | [] => by simp [nmSL]
  | e :: l => by have := nmS_len e; have := nmSL_len l; simp only [nmSL, sizeSL, List.length_append]; omega
end
mutual
theorem nmE_ok : ∀ {e : Ex}, okE e → ∀ x ∈ nmE e, x.length ≤ 9223372036854775807
  | .mk o m s k, h, x, hx => by
    have h1 := okE_kids h
    simp only [Ex.name, Ex.kids, okN] at h1
    simp only [nmE, List.mem_append] at hx
    rcases hx with hx | hx
    · cases hb : (o == 2 && !(s == [])) with
      | true => rw [hb] at hx; simp at hx; subst hx; exact h1.1.1
      | false => rw [hb] at hx; simp at hx
    · exact nmL_ok h1.2 x hx
theorem nmL_ok : ∀ {l : List Ex}, okL l → ∀ x ∈ nmL l, x.length ≤ 9223372036854775807
  | [], h, x, hx => by simp [nmL] at hx
  | e :: l, h, x, hx => by
    simp only [nmL, List.mem_append] at hx
    rcases hx with hx | hx
    · exact nmE_ok (okL_get h e (by simp)) x hx
    · exact nmL_ok (by simp only [okL] at h; exact h.2) x hx
end
mutual
theorem nmS_ok : ∀ {e : St}, okS e → ∀ x ∈ nmS e, x.length ≤ 9223372036854775807
  | .mk k n lc o ex t e, h, x, hx => by
    obtain ⟨k1, k2, k3, k4, k5, k6, k7, k8⟩ := okS_parts h
    simp only [St.name, St.exprs, St.thn, St.els] at *
    simp only [nmS, List.mem_append] at hx
    rcases hx with hx | hx | hx | hx
    · cases hb : (!(n == [])) with
      | true => rw [hb] at hx; simp at hx; subst hx; exact k1
      | false => rw [hb] at hx; simp at hx
    · exact nmL_ok k6 x hx
    · exact nmSL_ok k7 x hx
    · exact nmSL_ok k8 x hx
theorem nmSL_ok : ∀ {l : List St}, okSL l → ∀ x ∈ nmSL l, x.length ≤ 9223372036854775807
  | [], h, x, hx => by simp [nmSL] at hx
  | e :: l, h, x, hx => by
    simp only [nmSL, List.mem_append] at hx
    rcases hx with hx | hx
    · exact nmS_ok (okSL_get h e (by simp)) x hx
    · exact nmSL_ok (by simp only [okSL] at h; exact h.2) x hx
end
theorem strsE_rg : ∀ (n : List (List UInt8)) (i : Nat), strsE (rgE i n) = some n
  | [], i => rfl
  | x :: n, i => by simp only [rgE, strsE, strsE_rg n (i + 1)]
theorem born_rg : ∀ (n : List (List UInt8)) (i : Nat), (rgE i n).map (·.2.2) = (List.range' i n.length)
  | [], i => rfl
  | x :: n, i => by simp only [rgE, List.map_cons, born_rg n (i + 1), List.length_cons, List.range'_succ]
theorem rg_keys {n : List (List UInt8)} (h1 : n.Nodup) (h2 : ∀ x ∈ n, x.length ≤ 9223372036854775807) (h3 : n.length ≤ 1000000) : okKeys n (rgE 0 n) n.length = true := by
  unfold okKeys
  simp only [born_rg, Bool.and_eq_true, decide_eq_true_eq]
  refine ⟨h1, h2, List.nodup_range', ?_, by simpa using h3⟩
  rw [List.all_eq_true]
  intro b hb
  have := List.mem_range'_1.1 hb
  simp only [decide_eq_true_eq]; omega
end Go.Proofs.YtcbjhdklbhlmhaaGreatDoor.lex
end

/-
  Registers: the document's lists of them.
-/
section
set_option linter.unusedVariables false
set_option linter.unusedSimpArgs false
namespace Go.Proofs.YtcbjhdklbhlmhaaGreatDoor.lex
open Go.Abs Go.RowKit
set_option maxRecDepth 100000
set_option maxHeartbeats 4000000
variable {gl : Glob}
def strC (l : List (List UInt8)) : List AV := l.map AV.str
theorem strC_len (l : List (List UInt8)) : (strC l).length = l.length * 1 := by simp [strC]
theorem strC_cons (x : List UInt8) (l : List (List UInt8)) : (strC (x :: l)).length = (l.length + 1) * 1 := by simp [strC]
theorem strC_app (a b : List (List UInt8)) : strC (a ++ b) = strC a ++ strC b := by simp [strC]
theorem strC_lit : ∀ l : List (List UInt8), (strC l).all lit = true
  | [] => rfl
  | x :: l => strC_lit l
theorem strC_refs (l : List (List UInt8)) : refsL (strC l) [] = [] := strs_refs l []
theorem nmL_take : ∀ (l : List Ex) (i : Nat) (h : i < l.length), nmL (l.take (i + 1)) = nmL (l.take i) ++ nmE l[i]
  | e :: l, 0, h => by simp [nmL]
  | e :: l, i + 1, h => by
    have := nmL_take l i (by simpa using h)
    simp only [List.take_succ_cons, nmL, List.getElem_cons_succ] at this ⊢
    rw [this, List.append_assoc]
theorem nmL_take_len (l : List Ex) (i : Nat) : (nmL (l.take i)).length ≤ (nmL l).length := by
  have h : nmL l = nmL (l.take i) ++ nmL (l.drop i) := by
    have hg : ∀ a b : List Ex, nmL (a ++ b) = nmL a ++ nmL b := by
      intro a b
      induction a with
      | nil => rfl
      | cons x a ih => simp only [List.cons_append, nmL, ih, List.append_assoc]
    rw [← hg, List.take_append_drop]
  rw [h, List.length_append]; omega
theorem regsR_ok : ∀ (n : Nat) (e : Ex), sizeE e ≤ n → okE e → sizeE e ≤ 1048576 → ValOK Tryz.prog gl 74 [.agg e.cells] (rsK (nmE e))
  | n, e, h, hok, hs => by
    obtain ⟨O, hO, p1, -⟩ := fams (P := Tryz.prog) (gl := gl) [{ I := Ex, f := 74, G := fun x => sizeE x < n ∧ okE x ∧ sizeE x ≤ 1048576, A := fun x => [.agg x.cells], R := fun x => rsK (nmE x), body := (by kernel_rfl), inj := (fun i j _ _ h => by rw [agg_inj h]), ok := (fun x hx => ⟨ex_refs x, match n, hx.1 with | n + 1, h => regsR_ok n x (by omega) hx.2.1 hx.2.2⟩) }] rfl
    have q1 : ∀ x, sizeE x < n → okE x → sizeE x ≤ 1048576 → ∀ H, acall Tryz.prog O H 74 [.agg x.cells] = some (.rs (nmE x).length 1 (strC (nmE x)), H) := fun x h1 h2 h3 => p1 x ⟨h1, h2, h3⟩
    clear p1
    have hT : appT Tryz.prog 25 25 = some (9, 1, 16) := by kernel_rfl
    obtain ⟨op, num, name, kids⟩ := e
    have hk := okE_kids hok
    simp only [Ex.kids, Ex.name, okN] at hk
    have hnl := nmE_len (.mk op num name kids)
    simp only [sizeE] at h hs hnl
    simp only [nmE, List.length_append] at hnl ⊢
    simp only [Ex.cells, exA, rsK]
    refine fn_valN follows noNum hO Tryz.func74 rfl ?_
    generalize hpre : (cond (op == 2 && !(name == [])) [name] []) = pre at *
    cases ho : (op == 2) with
    | false =>
      rw [ho] at hpre
      simp only [Bool.false_and, cond_false] at hpre
      repeat' ((conv => whnf); first | refine stp ?_ | with_reducible refine condB (fun h => ?_) (fun h => ?_))
      conv => whnf
      refine ⟨Nat, (fun i => i ≤ kids.length), (fun i => [(1, .ptr 0 0), (3, grA 1 1 (pre ++ nmL (kids.take i))), (4, .int .i64 i)]), (fun i => ⟨true, 0, 0, .cells [.int .i64 op, .int .i64 num, .str name, .rs kids.length 4 (exC kids)] 24⟩ :: grB 1 strC 9 (pre ++ nmL (kids.take i))), (fun i => kids.length - i), ⟨0, Nat.zero_le _, ?_⟩, ?_⟩
      · subst hpre
        exact FgL.mk [0] rfl ⟨Wk.ptr rfl rfl, Wk.noref rfl, Wk.int rfl, trivial⟩ ⟨⟨rfl, rfl, rfl, rfl, BodyGe.pre (rest := []) rfl rfl⟩, trivial⟩ rfl
      intro i hi
      dsimp only
      have hle := nmL_take_len kids i
      by_cases hlt : i < kids.length
      · have e1 : decide ((i : Int) < (kids.length : Int)) = true := by simpa using hlt
        have hx := ex4 kids i hlt
        have hsz := sizeL_mem _ _ (get_mem hlt)
        have hlr := nmE_len kids[i]
        have q2 := q1 kids[i] (by omega) (okL_get hk.2 _ (get_mem hlt)) (by omega)
        have hnx : pre ++ nmL (kids.take (i + 1)) = (pre ++ nmL (kids.take i)) ++ nmE kids[i] := by rw [nmL_take kids i hlt, List.append_assoc]
        have hlo : (pre ++ nmL (kids.take i)).length ≤ 2097152 := by rw [List.length_append]; omega
        generalize pre ++ nmL (kids.take i) = o at *
        generalize hr : nmE kids[i] = r at *
        generalize kids[i] = x at *
        obtain ⟨xo, xn, xs, xk⟩ := x
        simp only [Ex.cells] at hx q2
        cases o with
        | nil =>
          cases r with
          | nil =>
            repeat' ((conv => whnf); first | (with_reducible refine exI (q2 _) ?_) | (with_reducible refine ixJ i rfl ?_ ?_; (focus (omega))) | (refine exI hx ?_) | (refine apS ?_) | (first | refine stp ?_ | with_reducible refine condB (fun h => ?_) (fun h => ?_)))
            conv => whnf
            refine ⟨i + 1, hlt, by show kids.length - (i + 1) < kids.length - i; omega, ?_⟩
            rw [hnx]
            exact FgL.mk [0] rfl ⟨Wk.ptr rfl rfl, Wk.noref rfl, Wk.int rfl, trivial⟩ ⟨⟨rfl, rfl, rfl, rfl, BodyGe.pre (rest := []) rfl rfl⟩, trivial⟩ rfl
          | cons y r =>
            simp only [List.length_cons] at hlr
            repeat' ((conv => whnf); first | (with_reducible refine exI (q2 _) ?_) | (with_reducible refine ixJ i rfl ?_ ?_; (focus (omega))) | (refine exI hx ?_) | (refine apS ?_) | (first | refine stp ?_ | with_reducible refine condB (fun h => ?_) (fun h => ?_)))
            conv => whnf
            refine ⟨i + 1, hlt, by show kids.length - (i + 1) < kids.length - i; omega, ?_⟩
            rw [hnx]
            exact FgL.mk [0, 1] rfl ⟨Wk.ptr rfl rfl, Wk.slice rfl rfl rfl (Nat.le_refl _) (Nat.le_refl _) rfl, Wk.int rfl, trivial⟩ ⟨⟨rfl, rfl, rfl, rfl, BodyGe.pre (rest := []) rfl rfl⟩, ⟨rfl, rfl, rfl, rfl, BodyGe.pre (rest := []) (by simp [strC]) (strC_refs _)⟩, trivial⟩ rfl
        | cons z o =>
          have hcl := strC_cons z o
          simp only [List.length_cons] at hlo
          cases r with
          | nil =>
            repeat' ((conv => whnf); first | (with_reducible refine exI (q2 _) ?_) | (with_reducible refine ixJ i rfl ?_ ?_; (focus (omega))) | (refine exI hx ?_) | (refine apS ?_) | (first | refine stp ?_ | with_reducible refine condB (fun h => ?_) (fun h => ?_)))
            conv => whnf
            refine ⟨i + 1, hlt, by show kids.length - (i + 1) < kids.length - i; omega, ?_⟩
            rw [hnx, List.append_nil]
            exact FgL.mk [0, 1] rfl ⟨Wk.ptr rfl rfl, Wk.slice rfl rfl rfl (Nat.le_refl _) (Nat.le_refl _) rfl, Wk.int rfl, trivial⟩ ⟨⟨rfl, rfl, rfl, rfl, BodyGe.pre (rest := []) rfl rfl⟩, ⟨rfl, rfl, rfl, rfl, BodyGe.pre (rest := []) (by simp) (strC_refs _)⟩, trivial⟩ rfl
          | cons y r =>
            have hon := strs_one (y :: r)
            simp only [List.length_cons] at hlr
            repeat' ((conv => whnf); first | (with_reducible refine exI (q2 _) ?_) | (with_reducible refine ixJ i rfl ?_ ?_; (focus (omega))) | (refine exI hx ?_) | (refine apS ?_) | (first | refine stp ?_ | with_reducible refine condB (fun h => ?_) (fun h => ?_)))
            conv => whnf
            refine ⟨i + 1, hlt, by show kids.length - (i + 1) < kids.length - i; omega, ?_⟩
            rw [hnx]
            exact FgL.mk [0, 2] rfl ⟨Wk.ptr rfl rfl, Wk.slice rfl rfl (by simp; omega) (Nat.le_refl _) (by simp; omega) rfl, Wk.int rfl, trivial⟩ ⟨⟨rfl, rfl, rfl, rfl, BodyGe.pre (rest := []) rfl rfl⟩, ⟨rfl, rfl, rfl, rfl, BodyGe.pre (rest := []) (by simp [strC]) (strC_refs _)⟩, trivial⟩ rfl
      · have e1 : decide ((i : Int) < (kids.length : Int)) = false := by simpa using hlt
        have hi2 : i = kids.length := by have := hi; omega
        subst hi2
        rw [List.take_length] at hle ⊢
        generalize pre ++ nmL kids = o at *
        cases o with
        | nil =>
          repeat' ((conv => whnf); first | refine stp ?_ | with_reducible refine condB (fun h => ?_) (fun h => ?_))
          all_goals exact .inr ⟨rfl, _, rfl⟩
        | cons z o =>
          repeat' ((conv => whnf); first | refine stp ?_ | with_reducible refine condB (fun h => ?_) (fun h => ?_))
          conv => whnf
          exact ⟨_, frz_slice (b := 1) rfl (strC_cons z o) (strC_lit (z :: o)), .inl rfl⟩
    | true =>
      rw [ho] at hpre
      cases hs2 : (name == []) with
      | true =>
        rw [hs2] at hpre
        simp only [Bool.not_true, Bool.and_false, cond_false] at hpre
        have e2 : (!(name == [])) = false := by rw [hs2]; rfl
        repeat' ((conv => whnf); first | refine stp ?_ | with_reducible refine condB (fun h => ?_) (fun h => ?_))
        conv => whnf
        refine ⟨Nat, (fun i => i ≤ kids.length), (fun i => [(1, .ptr 0 0), (3, grA 1 1 (pre ++ nmL (kids.take i))), (4, .int .i64 i)]), (fun i => ⟨true, 0, 0, .cells [.int .i64 op, .int .i64 num, .str name, .rs kids.length 4 (exC kids)] 24⟩ :: grB 1 strC 9 (pre ++ nmL (kids.take i))), (fun i => kids.length - i), ⟨0, Nat.zero_le _, ?_⟩, ?_⟩
        · subst hpre
          exact FgL.mk [0] rfl ⟨Wk.ptr rfl rfl, Wk.noref rfl, Wk.int rfl, trivial⟩ ⟨⟨rfl, rfl, rfl, rfl, BodyGe.pre (rest := []) rfl rfl⟩, trivial⟩ rfl
        intro i hi
        dsimp only
        have hle := nmL_take_len kids i
        by_cases hlt : i < kids.length
        · have e1 : decide ((i : Int) < (kids.length : Int)) = true := by simpa using hlt
          have hx := ex4 kids i hlt
          have hsz := sizeL_mem _ _ (get_mem hlt)
          have hlr := nmE_len kids[i]
          have q2 := q1 kids[i] (by omega) (okL_get hk.2 _ (get_mem hlt)) (by omega)
          have hnx : pre ++ nmL (kids.take (i + 1)) = (pre ++ nmL (kids.take i)) ++ nmE kids[i] := by rw [nmL_take kids i hlt, List.append_assoc]
          have hlo : (pre ++ nmL (kids.take i)).length ≤ 2097152 := by rw [List.length_append]; omega
          generalize pre ++ nmL (kids.take i) = o at *
          generalize hr : nmE kids[i] = r at *
          generalize kids[i] = x at *
          obtain ⟨xo, xn, xs, xk⟩ := x
          simp only [Ex.cells] at hx q2
          cases o with
          | nil =>
            cases r with
            | nil =>
              repeat' ((conv => whnf); first | (with_reducible refine exI (q2 _) ?_) | (with_reducible refine ixJ i rfl ?_ ?_; (focus (omega))) | (refine exI hx ?_) | (refine apS ?_) | (first | refine stp ?_ | with_reducible refine condB (fun h => ?_) (fun h => ?_)))
              conv => whnf
              refine ⟨i + 1, hlt, by show kids.length - (i + 1) < kids.length - i; omega, ?_⟩
              rw [hnx]
              exact FgL.mk [0] rfl ⟨Wk.ptr rfl rfl, Wk.noref rfl, Wk.int rfl, trivial⟩ ⟨⟨rfl, rfl, rfl, rfl, BodyGe.pre (rest := []) rfl rfl⟩, trivial⟩ rfl
            | cons y r =>
              simp only [List.length_cons] at hlr
              repeat' ((conv => whnf); first | (with_reducible refine exI (q2 _) ?_) | (with_reducible refine ixJ i rfl ?_ ?_; (focus (omega))) | (refine exI hx ?_) | (refine apS ?_) | (first | refine stp ?_ | with_reducible refine condB (fun h => ?_) (fun h => ?_)))
              conv => whnf
              refine ⟨i + 1, hlt, by show kids.length - (i + 1) < kids.length - i; omega, ?_⟩
              rw [hnx]
              exact FgL.mk [0, 1] rfl ⟨Wk.ptr rfl rfl, Wk.slice rfl rfl rfl (Nat.le_refl _) (Nat.le_refl _) rfl, Wk.int rfl, trivial⟩ ⟨⟨rfl, rfl, rfl, rfl, BodyGe.pre (rest := []) rfl rfl⟩, ⟨rfl, rfl, rfl, rfl, BodyGe.pre (rest := []) (by simp [strC]) (strC_refs _)⟩, trivial⟩ rfl
          | cons z o =>
            have hcl := strC_cons z o
            simp only [List.length_cons] at hlo
            cases r with
            | nil =>
              repeat' ((conv => whnf); first | (with_reducible refine exI (q2 _) ?_) | (with_reducible refine ixJ i rfl ?_ ?_; (focus (omega))) | (refine exI hx ?_) | (refine apS ?_) | (first | refine stp ?_ | with_reducible refine condB (fun h => ?_) (fun h => ?_)))
              conv => whnf
              refine ⟨i + 1, hlt, by show kids.length - (i + 1) < kids.length - i; omega, ?_⟩
              rw [hnx, List.append_nil]
              exact FgL.mk [0, 1] rfl ⟨Wk.ptr rfl rfl, Wk.slice rfl rfl rfl (Nat.le_refl _) (Nat.le_refl _) rfl, Wk.int rfl, trivial⟩ ⟨⟨rfl, rfl, rfl, rfl, BodyGe.pre (rest := []) rfl rfl⟩, ⟨rfl, rfl, rfl, rfl, BodyGe.pre (rest := []) (by simp) (strC_refs _)⟩, trivial⟩ rfl
            | cons y r =>
              have hon := strs_one (y :: r)
              simp only [List.length_cons] at hlr
              repeat' ((conv => whnf); first | (with_reducible refine exI (q2 _) ?_) | (with_reducible refine ixJ i rfl ?_ ?_; (focus (omega))) | (refine exI hx ?_) | (refine apS ?_) | (first | refine stp ?_ | with_reducible refine condB (fun h => ?_) (fun h => ?_)))
              conv => whnf
              refine ⟨i + 1, hlt, by show kids.length - (i + 1) < kids.length - i; omega, ?_⟩
              rw [hnx]
              exact FgL.mk [0, 2] rfl ⟨Wk.ptr rfl rfl, Wk.slice rfl rfl (by simp; omega) (Nat.le_refl _) (by simp; omega) rfl, Wk.int rfl, trivial⟩ ⟨⟨rfl, rfl, rfl, rfl, BodyGe.pre (rest := []) rfl rfl⟩, ⟨rfl, rfl, rfl, rfl, BodyGe.pre (rest := []) (by simp [strC]) (strC_refs _)⟩, trivial⟩ rfl
        · have e1 : decide ((i : Int) < (kids.length : Int)) = false := by simpa using hlt
          have hi2 : i = kids.length := by have := hi; omega
          subst hi2
          rw [List.take_length] at hle ⊢
          generalize pre ++ nmL kids = o at *
          cases o with
          | nil =>
            repeat' ((conv => whnf); first | refine stp ?_ | with_reducible refine condB (fun h => ?_) (fun h => ?_))
            all_goals exact .inr ⟨rfl, _, rfl⟩
          | cons z o =>
            repeat' ((conv => whnf); first | refine stp ?_ | with_reducible refine condB (fun h => ?_) (fun h => ?_))
            conv => whnf
            exact ⟨_, frz_slice (b := 1) rfl (strC_cons z o) (strC_lit (z :: o)), .inl rfl⟩
      | false =>
        rw [hs2] at hpre
        simp only [Bool.not_false, Bool.and_true, cond_true] at hpre
        have e2 : (!(name == [])) = true := by rw [hs2]; rfl
        repeat' ((conv => whnf); first | (refine apS ?_) | (first | refine stp ?_ | with_reducible refine condB (fun h => ?_) (fun h => ?_)))
        conv => whnf
        refine ⟨Nat, (fun i => i ≤ kids.length), (fun i => [(1, .ptr 0 0), (3, grA 1 1 (pre ++ nmL (kids.take i))), (4, .int .i64 i)]), (fun i => ⟨true, 0, 0, .cells [.int .i64 op, .int .i64 num, .str name, .rs kids.length 4 (exC kids)] 24⟩ :: grB 1 strC 9 (pre ++ nmL (kids.take i))), (fun i => kids.length - i), ⟨0, Nat.zero_le _, ?_⟩, ?_⟩
        · subst hpre
          exact FgL.mk [0, 2] rfl ⟨Wk.ptr rfl rfl, Wk.slice rfl rfl rfl (Nat.le_refl _) (Nat.le_refl _) rfl, Wk.int rfl, trivial⟩ ⟨⟨rfl, rfl, rfl, rfl, BodyGe.pre (rest := []) rfl rfl⟩, ⟨rfl, rfl, rfl, rfl, BodyGe.pre (rest := []) rfl rfl⟩, trivial⟩ rfl
        intro i hi
        dsimp only
        have hle := nmL_take_len kids i
        by_cases hlt : i < kids.length
        · have e1 : decide ((i : Int) < (kids.length : Int)) = true := by simpa using hlt
          have hx := ex4 kids i hlt
          have hsz := sizeL_mem _ _ (get_mem hlt)
          have hlr := nmE_len kids[i]
          have q2 := q1 kids[i] (by omega) (okL_get hk.2 _ (get_mem hlt)) (by omega)
          have hnx : pre ++ nmL (kids.take (i + 1)) = (pre ++ nmL (kids.take i)) ++ nmE kids[i] := by rw [nmL_take kids i hlt, List.append_assoc]
          have hlo : (pre ++ nmL (kids.take i)).length ≤ 2097152 := by rw [List.length_append]; omega
          generalize pre ++ nmL (kids.take i) = o at *
          generalize hr : nmE kids[i] = r at *
          generalize kids[i] = x at *
          obtain ⟨xo, xn, xs, xk⟩ := x
          simp only [Ex.cells] at hx q2
          cases o with
          | nil =>
            cases r with
            | nil =>
              repeat' ((conv => whnf); first | (with_reducible refine exI (q2 _) ?_) | (with_reducible refine ixJ i rfl ?_ ?_; (focus (omega))) | (refine exI hx ?_) | (refine apS ?_) | (first | refine stp ?_ | with_reducible refine condB (fun h => ?_) (fun h => ?_)))
              conv => whnf
              refine ⟨i + 1, hlt, by show kids.length - (i + 1) < kids.length - i; omega, ?_⟩
              rw [hnx]
              exact FgL.mk [0] rfl ⟨Wk.ptr rfl rfl, Wk.noref rfl, Wk.int rfl, trivial⟩ ⟨⟨rfl, rfl, rfl, rfl, BodyGe.pre (rest := []) rfl rfl⟩, trivial⟩ rfl
            | cons y r =>
              simp only [List.length_cons] at hlr
              repeat' ((conv => whnf); first | (with_reducible refine exI (q2 _) ?_) | (with_reducible refine ixJ i rfl ?_ ?_; (focus (omega))) | (refine exI hx ?_) | (refine apS ?_) | (first | refine stp ?_ | with_reducible refine condB (fun h => ?_) (fun h => ?_)))
              conv => whnf
              refine ⟨i + 1, hlt, by show kids.length - (i + 1) < kids.length - i; omega, ?_⟩
              rw [hnx]
              exact FgL.mk [0, 1] rfl ⟨Wk.ptr rfl rfl, Wk.slice rfl rfl rfl (Nat.le_refl _) (Nat.le_refl _) rfl, Wk.int rfl, trivial⟩ ⟨⟨rfl, rfl, rfl, rfl, BodyGe.pre (rest := []) rfl rfl⟩, ⟨rfl, rfl, rfl, rfl, BodyGe.pre (rest := []) (by simp [strC]) (strC_refs _)⟩, trivial⟩ rfl
          | cons z o =>
            have hcl := strC_cons z o
            simp only [List.length_cons] at hlo
            cases r with
            | nil =>
              repeat' ((conv => whnf); first | (with_reducible refine exI (q2 _) ?_) | (with_reducible refine ixJ i rfl ?_ ?_; (focus (omega))) | (refine exI hx ?_) | (refine apS ?_) | (first | refine stp ?_ | with_reducible refine condB (fun h => ?_) (fun h => ?_)))
              conv => whnf
              refine ⟨i + 1, hlt, by show kids.length - (i + 1) < kids.length - i; omega, ?_⟩
              rw [hnx, List.append_nil]
              exact FgL.mk [0, 1] rfl ⟨Wk.ptr rfl rfl, Wk.slice rfl rfl rfl (Nat.le_refl _) (Nat.le_refl _) rfl, Wk.int rfl, trivial⟩ ⟨⟨rfl, rfl, rfl, rfl, BodyGe.pre (rest := []) rfl rfl⟩, ⟨rfl, rfl, rfl, rfl, BodyGe.pre (rest := []) (by simp) (strC_refs _)⟩, trivial⟩ rfl
            | cons y r =>
              have hon := strs_one (y :: r)
              simp only [List.length_cons] at hlr
              repeat' ((conv => whnf); first | (with_reducible refine exI (q2 _) ?_) | (with_reducible refine ixJ i rfl ?_ ?_; (focus (omega))) | (refine exI hx ?_) | (refine apS ?_) | (first | refine stp ?_ | with_reducible refine condB (fun h => ?_) (fun h => ?_)))
              conv => whnf
              refine ⟨i + 1, hlt, by show kids.length - (i + 1) < kids.length - i; omega, ?_⟩
              rw [hnx]
              exact FgL.mk [0, 2] rfl ⟨Wk.ptr rfl rfl, Wk.slice rfl rfl (by simp; omega) (Nat.le_refl _) (by simp; omega) rfl, Wk.int rfl, trivial⟩ ⟨⟨rfl, rfl, rfl, rfl, BodyGe.pre (rest := []) rfl rfl⟩, ⟨rfl, rfl, rfl, rfl, BodyGe.pre (rest := []) (by simp [strC]) (strC_refs _)⟩, trivial⟩ rfl
        · have e1 : decide ((i : Int) < (kids.length : Int)) = false := by simpa using hlt
          have hi2 : i = kids.length := by have := hi; omega
          subst hi2
          rw [List.take_length] at hle ⊢
          generalize pre ++ nmL kids = o at *
          cases o with
          | nil =>
            repeat' ((conv => whnf); first | refine stp ?_ | with_reducible refine condB (fun h => ?_) (fun h => ?_))
            all_goals exact .inr ⟨rfl, _, rfl⟩
          | cons z o =>
            repeat' ((conv => whnf); first | refine stp ?_ | with_reducible refine condB (fun h => ?_) (fun h => ?_))
            conv => whnf
            exact ⟨_, frz_slice (b := 1) rfl (strC_cons z o) (strC_lit (z :: o)), .inl rfl⟩
end Go.Proofs.YtcbjhdklbhlmhaaGreatDoor.lex
end

/-
  Lists of numbers.
-/
section
set_option linter.unusedVariables false
set_option linter.unusedSimpArgs false
namespace Go.Proofs.YtcbjhdklbhlmhaaGreatDoor.lex
open Go.Abs Go.RowKit
set_option maxRecDepth 100000
def ksC (n : List Int) : List AV := n.map (AV.int .i64)
theorem ksC_len (s : List Int) : (ksC s).length = s.length := by simp [ksC]
theorem getD_at {s : List Int} {j : Nat} (h : j < s.length) : s.getD j 0 = s[j] := by rw [List.getD_eq_getElem?_getD, List.getElem?_eq_getElem h]; rfl
theorem ksC_at (s : List Int) (j : Nat) (h : j < s.length) : tk 1 ((ksC s).drop (0 + j * 1)) = some [.int .i64 (s.getD j 0)] := by
  have := tk1_map (AV.int .i64) s j h (off := 0 + j * 1) (by omega)
  rw [getD_at h]; exact this
theorem spl1 : ∀ (cs : List AV) (k : Nat) (v : AV), k < cs.length → spl cs k [v] = some (cs.set k v)
  | c :: cs, 0, v, h => by cases cs <;> rfl
  | c :: cs, k + 1, v, h => by simp only [spl, spl1 cs k v (by simpa using h)]; rfl
theorem ksC_set (s : List Int) (j : Nat) (v : Int) (h : j < s.length) : spl (ksC s) (0 + j * 1) [.int .i64 v] = some (ksC (s.set j v)) := by
  rw [show 0 + j * 1 = j by omega, spl1 _ _ _ (by rw [ksC_len]; exact h)]
  unfold ksC; rw [List.map_set]
theorem ksC_inj : ∀ {a b : List Int}, ksC a = ksC b → a = b
  | [], [], _ => rfl
  | [], _ :: _, h => by simp [ksC] at h
  | _ :: _, [], h => by simp [ksC] at h
  | x :: a, y :: b, h => by
    simp only [ksC, List.map_cons, List.cons.injEq, AV.int.injEq, true_and] at h
    rw [h.1, ksC_inj (a := a) (b := b) h.2]
theorem ksC_refs : ∀ (n : List Int), refsL (ksC n) [] = []
  | [] => rfl
  | c :: n => ksC_refs n
theorem ksC_cons (c : Int) (n : List Int) : (ksC (c :: n)).length = (n.length + 1) * 1 := by simp [ksC]
theorem ksC_lit : ∀ n : List Int, (ksC n).all lit = true
  | [] => rfl
  | c :: n => ksC_lit n
theorem ksC_one : ∀ n, (ksC n).all Go.Abs.one = true
  | [] => rfl
  | c :: n => by simp only [ksC, List.map_cons, List.all_cons]; exact ksC_one n
end Go.Proofs.YtcbjhdklbhlmhaaGreatDoor.lex
end

/-
  A map of registers: made, looked into (functions by their names).
-/
section
set_option linter.unusedVariables false
set_option linter.unusedSimpArgs false
namespace Go.Proofs.YtcbjhdklbhlmhaaGreatDoor.lex
open Go.Abs Go.RowKit
set_option maxRecDepth 100000
set_option maxHeartbeats 4000000
variable {gl : Glob}
def mapO (f : Nat) (n : List (List UInt8 × Int)) : AObj := ⟨true, f, 0, .map (mpE 0 n) n.length⟩
def mapH (n : List (List UInt8 × Int)) : AHeap := [mapO 0 n]
theorem mp_ge (m : List Nat) : ∀ (n : List (List UInt8 × Int)) (i : Nat), EGe m (mpE i n) (mpE i n)
  | [], i => trivial
  | (s, v) :: n, i => ⟨Wk.noref rfl, Wk.noref rfl, rfl, mp_ge m n (i + 1)⟩
theorem mp_refs : ∀ (n : List (List UInt8 × Int)) (i c : Nat), refsB (.map (mpE i n) c) [] = []
  | [], i, c => rfl
  | (s, v) :: n, i, c => mp_refs n (i + 1) c
theorem mp_ren (f : Nat → Nat) : ∀ (n : List (List UInt8 × Int)) (i : Nat), renE f (mpE i n) = mpE i n
  | [], i => rfl
  | (s, v) :: n, i => by simp only [mpE, renE, mp_ren f n (i + 1)]; rfl
theorem mp_noRO : ∀ (n : List (List UInt8 × Int)) (i : Nat), noROE (mpE i n) = true
  | [], i => rfl
  | (s, v) :: n, i => by simp only [mpE, noROE, mp_noRO n (i + 1)]; rfl
theorem mp_inj : ∀ {a b : List (List UInt8 × Int)} {i : Nat}, mpE i a = mpE i b → a = b
  | [], [], _, _ => rfl
  | [], (_, _) :: _, _, h => by simp [mpE] at h
  | (_, _) :: _, [], _, h => by simp [mpE] at h
  | (s, v) :: a, (s', v') :: b, i, h => by
    simp only [mpE, List.cons.injEq, Prod.mk.injEq, AV.str.injEq, AV.int.injEq, and_true, true_and] at h
    obtain ⟨⟨rfl, rfl⟩, h⟩ := h
    rw [mp_inj h]
theorem mapH_evo (n : List (List UInt8 × Int)) : evoB 1 (mapH n) (mapH n) = true := by
  simp only [mapH, mapO, evoB, mp_refs]; rfl
theorem keyR : keyDesc Tryz.prog 29 = some (.string, 2) := by kernel_rfl
theorem zeroR : tzero Tryz.prog 2 = some (.int .i64 0) := by kernel_rfl
theorem mp_put (s : List UInt8) (v : Int) (n : List (List UInt8 × Int)) : aMapSet Tryz.prog 29 (.map 0) (.str s) (.int .i64 v) (mapH n) = some (mapH (putR s v n)) := by
  have hw : wkil 0 0 (mapH n) = mapH n := wkil_lone (o := mapO 0 n) rfl rfl
  unfold aMapSet
  simp only [keyR]
  have h0 : (mapH n)[0]? = some ⟨true, 0, 0, .map (mpE 0 n) n.length⟩ := rfl
  simp only [h0, hw]
  cases h : getR s n with
  | none =>
    rw [mp_none s n 0 0 h, putR_none s v n h]
    simp only [mapH, mapO, mp_app, List.set_cons_zero, Nat.zero_add, List.length_append, List.length_cons, List.length_nil]
  | some w =>
    obtain ⟨k, h1, h2⟩ := mp_some s w n 0 0 h
    rw [h1]
    simp only [Nat.zero_add, h2]
    simp only [mapH, mapO, List.set_cons_zero, putR_len s v n h]
/-- Is it there, and what. -/
theorem mp_look2 {H : AHeap} {f c : Nat} (s : List UInt8) (n : List (List UInt8 × Int)) (hH : H[0]? = some ⟨true, f, 0, .map (mpE 0 n) c⟩) : aLookup Tryz.prog 29 (.map 0) (.str s) true H = some (.tuple [.int .i64 (regR n s), .bool (getR s n).isSome]) := by
  unfold aLookup
  simp only [keyR, mapEs, mapObj, hH]
  cases h : getR s n with
  | none => rw [mp_none s n 0 0 h]; simp only [zeroR, regR, h]; rfl
  | some w =>
    obtain ⟨k, h1, _⟩ := mp_some s w n 0 0 h
    rw [h1]; simp only [regR, h]; rfl
theorem mp_look1 {H : AHeap} {f c : Nat} (s : List UInt8) (n : List (List UInt8 × Int)) (hH : H[0]? = some ⟨true, f, 0, .map (mpE 0 n) c⟩) : aLookup Tryz.prog 29 (.map 0) (.str s) false H = some (.int .i64 (regR n s)) := by
  unfold aLookup
  simp only [keyR, mapEs, mapObj, hH]
  cases h : getR s n with
  | none => rw [mp_none s n 0 0 h]; simp only [zeroR, regR, h]; rfl
  | some w =>
    obtain ⟨k, h1, _⟩ := mp_some s w n 0 0 h
    rw [h1]; simp only [regR, h]; rfl
/-- The registers by name. -/
def regsZ (names : List (List UInt8)) (l : List Int) (i : Nat) : List (List UInt8 × Int) := ((names.zip l).take i).foldl (fun n p => putR p.1 p.2 n) []
theorem regsZ_next (names : List (List UInt8)) (l : List Int) (i : Nat) (h1 : i < names.length) (h2 : i < l.length) : regsZ names l (i + 1) = putR names[i] l[i] (regsZ names l i) := by
  have h : i < (names.zip l).length := by simp; omega
  unfold regsZ
  rw [List.take_succ_eq_append_getElem h, List.foldl_append, List.getElem_zip]; rfl
def regsN (names : List (List UInt8)) (l : List Int) : List (List UInt8 × Int) := regsZ names l (min (min names.length l.length) 100)
theorem registers_ok (names : List (List UInt8)) (l : List Int) : NewOK Tryz.prog gl 6 [rsK names, .rs l.length 1 (ksC l)] (.map 0) (mapH (regsN names l)) := by
  unfold regsN
  rw [show rsK names = .rs names.length 1 (strC names) from rfl]
  refine fn_new follows noNum none_sound Tryz.func6 rfl (cw0_ok _ _) ?_
  repeat' ((conv => whnf); first | refine stp ?_ | with_reducible refine condB (fun h => ?_) (fun h => ?_))
  conv => whnf
  refine ⟨Nat, (fun i => i ≤ min (min names.length l.length) 100), (fun i => [(0, .rs names.length 1 (strC names)), (1, .rs l.length 1 (ksC l)), (5, .map 0), (6, .int .i64 i)]), (fun i => mapH (regsZ names l i)), (fun i => min (min names.length l.length) 100 - i), ⟨0, Nat.zero_le _, ?_⟩, ?_⟩
  · exact FgL.mk [0] rfl ⟨Wk.noref rfl, Wk.noref rfl, Wk.map rfl, Wk.int rfl, trivial⟩ ⟨⟨rfl, rfl, rfl, rfl, ⟨rfl, trivial⟩⟩, trivial⟩ rfl
  intro i hi
  dsimp only
  by_cases hlt : i < min (min names.length l.length) 100
  · have h1 : i < names.length := by omega
    have h2 : i < l.length := by omega
    have e1 : decide ((i : Int) < (names.length : Int)) = true := by simpa using h1
    have e2 : decide ((i : Int) < (l.length : Int)) = true := by simpa using h2
    have e3 : decide ((i : Int) < 100) = true := by simp; omega
    have hx := tk1_map AV.str names i h1 (off := i * 1) (by omega)
    have hy := tk1_map (AV.int .i64) l i h2 (off := i * 1) (by omega)
    have hnx := regsZ_next names l i h1 h2
    have hset := mp_put names[i] l[i] (regsZ names l i)
    generalize regsZ names l i = n at *
    generalize names[i] = s at *
    generalize l[i] = v at *
    simp only [mapH, mapO] at hset ⊢
    unfold strC ksC
    repeat' ((conv => whnf); first | (with_reducible refine ixJ i rfl ?_ ?_; (focus (omega))) | (refine exI hx ?_) | (refine exI hy ?_) | (refine exI hset ?_) | (first | refine stp ?_ | with_reducible refine condB (fun h => ?_) (fun h => ?_)))
    conv => whnf
    refine ⟨i + 1, hlt, by show min (min names.length l.length) 100 - (i + 1) < min (min names.length l.length) 100 - i; omega, ?_⟩
    rw [hnx]
    exact FgL.mk [0] rfl ⟨Wk.noref rfl, Wk.noref rfl, Wk.map rfl, Wk.int rfl, trivial⟩ ⟨⟨rfl, rfl, rfl, rfl, ⟨rfl, mp_ge _ _ _⟩⟩, trivial⟩ rfl
  · have hi2 : i = min (min names.length l.length) 100 := by have := hi; omega
    generalize hM : min (min names.length l.length) 100 = M at *
    subst hi2
    by_cases h1 : i < names.length
    · have e1 : decide ((i : Int) < (names.length : Int)) = true := by simpa using h1
      by_cases h2 : i < l.length
      · have e2 : decide ((i : Int) < (l.length : Int)) = true := by simpa using h2
        have e3 : decide ((i : Int) < 100) = false := by simp; omega
        repeat' ((conv => whnf); first | refine stp ?_ | with_reducible refine condB (fun h => ?_) (fun h => ?_))
        conv => whnf
        exact ⟨[0], ⟨⟨rfl, rfl, rfl, rfl, ⟨rfl, mp_ge _ _ _⟩⟩, trivial⟩, rfl, Wk.map rfl⟩
      · have e2 : decide ((i : Int) < (l.length : Int)) = false := by simpa using h2
        repeat' ((conv => whnf); first | refine stp ?_ | with_reducible refine condB (fun h => ?_) (fun h => ?_))
        conv => whnf
        exact ⟨[0], ⟨⟨rfl, rfl, rfl, rfl, ⟨rfl, mp_ge _ _ _⟩⟩, trivial⟩, rfl, Wk.map rfl⟩
    · have e1 : decide ((i : Int) < (names.length : Int)) = false := by simpa using h1
      repeat' ((conv => whnf); first | refine stp ?_ | with_reducible refine condB (fun h => ?_) (fun h => ?_))
      conv => whnf
      exact ⟨[0], ⟨⟨rfl, rfl, rfl, rfl, ⟨rfl, mp_ge _ _ _⟩⟩, trivial⟩, rfl, Wk.map rfl⟩
end Go.Proofs.YtcbjhdklbhlmhaaGreatDoor.lex
end

/-
  Lists made of a symbolic length; what is handed back frozen.
-/
section
set_option linter.unusedVariables false
set_option linter.unusedSimpArgs false
namespace Go.Proofs.YtcbjhdklbhlmhaaGreatDoor.lex
open Go.Abs Go.RowKit
set_option maxRecDepth 100000
set_option maxHeartbeats 4000000
variable {gl : Glob}
theorem ms_okG {P : Program} {t e : TypeId} {z b : Nat} {u : AV} {H : AHeap} (ht : P.underlying t = some (.slice e)) (hz : tsz P e = some z) (hb : (P.info? e).map (·.bytes) = some b) (hu : tzero P e = some u) (hul : u.cells.length = z) (hz0 : z ≠ 0) (n : Nat)
    (h : n ≤ 1099511627776) (h2 : b * n ≤ 140737488355328) : aMakeSlice P t (.int .i64 n) (.int .i64 n) H = some (.slice H.length 0 n n z, newBlk H (repl n u.cells) e) := by
  cases hi : P.info? e with
  | none => rw [hi] at hb; cases hb
  | some i =>
    rw [hi] at hb
    simp only [Option.map_some, Option.some.injEq] at hb
    have h2' : (b : Int) * (n : Int) ≤ 140737488355328 := by
      have : ((b * n : Nat) : Int) ≤ ((140737488355328 : Nat) : Int) := Int.ofNat_le.2 h2
      simpa using this
    simp only [aMakeSlice, msCore, ht, hz, hi, hb, hu]
    rw [if_pos ⟨by omega, by omega, by omega, h2'⟩]
    try simp only [Int.toNat_natCast]
    by_cases hn : n = 0
    · subst hn; simp [repl, newBlk]
    · have h0 : ¬ (n * z = 0) := fun e => by rcases Nat.mul_eq_zero.1 e with e | e; exact hn e; exact hz0 e
      rw [if_neg h0, if_pos hul]
theorem splN : ∀ (a b c vs : List AV), b.length = vs.length → spl (a ++ (b ++ c)) a.length vs = some (a ++ (vs ++ c))
  | [], [], c, [], _ => by cases c <;> rfl
  | [], x :: b, c, v :: vs, h => by
    have := splN [] b c vs (by simpa using h)
    simp only [List.nil_append, List.length_nil] at this
    simp only [List.nil_append, List.length_nil, List.cons_append, spl, this]
  | x :: a, b, c, vs, h => by
    have := splN a b c vs h
    simp only [List.cons_append, List.length_cons, spl, this]
  | [], [], c, _ :: _, h => by simp at h
  | [], _ :: _, c, [], h => by simp at h
def flat1 : AV → Bool
  | .bool _ => true
  | .int _ _ => true
  | .str _ => true
  | .rs _ _ _ => true
  | _ => false
theorem frz_flat {H : AHeap} {n : Nat} : ∀ {u : AV}, flat1 u = true → frz H (n + 1) u = some u
  | .bool _, _ => rfl
  | .int _ _, _ => rfl
  | .str _, _ => rfl
  | .rs _ _ _, _ => rfl
theorem frzL_flat {H : AHeap} {n : Nat} : ∀ {cs : List AV}, cs.all flat1 = true → frzL (frz H (n + 1)) cs = some cs
  | [], _ => rfl
  | c :: cs, h => by
    simp only [List.all_cons, Bool.and_eq_true] at h
    simp only [frzL, frz_flat h.1, frzL_flat h.2]
theorem frz_sliceF {H : AHeap} {n b f sh len cap z : Nat} {cs : List AV} {ty : TypeId} (hH : H[b]? = some ⟨true, f, sh, .cells cs ty⟩) (hc : cs.length = len * z) (hl : cs.all flat1 = true) : frz H (n + 2) (.slice b 0 len cap z) = some (.rs len z cs) := by
  cases len with
  | zero =>
    have : cs = [] := List.eq_nil_of_length_eq_zero (by omega)
    subst this; rfl
  | succ m =>
    have h2 : frzL (frz H (n + 1)) cs = some cs := frzL_flat hl
    unfold frz
    simp only [hH, List.drop_zero, tk_all hc]
    rw [h2]
def flat2 : AV → Bool
  | .bool _ => true
  | .int _ _ => true
  | .str _ => true
  | .rs _ _ _ => true
  | .nslice => true
  | _ => false
theorem refs_flat : ∀ {u : AV} {acc : List Nat}, flat2 u = true → refs u acc = acc
  | .bool _, _, _ => by simp only [refs]
  | .int _ _, _, _ => by simp only [refs]
  | .str _, _, _ => by simp only [refs]
  | .rs _ _ _, _, _ => by simp only [refs]
  | .nslice, _, _ => by simp only [refs]
theorem refsL_flat : ∀ {l : List AV} {acc : List Nat}, l.all flat2 = true → refsL l acc = acc
  | [], _, _ => by simp only [refsL]
  | c :: l, acc, h => by
    simp only [List.all_cons, Bool.and_eq_true] at h
    simp only [refsL, refs_flat h.1, refsL_flat h.2]
theorem flat12 : ∀ {l : List AV}, l.all flat1 = true → l.all flat2 = true := by
  intro l h
  rw [List.all_eq_true] at h ⊢
  intro u hu
  have := h u hu
  cases u <;> simp_all [flat1, flat2]
theorem repl_flat (z : List AV) (hz : z.all flat2 = true) : ∀ n, (repl n z).all flat2 = true
  | 0 => rfl
  | n + 1 => by simp only [repl, List.all_append, hz, repl_flat z hz n, Bool.and_true]
end Go.Proofs.YtcbjhdklbhlmhaaGreatDoor.lex
end

/-
  Expressions, as they are filled in.
-/
section
set_option linter.unusedVariables false
set_option linter.unusedSimpArgs false
namespace Go.Proofs.YtcbjhdklbhlmhaaGreatDoor.lex
open Go.Abs Go.RowKit
set_option maxRecDepth 100000
set_option maxHeartbeats 4000000
variable {gl : Glob}
/-- Without blocks, and frozen already. -/
theorem exC_flat : ∀ l : List Ex, (exC l).all flat1 = true
  | [] => by simp only [exC]; rfl
  | .mk o n s k :: l => by simp only [exC, Ex.cells, List.all_append, exC_flat l, Bool.and_true]; rfl
/-- What is made, so far. -/
def exAt (l : List Ex) (i : Nat) : List AV := exC (l.take i) ++ repl (l.length - i) [.int .i64 0, .int .i64 0, .str [], .nslice]
theorem exAt_split (l : List Ex) (i : Nat) (h : i < l.length) : exAt l i = exC (l.take i) ++ ([.int .i64 0, .int .i64 0, .str [], .nslice] ++ repl (l.length - (i + 1)) [.int .i64 0, .int .i64 0, .str [], .nslice]) := by
  have e : l.length - i = (l.length - (i + 1)) + 1 := by omega
  unfold exAt; rw [e]; rfl
theorem exAt_next (l : List Ex) (i : Nat) (h : i < l.length) : exC (l.take i) ++ (l[i].cells ++ repl (l.length - (i + 1)) [.int .i64 0, .int .i64 0, .str [], .nslice]) = exAt l (i + 1) := by
  unfold exAt
  rw [List.take_add_one, exC_app, List.getElem?_eq_getElem h]
  simp only [Option.toList_some, exC, List.append_nil, List.append_assoc]
theorem exAt_set (l : List Ex) (i k : Nat) (h : i < l.length) (hk : k = i * 4) : spl (exAt l i) k l[i].cells = some (exAt l (i + 1)) := by
  have hl : (exC (l.take i)).length = i * 4 := by rw [exC_len, List.length_take, Nat.min_eq_left (by omega)]
  rw [exAt_split l i h, hk, ← hl, splN _ _ _ _ (by rw [cells_len]; rfl), exAt_next l i h]
theorem exAt_zero (l : List Ex) : exAt l 0 = repl l.length [.int .i64 0, .int .i64 0, .str [], .nslice] := by simp only [exAt, List.take_zero, exC, List.nil_append, Nat.sub_zero]
theorem exAt_all (l : List Ex) : exAt l l.length = exC l := by simp only [exAt, List.take_length, Nat.sub_self, repl, List.append_nil]
theorem exAt_refs (l : List Ex) (i : Nat) : refsL (exAt l i) [] = [] := by
  refine refsL_flat ?_
  unfold exAt
  rw [List.all_append, flat12 (exC_flat _), repl_flat _ rfl, Bool.and_true]
theorem exAt_len (l : List Ex) (i : Nat) (h : i ≤ l.length) : (exAt l i).length = l.length * 4 := by
  have hr : ∀ n, (repl n [AV.int .i64 0, .int .i64 0, .str [], .nslice]).length = n * 4 := by
    intro n
    induction n with
    | zero => rfl
    | succ n ih => simp only [repl, List.length_append, ih, List.length_cons, List.length_nil]; omega
  unfold exAt
  rw [List.length_append, exC_len, hr, List.length_take, Nat.min_eq_left h]; omega
theorem mkE_ok (n : Nat) (h : n ≤ 1048576) (H : AHeap) : aMakeSlice Tryz.prog 22 (.int .i64 n) (.int .i64 n) H = some (.slice H.length 0 n n 4, newBlk H (repl n [.int .i64 0, .int .i64 0, .str [], .nslice]) 24) := by
  have hz : tsz Tryz.prog 24 = some 4 := by kernel_rfl
  have hb : (Tryz.prog.info? 24).map (·.bytes) = some 56 := by kernel_rfl
  have hu : tzero Tryz.prog 24 = some (.agg [.int .i64 0, .int .i64 0, .str [], .nslice]) := by kernel_rfl
  exact ms_okG Tryz.underlying22 hz hb hu rfl (by decide) n (by omega) (by omega)
end Go.Proofs.YtcbjhdklbhlmhaaGreatDoor.lex
end

/-
  Expressions reckoned: the program's eval, the document's, with a map of registers.
-/
section
set_option linter.unusedVariables false
set_option linter.unusedSimpArgs false
namespace Go.Proofs.YtcbjhdklbhlmhaaGreatDoor.lex
open Go.Abs Go.RowKit
set_option maxRecDepth 100000
set_option maxHeartbeats 4000000
variable {gl : Glob}
theorem orcZ_none {F : Nat → List AV → Option AV} {g : Nat} {args : List AV} {H : AHeap} (h : ∀ fa, F g fa = none) : orcZ F g args H = none := by
  unfold orcZ
  split
  · rename_i fa _; simp only [h]
  · rfl
/-- What of a list is reckoned so far. -/
def evAt (n i : Nat) (l : List Int) : List AV := ksC (l.take i) ++ repl (n - i) [.int .i64 0]
theorem evAt_len (l : List Int) (i : Nat) (h : i ≤ l.length) : (evAt l.length i l).length = l.length * 1 := by
  have hr : ∀ n, (repl n [AV.int .i64 0]).length = n := by intro n; induction n with | zero => rfl | succ n ih => simp only [repl, List.length_append, ih, List.length_cons, List.length_nil]; omega
  unfold evAt
  rw [List.length_append, hr, ksC_len, List.length_take, Nat.min_eq_left h]; omega
theorem evAt_zero (l : List Int) : evAt l.length 0 l = repl l.length [.int .i64 0] := by simp [evAt, ksC]
theorem evAt_all (l : List Int) : evAt l.length l.length l = ksC l := by simp [evAt, repl]
theorem evAt_set (l : List Int) (i k : Nat) (h : i < l.length) (hk : k = i * 1) : spl (evAt l.length i l) k [.int .i64 l[i]] = some (evAt l.length (i + 1) l) := by
  have h1 : evAt l.length i l = ksC (l.take i) ++ ([.int .i64 0] ++ repl (l.length - (i + 1)) [.int .i64 0]) := by
    unfold evAt; rw [show l.length - i = (l.length - (i + 1)) + 1 by omega]; rfl
  have h2 : evAt l.length (i + 1) l = ksC (l.take i) ++ ([.int .i64 l[i]] ++ repl (l.length - (i + 1)) [.int .i64 0]) := by
    unfold evAt ksC
    rw [List.take_succ_eq_append_getElem h, List.map_append, List.append_assoc]; rfl
  have hl : k = (ksC (l.take i)).length := by rw [ksC_len, List.length_take, Nat.min_eq_left (by omega)]; omega
  rw [h1, h2, hl]
  exact splN _ _ _ _ rfl
theorem evAt_refs (l : List Int) (i : Nat) : refsL (evAt l.length i l) [] = [] := by
  have hr : ∀ n, refsL (repl n [AV.int .i64 0]) [] = [] := by intro n; induction n with | zero => rfl | succ n ih => exact ih
  have ha : ∀ (a b : List AV), refsL b [] = [] → a.all (fun u => match u with | .int _ _ => true | _ => false) = true → refsL (a ++ b) [] = [] := by
    intro a
    induction a with
    | nil => intro b hb _; exact hb
    | cons x a ih =>
      intro b hb h
      simp only [List.all_cons, Bool.and_eq_true] at h
      cases x <;> simp at h
      exact ih b hb (by simpa using h)
  unfold evAt
  refine ha _ _ (hr _) ?_
  unfold ksC
  rw [List.all_map]
  simp
theorem upd_tail (Hs : AHeap) : ∀ (l : AHeap) (i : Nat), 0 < i → updM [0] Hs i l = l
  | [], i, _ => rfl
  | o :: l, i, h => by
    have h1 : posN [0] i 0 = none := by
      cases i with
      | zero => omega
      | succ i => rfl
    simp only [updM, h1, upd_tail Hs l (i + 1) (by omega)]
/-- A function that looks into the map, called where there is more memory. -/
theorem evFrameG {f : Nat} {fargs cargs : List AV} {r : AV} {reg : List (List UInt8 × Int)} {rest : AHeap} (hM : MemOK Tryz.prog gl f fargs (mapH reg) r (mapH reg)) (ha : frzL (frzM [0] (kilM [0] (mapO 0 reg :: rest)) 30) cargs = some fargs)
    (hl : loneM [0] [0] 0 (mapO 0 reg :: rest) = true) (h1 : noRO r = true) (h2 : allLt 1 (refs r []) = true) (h3 : ren (fun b => ([0] : List Nat).getD b 0) r = r) : MemOK Tryz.prog gl f cargs (mapO 0 reg :: rest) r (mapO 0 reg :: rest) := by
  have h := mem_frame (m := [0]) (n := 30) (Hc := mapO 0 reg :: rest) hM ha ⟨⟨rfl, rfl, rfl, rfl, ⟨rfl, mp_ge _ _ _⟩⟩, trivial⟩ rfl hl (mapH_evo reg) (by simp only [mapH, mapO, noROH, noROB, mp_noRO]; rfl) h1 h2
  have e : updM [0] (mapH reg) 0 (mapO 0 reg :: rest) = mapO 0 reg :: rest := by
    have h1 : updM [0] (mapH reg) 0 (mapO 0 reg :: rest) = ⟨true, 0, 0, renB (fun b => ([0] : List Nat).getD b 0) (.map (mpE 0 reg) reg.length)⟩ :: updM [0] (mapH reg) 1 rest := rfl
    rw [h1, upd_tail _ _ _ (by omega)]
    simp only [renB, mp_ren]; rfl
  rw [e, h3] at h
  exact h
theorem evFrame {f : Nat} {fargs cargs : List AV} {n : Int} {reg : List (List UInt8 × Int)} {rest : AHeap} (hM : MemOK Tryz.prog gl f fargs (mapH reg) (.int .i64 n) (mapH reg)) (ha : frzL (frzM [0] (kilM [0] (mapO 0 reg :: rest)) 30) cargs = some fargs)
    (hl : loneM [0] [0] 0 (mapO 0 reg :: rest) = true) : MemOK Tryz.prog gl f cargs (mapO 0 reg :: rest) (.int .i64 n) (mapO 0 reg :: rest) := evFrameG hM ha hl rfl rfl rfl
/-- Such a function of one expression, wherever it is called. -/
def famMap {f : Nat} (hb : hasBody Tryz.prog f = true) (reg : List (List UInt8 × Int)) (e : Ex) (r : AV) (h1 : noRO r = true) (h2 : allLt 1 (refs r []) = true) (h3 : ren (fun b => ([0] : List Nat).getD b 0) r = r) (hM : MemOK Tryz.prog gl f [.agg e.cells, .map 0] (mapH reg) r (mapH reg)) : FamM Tryz.prog gl :=
  { I := AHeap, f := f, G := fun rest => loneM [0] [0] 0 (mapO 0 reg :: rest) = true, A := fun _ => [.agg e.cells, .map 0], H := fun rest => mapO 0 reg :: rest, R := fun _ => r, O := fun rest => mapO 0 reg :: rest, body := hb, inj := (fun _ _ _ _ _ h => ⟨rfl, h⟩), ok := (fun rest hr => evFrameG hM (by obtain ⟨a, b, c, d⟩ := e; rfl) hr h1 h2 h3) }
def evHp (reg : List (List UInt8 × Int)) (op num : Int) (name : List UInt8) (kids : List Ex) (i : Nat) : AHeap :=
  [mapO 0 reg, ⟨true, 1, 0, .cells [.int .i64 op, .int .i64 num, .str name, .rs kids.length 4 (exC kids)] 24⟩, ⟨true, 2, 0, .cells (evAt kids.length i (kids.map (evalE (regR reg)))) 2⟩]
theorem mkI_ok (n : Nat) (h : n ≤ 1048576) (H : AHeap) : aMakeSlice Tryz.prog 26 (.int .i64 n) (.int .i64 n) H = some (.slice H.length 0 n n 1, newBlk H (repl n [.int .i64 0]) 2) := by
  have hz : tsz Tryz.prog 2 = some 1 := by kernel_rfl
  have hb : (Tryz.prog.info? 2).map (·.bytes) = some 8 := by kernel_rfl
  have hu : tzero Tryz.prog 2 = some (.int .i64 0) := by kernel_rfl
  exact ms_okG Tryz.underlying26 hz hb hu rfl (by decide) n (by omega) (by omega)
theorem evalX_ok : ∀ (n : Nat) (e : Ex) (reg : List (List UInt8 × Int)), sizeE e ≤ n → okE e → sizeE e ≤ 1048576 → MemOK Tryz.prog gl 21 [.agg e.cells, .map 0] (mapH reg) (.int .i64 (evalE (regR reg) e)) (mapH reg)
  | n, .mk op num name kids, reg, h, hok, hs => by
    obtain ⟨O, hO, ⟨p1, -⟩, -⟩ := famsM (P := Tryz.prog) (gl := gl) [{ I := Ex × Nat, f := 21, G := fun x => sizeE x.1 < n ∧ okE x.1 ∧ sizeE x.1 ≤ 1048576, A := fun x => [.agg x.1.cells, .map 0], H := fun x => evHp reg op num name kids x.2 ++ [⟨true, 3, 0, .cells x.1.cells 24⟩], R := fun x => .int .i64 (evalE (regR reg) x.1), O := fun x => evHp reg op num name kids x.2 ++ [⟨true, 3, 0, .cells x.1.cells 24⟩], body := (by kernel_rfl), inj := (fun i j _ _ h1 h2 => ⟨by simp only [List.cons.injEq] at h1; rw [agg_inj (a := i.1) (b := j.1) (by rw [h1.1])], h2⟩), ok := (fun x hx => evFrame (match n, hx.1 with | n + 1, h => evalX_ok n x.1 reg (by omega) hx.2.1 hx.2.2) (by obtain ⟨⟨a, b, c, d⟩, i⟩ := x; rfl) rfl) }] [] rfl
    have hO2 := orcOr_sound (doF_sound (gl := gl)) hO
    have q1 : ∀ x i, sizeE x < n → okE x → sizeE x ≤ 1048576 → acall Tryz.prog (orcOr (orcZ doF) O) (evHp reg op num name kids i ++ [⟨true, 3, 0, .cells x.cells 24⟩]) 21 [.agg x.cells, .map 0] = some (.int .i64 (evalE (regR reg) x), evHp reg op num name kids i ++ [⟨true, 3, 0, .cells x.cells 24⟩]) := fun x i h1 h2 h3 => callOr2 (by kernel_rfl) (orcZ_none fun _ => rfl) (p1 (x, i) ⟨h1, h2, h3⟩)
    have hvl : (kids.map (evalE (regR reg))).length = kids.length := by simp
    have q2 : acall Tryz.prog (orcOr (orcZ doF) O) (evHp reg op num name kids kids.length) 17 [.int .i64 op, .slice 2 0 kids.length kids.length 1] = some (.tuple [.int .i64 (doI op (kids.map (evalE (regR reg)))).1, .int .i64 (doI op (kids.map (evalE (regR reg)))).2], evHp reg op num name kids kids.length) := by
      refine callOr1 (by kernel_rfl) (callZ (fa := [.int .i64 op, .rs kids.length 1 (ksC (kids.map (evalE (regR reg))))]) (by kernel_rfl) ?_ ?_)
      · have h1 : frz (evHp reg op num name kids kids.length) 30 (.slice 2 0 kids.length kids.length 1) = some (.rs kids.length 1 (ksC (kids.map (evalE (regR reg))))) := by
          refine frz_slice (b := 2) (f := 2) (sh := 0) (ty := 2) ?_ (by rw [ksC_len]; simp) (ksC_lit _)
          have := evAt_all (kids.map (evalE (regR reg)))
          rw [hvl] at this
          simp only [evHp, this]; rfl
        simp only [frzL, h1]; rfl
      · show (match intsOf (ksC (kids.map (evalE (regR reg)))) with | some l => _ | none => none) = _
        rw [show intsOf (ksC (kids.map (evalE (regR reg)))) = some (kids.map (evalE (regR reg))) from intsOf_map _]
    clear p1
    have hlen := sizeL_len kids
    simp only [sizeE] at h hs
    have hm := mkI_ok kids.length (by omega)
    simp only [evalE, evalL_map, Ex.cells, exA]
    generalize orcOr (orcZ doF) O = O2 at *
    refine fn_mem (k := 1) follows noNum hO2 rfl Tryz.func21 rfl (cw0_ok _ _) ?_
    have hlook := fun (H : AHeap) (f c : Nat) => mp_look2 (H := H) (f := f) (c := c) name reg
    have hev := mapH_evo reg
    have hki := okE_kids hok
    simp only [Ex.kids, Ex.name, okN] at hki
    cases ho1 : (op == 1) with
    | true =>
      rw [cond_true]
      repeat' ((conv => whnf); first | refine stp ?_ | with_reducible refine condB (fun h => ?_) (fun h => ?_))
      all_goals (conv => whnf)
      exact ⟨rfl, by rw [hev]; rfl⟩
    | false =>
      rw [cond_false]
      cases ho2 : (op == 2) with
      | true =>
        rw [cond_true]
        cases hg : (getR name reg).isSome with
        | true =>
          repeat' ((conv => whnf); first | (refine exI (hlook _ _ _ rfl) ?_) | (first | refine stp ?_ | with_reducible refine condB (fun h => ?_) (fun h => ?_)))
          all_goals (conv => whnf)
          exact ⟨rfl, by rw [hev]; rfl⟩
        | false =>
          have hr0 : regR reg name = 0 := by
            unfold regR
            cases hgr : getR name reg with
            | none => rfl
            | some w => rw [hgr] at hg; cases hg
          repeat' ((conv => whnf); first | (refine exI (hlook _ _ _ rfl) ?_) | (first | refine stp ?_ | with_reducible refine condB (fun h => ?_) (fun h => ?_)))
          all_goals (conv => whnf)
          rw [hr0]
          exact ⟨rfl, rfl, by rw [hev]; rfl⟩
      | false =>
        rw [cond_false]
        repeat' ((conv => whnf); first | (refine exI (hm _) ?_) | (first | refine stp ?_ | with_reducible refine condB (fun h => ?_) (fun h => ?_)))
        conv => whnf
        refine ⟨Nat, (fun i => i ≤ kids.length), (fun i => [(1, .map 0), (2, .ptr 1 0), (7, .slice 2 0 kids.length kids.length 1), (34, .rs kids.length 4 (exC kids)), (35, .int .i64 kids.length), (36, .int .i64 i)]), (fun i => evHp reg op num name kids i), (fun i => kids.length - i), ⟨0, Nat.zero_le _, ?_⟩, ?_⟩
        · refine FgLK.mk [0, 1, 2] rfl rfl ⟨Wk.map rfl, Wk.ptr rfl rfl, Wk.slice rfl rfl rfl (Nat.le_refl _) (Nat.le_refl _) rfl, Wk.noref rfl, Wk.int rfl, Wk.int rfl, trivial⟩ ⟨⟨rfl, rfl, rfl, rfl, ⟨rfl, mp_ge _ _ _⟩⟩, ⟨rfl, rfl, rfl, rfl, BodyGe.pre (rest := []) rfl rfl⟩, ⟨rfl, rfl, rfl, rfl, BodyGe.pre (rest := []) ?_ ?_⟩, trivial⟩ rfl
          · have := evAt_zero (kids.map (evalE (regR reg)))
            rw [hvl] at this
            rw [this]; simp
          · have := evAt_refs (kids.map (evalE (regR reg))) 0
            rw [hvl] at this; exact this
        intro i hi
        dsimp only
        by_cases hlt : i < kids.length
        · have e1 : decide ((i : Int) < (kids.length : Int)) = true := by simpa using hlt
          have hx := ex4 kids i hlt
          have hsz := sizeL_mem _ _ (get_mem hlt)
          have hsp := evAt_set (kids.map (evalE (regR reg))) i (0 + i * 1) (by rw [hvl]; exact hlt) (by omega)
          have hrf := evAt_refs (kids.map (evalE (regR reg))) (i + 1)
          simp only [List.length_map, List.getElem_map] at hsp hrf
          have q3 := q1 kids[i] i (by omega) (okL_get hki.2 _ (get_mem hlt)) (by omega)
          simp only [evHp] at q3 ⊢
          generalize hnx : evAt kids.length (i + 1) (kids.map (evalE (regR reg))) = nx at *
          generalize evAt kids.length i (kids.map (evalE (regR reg))) = cx at *
          generalize evalE (regR reg) kids[i] = v at *
          generalize kids[i] = x at *
          obtain ⟨xo, xn, xs, xk⟩ := x
          simp only [Ex.cells, mapO] at hx q3 ⊢
          clear q1 q2
          repeat' ((conv => whnf); first | (refine exI q3 ?_) | (with_reducible refine ixJ i rfl ?_ ?_; (focus (omega))) | (refine exI hx ?_) | (refine exI hsp ?_) | (first | refine stp ?_ | with_reducible refine condB (fun h => ?_) (fun h => ?_)))
          conv => whnf
          refine ⟨i + 1, hlt, by show kids.length - (i + 1) < kids.length - i; omega, ?_⟩
          rw [hnx]
          exact FgLK.mk [0, 1, 2] rfl rfl ⟨Wk.map rfl, Wk.ptr rfl rfl, Wk.slice rfl rfl rfl (Nat.le_refl _) (Nat.le_refl _) rfl, Wk.noref rfl, Wk.int rfl, Wk.int rfl, trivial⟩ ⟨⟨rfl, rfl, rfl, rfl, ⟨rfl, mp_ge _ _ _⟩⟩, ⟨rfl, rfl, rfl, rfl, BodyGe.pre (rest := []) rfl rfl⟩, ⟨rfl, rfl, rfl, rfl, BodyGe.pre (rest := []) (by simp) hrf⟩, trivial⟩ rfl
        · have e1 : decide ((i : Int) < (kids.length : Int)) = false := by simpa using hlt
          have hi2 : i = kids.length := by have := hi; omega
          subst hi2
          simp only [evHp, mapO] at q2 ⊢
          generalize evAt kids.length kids.length (kids.map (evalE (regR reg))) = cx at *
          generalize kids.map (evalE (regR reg)) = vals at *
          repeat' ((conv => whnf); first | (refine exI q2 ?_) | (first | refine stp ?_ | with_reducible refine condB (fun h => ?_) (fun h => ?_)))
          all_goals (conv => whnf)
          exact ⟨rfl, by rw [hev]; rfl⟩
end Go.Proofs.YtcbjhdklbhlmhaaGreatDoor.lex
end

/-
  Expressions reckoned: the document's eval; Eval of both.
-/
section
set_option linter.unusedVariables false
set_option linter.unusedSimpArgs false
namespace Go.Proofs.YtcbjhdklbhlmhaaGreatDoor.lex
open Go.Abs Go.RowKit
set_option maxRecDepth 100000
set_option maxHeartbeats 4000000
variable {gl : Glob}
def evRp (reg : List (List UInt8 × Int)) (op num : Int) (name : List UInt8) (kids : List Ex) (o : List Int) : AHeap :=
  mapO 0 reg :: ⟨true, 1, 0, .cells [.int .i64 op, .int .i64 num, .str name, .rs kids.length 4 (exC kids)] 24⟩ :: grB 2 ksC 2 o
theorem evalR_ok : ∀ (n : Nat) (e : Ex) (reg : List (List UInt8 × Int)), sizeE e ≤ n → okE e → sizeE e ≤ 1048576 → MemOK Tryz.prog gl 23 [.agg e.cells, .map 0] (mapH reg) (.int .i64 (evalE (regR reg) e)) (mapH reg)
  | n, .mk op num name kids, reg, h, hok, hs => by
    obtain ⟨O, hO, ⟨p1, -⟩, -⟩ := famsM (P := Tryz.prog) (gl := gl) [{ I := Ex × List Int, f := 23, G := fun x => sizeE x.1 < n ∧ okE x.1 ∧ sizeE x.1 ≤ 1048576, A := fun x => [.agg x.1.cells, .map 0], H := fun x => evRp reg op num name kids x.2, R := fun x => .int .i64 (evalE (regR reg) x.1), O := fun x => evRp reg op num name kids x.2, body := (by kernel_rfl), inj := (fun i j _ _ h1 h2 => ⟨by simp only [List.cons.injEq] at h1; rw [agg_inj (a := i.1) (b := j.1) (by rw [h1.1])], h2⟩), ok := (fun x hx => evFrame (match n, hx.1 with | n + 1, h => evalR_ok n x.1 reg (by omega) hx.2.1 hx.2.2) (by obtain ⟨⟨a, b, c, d⟩, o⟩ := x; cases o <;> rfl) (by obtain ⟨⟨a, b, c, d⟩, o⟩ := x; cases o <;> rfl)) }] [] rfl
    have hO2 := orcOr_sound (doF_sound (gl := gl)) hO
    have q1 : ∀ x o, sizeE x < n → okE x → sizeE x ≤ 1048576 → acall Tryz.prog (orcOr (orcZ doF) O) (evRp reg op num name kids o) 23 [.agg x.cells, .map 0] = some (.int .i64 (evalE (regR reg) x), evRp reg op num name kids o) := fun x o h1 h2 h3 => callOr2 (by kernel_rfl) (orcZ_none fun _ => rfl) (p1 (x, o) ⟨h1, h2, h3⟩)
    have hvl : (kids.map (evalE (regR reg))).length = kids.length := by simp
    have q2 : ∀ (x : Int) (o : List Int), acall Tryz.prog (orcOr (orcZ doF) O) (evRp reg op num name kids (x :: o)) 43 [.int .i64 op, .slice 2 0 (o.length + 1) (o.length + 1) 1] = some (.tuple [.int .i64 (doI op (x :: o)).1, .int .i64 (doI op (x :: o)).2], evRp reg op num name kids (x :: o)) := fun x o => by
      refine callOr1 (by kernel_rfl) (callZ (fa := [.int .i64 op, .rs (o.length + 1) 1 (ksC (x :: o))]) (by kernel_rfl) ?_ ?_)
      · have h1 : frz (evRp reg op num name kids (x :: o)) 30 (.slice 2 0 (o.length + 1) (o.length + 1) 1) = some (.rs (o.length + 1) 1 (ksC (x :: o))) := frz_slice (b := 2) (f := 2) (sh := 0) (ty := 2) rfl (ksC_cons x o) (ksC_lit _)
        simp only [frzL, h1]; rfl
      · show (match intsOf (ksC (x :: o)) with | some l => _ | none => none) = _
        rw [show intsOf (ksC (x :: o)) = some (x :: o) from intsOf_map _]
    have q3 : acall Tryz.prog (orcOr (orcZ doF) O) (evRp reg op num name kids []) 43 [.int .i64 op, .nslice] = some (.tuple [.int .i64 (doI op []).1, .int .i64 (doI op []).2], evRp reg op num name kids []) :=
      callOr1 (by kernel_rfl) (callZ (fa := [.int .i64 op, .nslice]) (by kernel_rfl) rfl rfl)
    clear p1
    have hlen := sizeL_len kids
    simp only [sizeE] at h hs
    have hT : appT Tryz.prog 26 26 = some (2, 1, 8) := by kernel_rfl
    simp only [evalE, evalL_map, Ex.cells, exA]
    generalize orcOr (orcZ doF) O = O2 at *
    refine fn_mem (k := 1) follows noNum hO2 rfl Tryz.func23 rfl (cw0_ok _ _) ?_
    have hlook := fun (H : AHeap) (f c : Nat) => mp_look1 (H := H) (f := f) (c := c) name reg
    have hev := mapH_evo reg
    have hki := okE_kids hok
    simp only [Ex.kids, Ex.name, okN] at hki
    cases ho1 : (op == 1) with
    | true =>
      rw [cond_true]
      repeat' ((conv => whnf); first | refine stp ?_ | with_reducible refine condB (fun h => ?_) (fun h => ?_))
      all_goals (conv => whnf)
      exact ⟨rfl, by rw [hev]; rfl⟩
    | false =>
      rw [cond_false]
      cases ho2 : (op == 2) with
      | true =>
        rw [cond_true]
        repeat' ((conv => whnf); first | (refine exI (hlook _ _ _ rfl) ?_) | (first | refine stp ?_ | with_reducible refine condB (fun h => ?_) (fun h => ?_)))
        all_goals (conv => whnf)
        exact ⟨rfl, by rw [hev]; rfl⟩
      | false =>
        rw [cond_false]
        repeat' ((conv => whnf); first | refine stp ?_ | with_reducible refine condB (fun h => ?_) (fun h => ?_))
        conv => whnf
        refine ⟨Nat, (fun i => i ≤ kids.length), (fun i => [(1, .map 0), (2, .ptr 1 0), (5, grA 2 1 ((kids.map (evalE (regR reg))).take i)), (6, .int .i64 i)]), (fun i => evRp reg op num name kids ((kids.map (evalE (regR reg))).take i)), (fun i => kids.length - i), ⟨0, Nat.zero_le _, ?_⟩, ?_⟩
        · exact FgLK.mk [0, 1] rfl rfl ⟨Wk.map rfl, Wk.ptr rfl rfl, Wk.noref rfl, Wk.int rfl, trivial⟩ ⟨⟨rfl, rfl, rfl, rfl, ⟨rfl, mp_ge _ _ _⟩⟩, ⟨rfl, rfl, rfl, rfl, BodyGe.pre (rest := []) rfl rfl⟩, trivial⟩ rfl
        intro i hi
        dsimp only
        by_cases hlt : i < kids.length
        · have e1 : decide ((i : Int) < (kids.length : Int)) = true := by simpa using hlt
          have hx := ex4 kids i hlt
          have hsz := sizeL_mem _ _ (get_mem hlt)
          have q4 := fun o => q1 kids[i] o (by omega) (okL_get hki.2 _ (get_mem hlt)) (by omega)
          have hnx : (kids.map (evalE (regR reg))).take (i + 1) = (kids.map (evalE (regR reg))).take i ++ [evalE (regR reg) kids[i]] := by
            rw [List.take_succ_eq_append_getElem (by rw [hvl]; exact hlt), List.getElem_map]
          have hol : ((kids.map (evalE (regR reg))).take i).length ≤ 1048576 := by rw [List.length_take, hvl]; omega
          generalize (kids.map (evalE (regR reg))).take i = o at *
          generalize evalE (regR reg) kids[i] = v at *
          generalize kids[i] = x at *
          obtain ⟨xo, xn, xs, xk⟩ := x
          simp only [Ex.cells] at hx q4
          clear q1 q2 q3
          cases o with
          | nil =>
            have q4 := q4 []
            simp only [evRp, mapO, grB] at q4 ⊢
            repeat' ((conv => whnf); first | (refine exI q4 ?_) | (with_reducible refine ixJ i rfl ?_ ?_; (focus (omega))) | (refine exI hx ?_) | (refine apS ?_) | (first | refine stp ?_ | with_reducible refine condB (fun h => ?_) (fun h => ?_)))
            conv => whnf
            refine ⟨i + 1, hlt, by show kids.length - (i + 1) < kids.length - i; omega, ?_⟩
            rw [hnx]
            exact FgLK.mk [0, 1, 3] rfl rfl ⟨Wk.map rfl, Wk.ptr rfl rfl, Wk.slice rfl rfl rfl (Nat.le_refl _) (Nat.le_refl _) rfl, Wk.int rfl, trivial⟩ ⟨⟨rfl, rfl, rfl, rfl, ⟨rfl, mp_ge _ _ _⟩⟩, ⟨rfl, rfl, rfl, rfl, BodyGe.pre (rest := []) rfl rfl⟩, ⟨rfl, rfl, rfl, rfl, BodyGe.pre (rest := []) rfl rfl⟩, trivial⟩ rfl
          | cons z o =>
            have q4 := q4 (z :: o)
            have hcl := ksC_cons z o
            simp only [List.length_cons] at hol
            simp only [evRp, mapO, grB] at q4 ⊢
            repeat' ((conv => whnf); first | (refine exI q4 ?_) | (with_reducible refine ixJ i rfl ?_ ?_; (focus (omega))) | (refine exI hx ?_) | (refine apS ?_) | (first | refine stp ?_ | with_reducible refine condB (fun h => ?_) (fun h => ?_)))
            conv => whnf
            refine ⟨i + 1, hlt, by show kids.length - (i + 1) < kids.length - i; omega, ?_⟩
            rw [hnx]
            exact FgLK.mk [0, 1, 4] rfl rfl ⟨Wk.map rfl, Wk.ptr rfl rfl, Wk.slice rfl rfl (by simp) (Nat.le_refl _) (by simp) rfl, Wk.int rfl, trivial⟩ ⟨⟨rfl, rfl, rfl, rfl, ⟨rfl, mp_ge _ _ _⟩⟩, ⟨rfl, rfl, rfl, rfl, BodyGe.pre (rest := []) rfl rfl⟩, ⟨rfl, rfl, rfl, rfl, BodyGe.pre (rest := []) (by simp [ksC]) (ksC_refs _)⟩, trivial⟩ rfl
        · have e1 : decide ((i : Int) < (kids.length : Int)) = false := by simpa using hlt
          have hi2 : i = kids.length := by have := hi; omega
          subst hi2
          rw [List.take_of_length_le (by rw [hvl]; exact Nat.le_refl _)]
          generalize kids.map (evalE (regR reg)) = o at *
          cases o with
          | nil =>
            simp only [evRp, mapO, grB] at q3 ⊢
            repeat' ((conv => whnf); first | (refine exI q3 ?_) | (first | refine stp ?_ | with_reducible refine condB (fun h => ?_) (fun h => ?_)))
            all_goals (conv => whnf)
            exact ⟨rfl, by rw [hev]; rfl⟩
          | cons z o =>
            have q2 := q2 z o
            simp only [evRp, mapO, grB] at q2 ⊢
            repeat' ((conv => whnf); first | (refine exI q2 ?_) | (first | refine stp ?_ | with_reducible refine condB (fun h => ?_) (fun h => ?_)))
            all_goals (conv => whnf)
            exact ⟨rfl, by rw [hev]; rfl⟩
/-! Eval -/
def evalO (r : List UInt8 → Int) (e : Ex) : AV := if checkE e = 0 then .tuple [.int .i64 (evalE r e), .int .i64 0] else .tuple [.int .i64 0, .int .i64 (checkE e)]
theorem EvalX_ok (e : Ex) (reg : List (List UInt8 × Int)) (hok : okE e) (hs : sizeE e ≤ 1048576) : MemOK Tryz.prog runLives.gl 7 [.agg e.cells, .map 0] (mapH reg) (evalO (regR reg) e) (mapH reg) := by
  obtain ⟨O, hO, ⟨p1, -⟩, p2, -⟩ := famsM (P := Tryz.prog) (gl := runLives.gl) [famMap (f := 21) (by kernel_rfl) reg e (.int .i64 (evalE (regR reg) e)) rfl rfl rfl (evalX_ok _ e reg (Nat.le_refl _) hok hs)] [{ I := Unit, f := 20, G := fun _ => True, A := fun _ => [.agg e.cells], R := fun _ => .int .i64 (checkE e), body := (by kernel_rfl), inj := (fun _ _ _ _ _ => rfl), ok := (fun _ _ => ⟨ex_refs e, checkEX_ok e hok hs⟩) }] rfl
  have q1 : ∀ rest : AHeap, loneM [0] [0] 0 (mapO 0 reg :: rest) = true → acall Tryz.prog O (mapO 0 reg :: rest) 21 [.agg e.cells, .map 0] = some (.int .i64 (evalE (regR reg) e), mapO 0 reg :: rest) := p1
  have q2 : ∀ H, acall Tryz.prog O H 20 [.agg e.cells] = some (.int .i64 (checkE e), H) := p2 () trivial
  have hev := mapH_evo reg
  clear p1 p2
  unfold evalO
  generalize checkE e = c at *
  generalize evalE (regR reg) e = v at *
  obtain ⟨op, num, name, kids⟩ := e
  simp only [Ex.cells, mapH, mapO] at *
  by_cases hc : c = 0
  · subst hc
    rw [if_pos rfl]
    refine fn_mem (k := 1) follows noNum hO rfl Tryz.func7 rfl (cw0_ok _ _) ?_
    repeat' ((conv => whnf); first | (refine exI (q1 _ rfl) ?_) | (with_reducible refine exI (q2 _) ?_) | (first | refine stp ?_ | with_reducible refine condB (fun h => ?_) (fun h => ?_)))
    all_goals (conv => whnf)
    exact ⟨rfl, by rw [hev]; rfl⟩
  · rw [if_neg hc]
    have e1 : (c != 0) = true := bne_of (b := false) (by simpa using hc)
    refine fn_mem (k := 1) follows noNum hO rfl Tryz.func7 rfl (cw0_ok _ _) ?_
    repeat' ((conv => whnf); first | (refine exI (q1 _ rfl) ?_) | (with_reducible refine exI (q2 _) ?_) | (first | refine stp ?_ | with_reducible refine condB (fun h => ?_) (fun h => ?_)))
    all_goals (conv => whnf)
    exact ⟨rfl, by rw [hev]; rfl⟩
theorem EvalR_ok (e : Ex) (reg : List (List UInt8 × Int)) (hok : okE e) (hs : sizeE e ≤ 1048576) : MemOK Tryz.prog gl 8 [.agg e.cells, .map 0] (mapH reg) (evalO (regR reg) e) (mapH reg) := by
  obtain ⟨O, hO, ⟨p1, -⟩, p2, -⟩ := famsM (P := Tryz.prog) (gl := gl) [famMap (f := 23) (by kernel_rfl) reg e (.int .i64 (evalE (regR reg) e)) rfl rfl rfl (evalR_ok _ e reg (Nat.le_refl _) hok hs)] [{ I := Unit, f := 22, G := fun _ => True, A := fun _ => [.agg e.cells], R := fun _ => .int .i64 (checkE e), body := (by kernel_rfl), inj := (fun _ _ _ _ _ => rfl), ok := (fun _ _ => ⟨ex_refs e, checkER_ok e hok hs⟩) }] rfl
  have q1 : ∀ rest : AHeap, loneM [0] [0] 0 (mapO 0 reg :: rest) = true → acall Tryz.prog O (mapO 0 reg :: rest) 23 [.agg e.cells, .map 0] = some (.int .i64 (evalE (regR reg) e), mapO 0 reg :: rest) := p1
  have q2 : ∀ H, acall Tryz.prog O H 22 [.agg e.cells] = some (.int .i64 (checkE e), H) := p2 () trivial
  have hev := mapH_evo reg
  clear p1 p2
  unfold evalO
  generalize checkE e = c at *
  generalize evalE (regR reg) e = v at *
  obtain ⟨op, num, name, kids⟩ := e
  simp only [Ex.cells, mapH, mapO] at *
  by_cases hc : c = 0
  · subst hc
    rw [if_pos rfl]
    refine fn_mem (k := 1) follows noNum hO rfl Tryz.func8 rfl (cw0_ok _ _) ?_
    repeat' ((conv => whnf); first | (refine exI (q1 _ rfl) ?_) | (with_reducible refine exI (q2 _) ?_) | (first | refine stp ?_ | with_reducible refine condB (fun h => ?_) (fun h => ?_)))
    all_goals (conv => whnf)
    exact ⟨rfl, by rw [hev]; rfl⟩
  · rw [if_neg hc]
    have e1 : (c != 0) = true := bne_of (b := false) (by simpa using hc)
    refine fn_mem (k := 1) follows noNum hO rfl Tryz.func8 rfl (cw0_ok _ _) ?_
    repeat' ((conv => whnf); first | (refine exI (q1 _ rfl) ?_) | (with_reducible refine exI (q2 _) ?_) | (first | refine stp ?_ | with_reducible refine condB (fun h => ?_) (fun h => ?_)))
    all_goals (conv => whnf)
    exact ⟨rfl, by rw [hev]; rfl⟩
end Go.Proofs.YtcbjhdklbhlmhaaGreatDoor.lex
end

/-
  Made simple: what is simple about two; the program's.
-/
section
set_option linter.unusedVariables false
set_option linter.unusedSimpArgs false
namespace Go.Proofs.YtcbjhdklbhlmhaaGreatDoor.lex
open Go.Abs Go.RowKit
set_option maxRecDepth 100000
set_option maxHeartbeats 4000000
variable {gl : Glob}
/-- What is handed back may say more than is asked. -/
theorem fn_valW {P : Program} {gl : Glob} {orc : Orc} (hm : P.follows .mixedOrders = true) (hn : NoNum P) (hO : OrcSound P gl orc) {f : Nat} {fn : Func} {c : Code} {args : List AV} {r : AV} (hf : P.funcs[f]? = some fn) (hc : fn.body = some c)
    (h : frcTr (tmk (tini args fn.ntmps args.length) (tdep 20 fn.ntmps)) fun tm => wexec P gl orc (cw0 P orc) wloop c (finR P fn.results.toList fun r' => ∀ sn v, VR sn noI r' v → VR sn noI r v) (fun _ _ _ => False) (finR P fn.results.toList fun r' => ∀ sn v, VR sn noI r' v → VR sn noI r v) tm []) : ValOK P gl f args r :=
  fn_valX hm hn hO (fun _ h => h) hf hc (cw0_ok P orc) h
theorem fn_valWI {P : Program} {gl : Glob} {orc : Orc} (isC : Nat → Bool) (n : Nat) (hm : P.follows .mixedOrders = true) (hn : NoNum P) (hO : OrcSound P gl orc) {f : Nat} {fn : Func} {c : Code} {args : List AV} {r : AV} (hf : P.funcs[f]? = some fn) (hc : fn.body = some c)
    (h : frcTr (tmk (tini args fn.ntmps args.length) (tdep 20 fn.ntmps)) fun tm => wexec P gl (orcN P gl orc isC n) (wcall P gl orc isC n) wloop c (finR P fn.results.toList fun r' => ∀ sn v, VR sn noI r' v → VR sn noI r v) (fun _ _ _ => False) (finR P fn.results.toList fun r' => ∀ sn v, VR sn noI r' v → VR sn noI r v) tm []) : ValOK P gl f args r :=
  fn_valX hm hn (orcN_sound hm hn hO n) (fun _ h => h) hf hc (wcall_ok n) h
theorem nil4 {a b c : AV} {z : Nat} {sn : Snap} {v : Value} (h : VR sn noI (.agg [a, b, c, .nslice]) v) : VR sn noI (.agg [a, b, c, .rs 0 z []]) v := by
  simp only [VR, LR] at h ⊢
  obtain ⟨d, h1, d1, l1, e1, g1, d2, l2, e2, g2, d3, l3, e3, g3, d4, l4, e4, g4, g5⟩ := h
  exact ⟨d, h1, d1, l1, e1, g1, d2, l2, e2, g2, d3, l3, e3, g3, d4, l4, e4, .inl ⟨trivial, trivial, g4⟩, g5⟩
theorem isXp_ok (e : Ex) (n : Int) : ValOK Tryz.prog gl 68 [.agg e.cells, .int .i64 n] (.bool (isX e n)) := by
  obtain ⟨op, num, name, kids⟩ := e
  simp only [Ex.cells]
  refine fn_val follows noNum none_sound Tryz.func68 rfl ?_
  repeat' ((conv => whnf); first | refine stp ?_ | with_reducible refine condB (fun h => ?_) (fun h => ?_))
  all_goals (simp_all [resOf, isX, Ex.op, Ex.num])
theorem numXp_ok (v : Int) : ValOK Tryz.prog gl 44 [.int .i64 v] (.agg (numX v).cells) := by
  refine fn_valW follows noNum none_sound Tryz.func44 rfl ?_
  repeat' ((conv => whnf); first | refine stp ?_ | with_reducible refine condB (fun h => ?_) (fun h => ?_))
  all_goals exact fun _ _ h => nil4 h
theorem pair_refs (e : Ex) (n : Int) : refsL [.agg e.cells, .int .i64 n] [] = [] := by
  obtain ⟨op, num, name, kids⟩ := e; rfl
def famIs {g : Nat} (hb : hasBody Tryz.prog g = true) (h : ∀ e n, ValOK Tryz.prog gl g [.agg e.cells, .int .i64 n] (.bool (isX e n))) : Fam Tryz.prog gl :=
  { I := Ex × Int, f := g, G := fun _ => True, A := fun x => [.agg x.1.cells, .int .i64 x.2], R := fun x => .bool (isX x.1 x.2), body := hb, inj := (fun i j _ _ h => by
      simp only [List.cons.injEq, AV.int.injEq, and_true, true_and] at h
      rw [agg_inj (a := i.1) (b := j.1) (by rw [h.1]), h.2]), ok := (fun x _ => ⟨pair_refs x.1 x.2, h x.1 x.2⟩) }
theorem simpleTwo_ok (op : Int) (a b : Ex) (h5 : 5 ≤ op) (h16 : op ≤ 16) (ha : okE a) : ValOK Tryz.prog gl 45 [.int .i64 op, .agg a.cells, .agg b.cells] (.agg (twoS op a b).cells) := by
  obtain ⟨O, hO, p1, p2, p3, -⟩ := fams (P := Tryz.prog) (gl := gl) [famTwo (g := 67) (by kernel_rfl) (fun p => p = (a, b)) (fun p hp => by subst hp; exact sameX_ok _ a b (Nat.le_refl _) ha), famIs (g := 68) (by kernel_rfl) isXp_ok,
    { I := Int, f := 44, G := fun _ => True, A := fun v => [.int .i64 v], R := fun v => .agg (numX v).cells, body := (by kernel_rfl), inj := (fun i j _ _ h => by simp only [List.cons.injEq, AV.int.injEq, and_true, true_and] at h; rw [h]), ok := (fun v _ => ⟨rfl, numXp_ok v⟩) }] rfl
  have q1 : ∀ H, acall Tryz.prog O H 67 [.agg a.cells, .agg b.cells] = some (.bool (sameE a b), H) := p1 (a, b) rfl
  have qa : ∀ n H, acall Tryz.prog O H 68 [.agg a.cells, .int .i64 n] = some (.bool (isX a n), H) := fun n => p2 (a, n) trivial
  have qb : ∀ n H, acall Tryz.prog O H 68 [.agg b.cells, .int .i64 n] = some (.bool (isX b n), H) := fun n => p2 (b, n) trivial
  have qn : ∀ v H, acall Tryz.prog O H 44 [.int .i64 v] = some (.agg [.int .i64 1, .int .i64 v, .str [], .rs 0 4 []], H) := fun v => p3 v trivial
  clear p1 p2 p3
  have hT : ∀ op, (twoS op a b).cells = (twoS op a b).cells := fun _ => rfl
  have key : ∀ op : Int, twoS op a b =
    bif (op == 14 && isX b 0) || ((op == 15 && isX b 0) || ((op == 16 && isX b 1) || ((op == 11 && isX b 0) || (op == 12 && isX b 0)))) then a else
    bif (op == 14 && isX a 0) || ((op == 16 && isX a 1) || ((op == 11 && isX a 0) || (op == 12 && isX a 0))) then b else
    bif (op == 16 || op == 13) && (isX b 0 || isX a 0) then numX 0 else
    bif !(sameE a b) then .mk op 0 [] [a, b] else
    bif op == 7 || op == 10 then numX 1 else
    bif op == 8 || (op == 9 || (op == 12 || op == 15)) then numX 0 else .mk op 0 [] [a, b] := fun _ => rfl
  have qa0 := qa 0
  have qa1 := qa 1
  have qb0 := qb 0
  have qb1 := qb 1
  rw [key]
  clear key hT qa qb
  generalize isX a 0 = a0 at *
  generalize isX a 1 = a1 at *
  generalize isX b 0 = b0 at *
  generalize isX b 1 = b1 at *
  generalize sameE a b = sm at *
  clear ha
  obtain ⟨ao, an, as1, ak⟩ := a
  obtain ⟨bo, bn, bs, bk⟩ := b
  simp only [Ex.cells] at qa0 qa1 qb0 qb1 q1 ⊢
  have hop : op = 5 ∨ op = 6 ∨ op = 7 ∨ op = 8 ∨ op = 9 ∨ op = 10 ∨ op = 11 ∨ op = 12 ∨ op = 13 ∨ op = 14 ∨ op = 15 ∨ op = 16 := by omega
  clear h5 h16
  rcases hop with rfl | rfl | rfl | rfl | rfl | rfl | rfl | rfl | rfl | rfl | rfl | rfl
  all_goals
    refine fn_valW follows noNum hO Tryz.func45 rfl ?_
    repeat' ((conv => whnf); first | (with_reducible refine exI (q1 _) ?_) | (with_reducible refine exI (qa0 _) ?_) | (with_reducible refine exI (qa1 _) ?_) | (with_reducible refine exI (qb0 _) ?_) | (with_reducible refine exI (qb1 _) ?_) | (with_reducible refine exI (qn _ _) ?_) | (first | refine stp ?_ | with_reducible refine condB (fun h => ?_) (fun h => ?_)))
  all_goals clear q1 qa0 qa1 qb0 qb1 qn hO
  all_goals (subst_vars; intro sn v hv; first | exact hv | (revert hv; simp [numX, Ex.cells, exC, exA]; done))
end Go.Proofs.YtcbjhdklbhlmhaaGreatDoor.lex
end

/-
  What is made simple is right, and no greater (plain laws).
-/
section
set_option linter.unusedVariables false
set_option linter.unusedSimpArgs false
namespace Go.Proofs.YtcbjhdklbhlmhaaGreatDoor.lex
open Go.Abs Go.RowKit
set_option maxRecDepth 100000
set_option maxHeartbeats 4000000
/-- Right, in range, of lengths that may be. -/
def goodE (e : Ex) : Prop := rightE e = true ∧ inE e ∧ okE e
theorem rightL_iff : ∀ {l : List Ex}, rightL l = true ↔ ∀ e ∈ l, rightE e = true
  | [] => by simp [rightL]
  | e :: l => by simp only [rightL, Bool.and_eq_true, rightL_iff (l := l), List.mem_cons, forall_eq_or_imp]
theorem goodE_mk {op : Int} {ks : List Ex} (h1 : 3 ≤ op) (h2 : op ≤ 16) (hl : kidsI op = (ks.length : Int)) (hk : ∀ k ∈ ks, goodE k) : goodE (.mk op 0 [] ks) := by
  refine ⟨?_, ?_, ?_⟩
  · have hr : rightL ks = true := rightL_iff.2 fun e he => (hk e he).1
    simp only [rightE, hr, Bool.and_true, ownF, Bool.and_eq_true, beq_iff_eq, Bool.or_eq_true, decide_eq_true_eq]
    refine ⟨hl, ?_, .inr trivial, Int.le_refl _, .inr trivial⟩
    rw [wordB_nil]
    simpa using (show op ≠ 2 by omega)
  · simp only [inE]; exact ⟨⟨by omega, by omega⟩, inL_of fun e he => (hk e he).2.1⟩
  · simp only [okE, okN]
    refine ⟨⟨by simp, ?_⟩, okL_of fun e he => (hk e he).2.2⟩
    have : kidsI op ≤ 2 := by unfold kidsI; split <;> (try split) <;> (try split) <;> omega
    omega
theorem goodE_num {v : Int} (h0 : 0 ≤ v) (h1 : v ≤ 9223372036854775807) : goodE (numX v) := by
  refine ⟨?_, ?_, ?_⟩
  · simp only [numX, rightE, rightL, Bool.and_true, ownF, List.length_nil, wordB_nil]
    simp [kidsI, h0]
  · simp only [numX, inE, inL]; exact ⟨⟨by omega, by omega⟩, trivial⟩
  · simp only [numX, okE, okN, okL]; exact ⟨⟨by simp, by simp⟩, trivial⟩
theorem goodE_kids {op num : Int} {name : List UInt8} {kids : List Ex} (h : goodE (.mk op num name kids)) : kidsI op = (kids.length : Int) ∧ (∀ k ∈ kids, goodE k) ∧ 0 ≤ num ∧ num ≤ 9223372036854775807 := by
  obtain ⟨h1, h2, h3⟩ := h
  simp only [rightE, Bool.and_eq_true, ownF, beq_iff_eq, decide_eq_true_eq] at h1
  simp only [inE] at h2
  have h4 := okE_kids h3
  simp only [Ex.kids, Ex.name] at h4
  exact ⟨h1.1.1, fun k hk => ⟨rightL_iff.1 h1.2 k hk, inL_get h2.2 k hk, okL_get h4.2 k hk⟩, h1.1.2.2.2.1, h2.1.2⟩
theorem kidsI_op {op : Int} {n : Nat} (h : kidsI op = ((n + 1 : Nat) : Int)) : 3 ≤ op ∧ op ≤ 16 := by
  unfold kidsI at h
  split at h
  · omega
  · split at h
    · omega
    · split at h <;> omega
theorem w_range (n : Int) : -9223372036854775808 ≤ IntKind.i64.wrap n ∧ IntKind.i64.wrap n ≤ 9223372036854775807 := by
  rw [IntKind.wrap_i64]; omega
theorem doI_range (op : Int) (l : List Int) : -9223372036854775808 ≤ (doI op l).1 ∧ (doI op l).1 ≤ 9223372036854775807 := by
  have ht : ∀ b, -9223372036854775808 ≤ truthI b ∧ truthI b ≤ 9223372036854775807 := fun b => by unfold truthI; split <;> omega
  have h1 : ∀ op a, -9223372036854775808 ≤ oneI op a ∧ oneI op a ≤ 9223372036854775807 := fun op a => by unfold oneI; split; exact w_range _; exact ht _
  have h2 : ∀ op a b, -9223372036854775808 ≤ twoI op a b ∧ twoI op a b ≤ 9223372036854775807 := fun op a b => by
    unfold twoI
    repeat' (first | exact ht _ | exact w_range _ | split)
  unfold doI
  split
  · split
    · exact h1 _ _
    · simp
  · split
    · exact h2 _ _ _
    · simp
  · simp
theorem good_two {op : Int} {a b : Ex} (h1 : 3 ≤ op) (h2 : op ≤ 16) (hl : kidsI op = 2) (ha : goodE a) (hb : goodE b) : goodE (twoS op a b) := by
  have hmk : goodE (.mk op 0 [] [a, b]) := goodE_mk h1 h2 (by simpa using hl) fun k hk => by
    simp only [List.mem_cons, List.not_mem_nil, or_false] at hk
    rcases hk with rfl | rfl
    · exact ha
    · exact hb
  have h0 : goodE (numX 0) := goodE_num (by omega) (by omega)
  have h1' : goodE (numX 1) := goodE_num (by omega) (by omega)
  unfold twoS
  simp only [cond_eq_ite]
  repeat' (first | exact ha | exact hb | exact h0 | exact h1' | exact hmk | split)
theorem good_rule {op : Int} {ks : List Ex} (h1 : 3 ≤ op) (h2 : op ≤ 16) (hl : kidsI op = (ks.length : Int)) (hk : ∀ k ∈ ks, goodE k) : goodE (ruleS op ks) := by
  unfold ruleS
  split
  · exact good_two h1 h2 (by simpa using hl) (hk _ (by simp)) (hk _ (by simp))
  · rename_i k l hn
    have hkk := hk k (by simp)
    simp only [cond_eq_ite]
    split
    · rename_i h
      simp only [Bool.and_eq_true, beq_iff_eq] at h
      obtain ⟨o, m, s, kk⟩ := k
      obtain ⟨g1, g2, _⟩ := goodE_kids hkk
      simp only [Ex.op] at h
      rw [h.2] at g1
      have : kk.length = 1 := by have : (1 : Int) = kk.length := g1; omega
      match kk, this with
      | [x], _ => exact g2 x (by simp)
    · exact goodE_mk h1 h2 hl hk
  · exact goodE_mk h1 h2 hl hk
theorem good_out {op : Int} {ks : List Ex} (h1 : 3 ≤ op) (h2 : op ≤ 16) (hl : kidsI op = (ks.length : Int)) (hk : ∀ k ∈ ks, goodE k) : goodE (outS op ks) := by
  unfold outS
  simp only [cond_eq_ite]
  split
  · split
    · rename_i h
      exact goodE_num (by simpa using h) (doI_range _ _).2
    · exact goodE_mk h1 h2 hl hk
  · exact good_rule h1 h2 hl hk
mutual
theorem good_simp : ∀ {e : Ex}, goodE e → goodE (simpE e)
  | .mk op num name [], h => by simp only [simpE]; exact h
  | .mk op num name (k :: l), h => by
    obtain ⟨g1, g2, _⟩ := goodE_kids h
    obtain ⟨g3, g4⟩ := kidsI_op (n := l.length) g1
    simp only [simpE]
    refine good_out g3 g4 ?_ fun x hx => ?_
    · rw [g1, simpL_map]; simp
    · rcases List.mem_cons.1 hx with rfl | hx
      · exact good_simp (g2 k (by simp))
      · exact good_simpL (fun y hy => g2 y (by simp [hy])) x hx
theorem good_simpL : ∀ {l : List Ex}, (∀ e ∈ l, goodE e) → ∀ x ∈ simpL l, goodE x
  | [], h, x, hx => by simp [simpL] at hx
  | e :: l, h, x, hx => by
    simp only [simpL] at hx
    rcases List.mem_cons.1 hx with rfl | hx
    · exact good_simp (h e (by simp))
    · exact good_simpL (fun y hy => h y (by simp [hy])) x hx
end
/-! no greater -/
theorem size_numX (v : Int) : sizeE (numX v) = 1 := by simp only [numX, sizeE, sizeL]
theorem size_two (op : Int) (a b : Ex) : sizeE (twoS op a b) ≤ 1 + sizeE a + sizeE b := by
  have h1 := sizeE_pos a
  unfold twoS
  simp only [cond_eq_ite]
  repeat' (first | (simp only [numX, sizeE, sizeL]; omega) | omega | split)
theorem size_rule (op : Int) (ks : List Ex) : sizeE (ruleS op ks) ≤ 1 + sizeL ks := by
  unfold ruleS
  split
  · rename_i a b
    have := size_two op a b
    simp only [sizeL]; omega
  · rename_i k l hn
    simp only [cond_eq_ite]
    split
    · obtain ⟨o, m, s, kk⟩ := k
      cases kk with
      | nil => simp only [Ex.kids, List.headD_nil, size_numX]; omega
      | cons x kk => simp only [Ex.kids, List.headD_cons, sizeL, sizeE]; omega
    · simp only [sizeE, sizeL]; omega
  · simp only [sizeE, sizeL]; omega
theorem size_out (op : Int) (ks : List Ex) : sizeE (outS op ks) ≤ 1 + sizeL ks := by
  unfold outS
  simp only [cond_eq_ite]
  split
  · split
    · rw [size_numX]; omega
    · simp only [sizeE]; omega
  · exact size_rule op ks
mutual
theorem size_simp : ∀ e : Ex, sizeE (simpE e) ≤ sizeE e
  | .mk op num name [] => by simp only [simpE]; omega
  | .mk op num name (k :: l) => by
    have h1 := size_out op (simpE k :: simpL l)
    have h2 := size_simp k
    have h3 := size_simpL l
    simp only [simpE, sizeE, sizeL] at h1 ⊢
    omega
theorem size_simpL : ∀ l : List Ex, sizeL (simpL l) ≤ sizeL l
  | [] => by simp only [simpL]; omega
  | e :: l => by have h1 := size_simp e; have h2 := size_simpL l; simp only [simpL, sizeL]; omega
end
/-! the program's way comes to the same -/
theorem num_of {k : Ex} (h : (k.op == 1) = true) (hg : goodE k) : k = numX k.num := by
  obtain ⟨o, m, s, kk⟩ := k
  simp only [Ex.op, beq_iff_eq] at h
  subst h
  have hr := hg.1
  obtain ⟨g1, _⟩ := goodE_kids hg
  have : kk.length = 0 := by have : (0 : Int) = kk.length := g1; omega
  have hk : kk = [] := List.eq_nil_of_length_eq_zero this
  subst hk
  simp only [rightE, rightL, ownF, Bool.and_eq_true, Bool.or_eq_true, beq_iff_eq] at hr
  have : s = [] := by
    have := hr.1.2.2.1
    rcases this with h | h
    · simp at h
    · exact h
  subst this; rfl
theorem w64 (n : Int) : IntKind.i64.wrap n = (n + 9223372036854775808) % 18446744073709551616 - 9223372036854775808 := by
  rw [IntKind.wrap_i64]
theorem w64_id {n : Int} (h : -9223372036854775808 ≤ n) (h2 : n ≤ 9223372036854775807) : IntKind.i64.wrap n = n := by rw [w64]; omega
theorem bv_id {x : Int} (h : 0 ≤ x) (h2 : x ≤ 9223372036854775807) : ((BitVec.ofInt 64 x).toNat : Int) = x := by
  rw [BitVec.toNat_ofInt]; omega
theorem bor_0 {x : Int} (h : 0 ≤ x) (h2 : x ≤ 9223372036854775807) : twoI 11 x 0 = x := by
  have : twoI 11 x 0 = IntKind.i64.wrap (bits .or .u64 (IntKind.u64.wrap x) (IntKind.u64.wrap 0)) := by simp [twoI]
  rw [this, bits_or, of_wrap, of_wrap]
  rw [show BitVec.ofInt 64 0 = 0#64 from rfl, BitVec.or_zero, bv_id h h2, w64_id (by omega) h2]
theorem bor_0' {x : Int} (h : 0 ≤ x) (h2 : x ≤ 9223372036854775807) : twoI 11 0 x = x := by
  have : twoI 11 0 x = IntKind.i64.wrap (bits .or .u64 (IntKind.u64.wrap 0) (IntKind.u64.wrap x)) := by simp [twoI]
  rw [this, bits_or, of_wrap, of_wrap]
  rw [show BitVec.ofInt 64 0 = 0#64 from rfl, BitVec.zero_or, bv_id h h2, w64_id (by omega) h2]
theorem xor_0 {x : Int} (h : 0 ≤ x) (h2 : x ≤ 9223372036854775807) : twoI 12 x 0 = x := by
  have : twoI 12 x 0 = IntKind.i64.wrap (bits .xor .u64 (IntKind.u64.wrap x) (IntKind.u64.wrap 0)) := by simp [twoI]
  rw [this, bits_xor, of_wrap, of_wrap]
  rw [show BitVec.ofInt 64 0 = 0#64 from rfl, BitVec.xor_zero, bv_id h h2, w64_id (by omega) h2]
theorem xor_0' {x : Int} (h : 0 ≤ x) (h2 : x ≤ 9223372036854775807) : twoI 12 0 x = x := by
  have : twoI 12 0 x = IntKind.i64.wrap (bits .xor .u64 (IntKind.u64.wrap 0) (IntKind.u64.wrap x)) := by simp [twoI]
  rw [this, bits_xor, of_wrap, of_wrap]
  rw [show BitVec.ofInt 64 0 = 0#64 from rfl, BitVec.zero_xor, bv_id h h2, w64_id (by omega) h2]
theorem xor_s (x : Int) : twoI 12 x x = 0 := by
  have : twoI 12 x x = IntKind.i64.wrap (bits .xor .u64 (IntKind.u64.wrap x) (IntKind.u64.wrap x)) := by simp [twoI]
  rw [this, bits_xor, of_wrap, BitVec.xor_self]; rfl
theorem band_0 (x : Int) : twoI 13 x 0 = 0 := by
  have : twoI 13 x 0 = IntKind.i64.wrap (bits .and .u64 (IntKind.u64.wrap x) (IntKind.u64.wrap 0)) := by simp [twoI]
  rw [this, bits_and, of_wrap, of_wrap, show BitVec.ofInt 64 0 = 0#64 from rfl, BitVec.and_zero]; rfl
theorem band_0' (x : Int) : twoI 13 0 x = 0 := by
  have : twoI 13 0 x = IntKind.i64.wrap (bits .and .u64 (IntKind.u64.wrap 0) (IntKind.u64.wrap x)) := by simp [twoI]
  rw [this, bits_and, of_wrap, of_wrap, show BitVec.ofInt 64 0 = 0#64 from rfl, BitVec.zero_and]; rfl
theorem plusI (a b : Int) : twoI 14 a b = IntKind.i64.wrap (a + b) := by simp only [twoI]; simp only [w64, wu64]; simp
theorem minusI (a b : Int) : twoI 15 a b = IntKind.i64.wrap (a - b) := by simp only [twoI]; simp only [w64, wu64]; simp
theorem timesI (a b : Int) : twoI 16 a b = IntKind.i64.wrap (a * b) := by
  have h : twoI 16 a b = IntKind.i64.wrap (IntKind.u64.wrap (IntKind.u64.wrap a * IntKind.u64.wrap b)) := by simp [twoI]
  rw [h]
  simp only [w64, wu64]
  rw [← Int.mul_emod]
  omega
theorem same_num (x y : Int) : sameE (numX x) (numX y) = (x == y) := by simp only [numX, sameE, sameL]; simp
/-- Of numbers whose answer is below 0, no rule fits. -/
theorem two_neg {op x y : Int} (h5 : 5 ≤ op) (h16 : op ≤ 16) (hx : 0 ≤ x) (hx2 : x ≤ 9223372036854775807) (hy : 0 ≤ y) (hy2 : y ≤ 9223372036854775807) (hn : ¬ 0 ≤ twoI op x y) : twoS op (numX x) (numX y) = .mk op 0 [] [numX x, numX y] := by
  have hi : ∀ a n, isX (numX a) n = (a == n) := fun a n => by simp [isX, numX, Ex.op, Ex.num]
  have ht : ∀ b, 0 ≤ truthI b := fun b => by unfold truthI; split <;> omega
  unfold twoS
  simp only [hi, same_num]
  have hop : op = 5 ∨ op = 6 ∨ op = 7 ∨ op = 8 ∨ op = 9 ∨ op = 10 ∨ op = 11 ∨ op = 12 ∨ op = 13 ∨ op = 14 ∨ op = 15 ∨ op = 16 := by omega
  rcases hop with rfl | rfl | rfl | rfl | rfl | rfl | rfl | rfl | rfl | rfl | rfl | rfl
  · exact absurd (by simp only [twoI]; exact ht _) hn
  · exact absurd (by simp only [twoI]; exact ht _) hn
  · exact absurd (by simp only [twoI]; exact ht _) hn
  · exact absurd (by simp only [twoI]; exact ht _) hn
  · exact absurd (by simp only [twoI]; exact ht _) hn
  · exact absurd (by simp only [twoI]; exact ht _) hn
  · have h1 : (y == 0) = false := by simpa using fun e : y = 0 => hn (by subst e; rw [bor_0 hx hx2]; exact hx)
    have h2 : (x == 0) = false := by simpa using fun e : x = 0 => hn (by subst e; rw [bor_0' hy hy2]; exact hy)
    rw [h1, h2]; simp
  · have h1 : (y == 0) = false := by simpa using fun e : y = 0 => hn (by subst e; rw [xor_0 hx hx2]; exact hx)
    have h2 : (x == 0) = false := by simpa using fun e : x = 0 => hn (by subst e; rw [xor_0' hy hy2]; exact hy)
    have h3 : (x == y) = false := by simpa using fun e : x = y => hn (by subst e; rw [xor_s]; omega)
    rw [h1, h2, h3]; simp
  · have h1 : (y == 0) = false := by simpa using fun e : y = 0 => hn (by subst e; rw [band_0]; omega)
    have h2 : (x == 0) = false := by simpa using fun e : x = 0 => hn (by subst e; rw [band_0']; omega)
    rw [h1, h2]; simp
  · have h1 : (y == 0) = false := by simpa using fun e : y = 0 => hn (by subst e; rw [plusI, w64]; omega)
    have h2 : (x == 0) = false := by simpa using fun e : x = 0 => hn (by subst e; rw [plusI, w64]; omega)
    rw [h1, h2]; simp
  · have h1 : (y == 0) = false := by simpa using fun e : y = 0 => hn (by subst e; rw [minusI, w64]; omega)
    have h3 : (x == y) = false := by simpa using fun e : x = y => hn (by subst e; rw [minusI, w64]; omega)
    rw [h1, h3]; simp
  · have h1 : (y == 0) = false := by simpa using fun e : y = 0 => hn (by subst e; rw [timesI, w64]; omega)
    have h2 : (x == 0) = false := by simpa using fun e : x = 0 => hn (by subst e; rw [timesI, w64]; omega)
    have h3 : (y == 1) = false := by simpa using fun e : y = 1 => hn (by subst e; rw [timesI, w64]; omega)
    have h4 : (x == 1) = false := by simpa using fun e : x = 1 => hn (by subst e; rw [timesI, w64]; omega)
    rw [h1, h2, h3, h4]; simp
theorem out_same {op : Int} {ks : List Ex} (hl : kidsI op = (ks.length : Int)) (hk : ∀ k ∈ ks, goodE k) : outX op ks = outS op ks := by
  unfold outX outS
  cases hall : ks.all (fun k => k.op == 1) with
  | false => simp only [Bool.false_and, cond_false]
  | true =>
    simp only [Bool.true_and, cond_true]
    cases hv : decide (0 ≤ (doI op (ks.map Ex.num)).1) with
    | true => simp only [cond_true]
    | false =>
      simp only [cond_false]
      have hv : ¬ 0 ≤ (doI op (ks.map Ex.num)).1 := by simpa using hv
      have hnum : ∀ k ∈ ks, k = numX k.num ∧ 0 ≤ k.num ∧ k.num ≤ 9223372036854775807 := fun k hkm => by
        have h1 := List.all_eq_true.1 hall k hkm
        refine ⟨num_of h1 (hk k hkm), ?_⟩
        obtain ⟨o, m, s, kk⟩ := k
        exact (goodE_kids (hk _ hkm)).2.2
      match ks, hl, hnum, hv with
      | [], hl, hnum, hv => rfl
      | [k], hl, hnum, hv =>
        have h1 := (hnum k (by simp)).1
        have : (k.op == 3) = false := by rw [h1]; rfl
        simp only [ruleS, this, Bool.and_false, cond_false]
      | [a, b], hl, hnum, hv =>
        have ha := hnum a (by simp)
        have hb := hnum b (by simp)
        have hop : 5 ≤ op ∧ op ≤ 16 := by
          unfold kidsI at hl
          split at hl
          · simp at hl
          · split at hl
            · simp at hl
            · split at hl
              · assumption
              · simp at hl
        have hv2 : ¬ 0 ≤ twoI op a.num b.num := by
          have : (doI op ([a, b].map Ex.num)).1 = twoI op a.num b.num := by
            simp only [List.map_cons, List.map_nil, doI]; rw [if_pos hop]
          rw [this] at hv; exact hv
        have := two_neg hop.1 hop.2 ha.2.1 ha.2.2 hb.2.1 hb.2.2 hv2
        rw [← ha.1, ← hb.1] at this
        exact this
      | a :: b :: c :: l, hl, hnum, hv =>
        exfalso
        unfold kidsI at hl
        simp only [List.length_cons] at hl
        split at hl
        · omega
        · split at hl
          · omega
          · split at hl <;> omega
end Go.Proofs.YtcbjhdklbhlmhaaGreatDoor.lex
end

/-
  One expression put into another in the place of a register (plain functions and laws).
-/
section
set_option linter.unusedVariables false
set_option linter.unusedSimpArgs false
namespace Go.Proofs.YtcbjhdklbhlmhaaGreatDoor.lex
open Go.Abs Go.RowKit
set_option maxRecDepth 100000
set_option maxHeartbeats 4000000
def hitE (nm : List UInt8) (e : Ex) : Bool := e.op == 2 && e.name == nm
mutual
def putE (nm : List UInt8) (b : Ex) : Ex → Ex
  | .mk op num name kids => bif op == 2 && name == nm then b else .mk op num name (putL nm b kids)
def putL (nm : List UInt8) (b : Ex) : List Ex → List Ex
  | [] => []
  | e :: l => putE nm b e :: putL nm b l
end
theorem putL_map (nm : List UInt8) (b : Ex) : ∀ l : List Ex, putL nm b l = l.map (putE nm b)
  | [] => by simp only [putL, List.map_nil]
  | e :: l => by simp only [putL, putL_map nm b l, List.map_cons]
mutual
def growE (nm : List UInt8) (m : Nat) : Ex → Nat
  | .mk op num name kids => bif op == 2 && name == nm then m else 1 + growL nm m kids
def growL (nm : List UInt8) (m : Nat) : List Ex → Nat
  | [] => 0
  | e :: l => growE nm m e + growL nm m l
end
mutual
theorem grow_size (nm : List UInt8) (b : Ex) : ∀ e : Ex, growE nm (sizeE b) e = sizeE (putE nm b e)
  | .mk op num name kids => by
    simp only [growE, putE]
    cases (op == 2 && name == nm) with
    | true => rfl
    | false => simp only [cond_false, sizeE, growL_size nm b kids]
theorem growL_size (nm : List UInt8) (b : Ex) : ∀ l : List Ex, growL nm (sizeE b) l = sizeL (putL nm b l)
  | [] => by simp only [growL, putL, sizeL]
  | e :: l => by simp only [growL, putL, sizeL, grow_size nm b e, growL_size nm b l]
end
mutual
theorem grow_le (nm : List UInt8) (m : Nat) : ∀ e : Ex, growE nm m e ≤ sizeE e * (m + 1)
  | .mk op num name kids => by
    have h := growL_le nm m kids
    simp only [growE, sizeE]
    rw [Nat.add_mul]
    cases (op == 2 && name == nm) with
    | true => simp only [cond_true]; omega
    | false => simp only [cond_false]; omega
theorem growL_le (nm : List UInt8) (m : Nat) : ∀ l : List Ex, growL nm m l ≤ sizeL l * (m + 1)
  | [] => by simp only [growL]; omega
  | e :: l => by
    have h1 := grow_le nm m e; have h2 := growL_le nm m l
    simp only [growL, sizeL]; rw [Nat.add_mul]; omega
end
theorem growL_take (nm : List UInt8) (m : Nat) : ∀ (l : List Ex) (i : Nat) (h : i < l.length), growL nm m (l.take (i + 1)) = growL nm m (l.take i) + growE nm m l[i]
  | e :: l, 0, h => by simp only [List.take_succ_cons, List.take_zero, growL, List.getElem_cons_zero]; omega
  | e :: l, i + 1, h => by
    have := growL_take nm m l i (by simpa using h)
    simp only [List.take_succ_cons, growL, List.getElem_cons_succ] at this ⊢; omega
theorem growL_take_le (nm : List UInt8) (m : Nat) : ∀ (l : List Ex) (i : Nat), growL nm m (l.take i) ≤ growL nm m l
  | [], i => by simp
  | e :: l, 0 => by simp [growL]
  | e :: l, i + 1 => by have := growL_take_le nm m l i; simp only [List.take_succ_cons, growL]; omega
mutual
def putP (nm : List UInt8) (b : Ex) : Ex → Int → Ex × Int
  | .mk op num name kids, l => bif op == 2 && name == nm then (b, l - (sizeE b : Int)) else (.mk op num name (putPL nm b kids (l - 1)).1, (putPL nm b kids (l - 1)).2)
def putPL (nm : List UInt8) (b : Ex) : List Ex → Int → List Ex × Int
  | [], l => ([], l)
  | e :: k, l => bif decide (0 ≤ l) then ((putP nm b e l).1 :: (putPL nm b k (putP nm b e l).2).1, (putPL nm b k (putP nm b e l).2).2) else ([], l)
end
mutual
theorem putP_eq (nm : List UInt8) (b : Ex) : ∀ (e : Ex) (l : Int), 0 ≤ l → ((sizeE (putE nm b e) : Int) ≤ l → putP nm b e l = (putE nm b e, l - (sizeE (putE nm b e) : Int))) ∧ (l < (sizeE (putE nm b e) : Int) → (putP nm b e l).2 < 0)
  | .mk op num name kids, l, hl => by
    simp only [putP, putE]
    cases (op == 2 && name == nm) with
    | true => simp only [cond_true]; exact ⟨fun _ => by simp, fun h => by omega⟩
    | false =>
      obtain ⟨h1, h2⟩ := putPL_eq nm b kids (l - 1) (by omega)
      simp only [cond_false, sizeE]
      refine ⟨fun h => ?_, fun h => h2 (by omega)⟩
      rw [h1 (by omega)]
      simp only [Prod.mk.injEq, true_and]; omega
theorem putPL_eq (nm : List UInt8) (b : Ex) : ∀ (k : List Ex) (l : Int), -1 ≤ l → ((sizeL (putL nm b k) : Int) ≤ l → putPL nm b k l = (putL nm b k, l - (sizeL (putL nm b k) : Int))) ∧ (l < (sizeL (putL nm b k) : Int) → (putPL nm b k l).2 < 0)
  | [], l, hl => by
    simp only [putPL, putL, sizeL]
    exact ⟨fun _ => by simp, fun h => by omega⟩
  | e :: k, l, hl => by
    simp only [putPL, putL, sizeL]
    by_cases h0 : 0 ≤ l
    · rw [show decide (0 ≤ l) = true by simpa using h0]
      simp only [cond_true]
      obtain ⟨h1, h2⟩ := putP_eq nm b e l h0
      have hp := sizeE_pos (putE nm b e)
      by_cases hs : (sizeE (putE nm b e) : Int) ≤ l
      · rw [h1 hs]
        obtain ⟨h3, h4⟩ := putPL_eq nm b k (l - (sizeE (putE nm b e) : Int)) (by omega)
        refine ⟨fun h => ?_, fun h => h4 (by omega)⟩
        rw [h3 (by omega)]
        simp only [Prod.mk.injEq, true_and]; omega
      · have h5 := h2 (by omega)
        refine ⟨fun h => by omega, fun h => ?_⟩
        have h6 : ∀ (k : List Ex) (m : Int), m < 0 → (putPL nm b k m).2 < 0 := by
          intro k m hm
          cases k with
          | nil => simpa only [putPL] using hm
          | cons x k => simp only [putPL]; rw [show decide (0 ≤ m) = false by simpa using hm]; exact hm
        exact h6 _ _ h5
    · rw [show decide (0 ≤ l) = false by simpa using h0]
      simp only [cond_false]
      exact ⟨fun h => by omega, fun h => by omega⟩
end
mutual
theorem good_put {nm : List UInt8} {b : Ex} (hb : goodE b) : ∀ {e : Ex}, goodE e → goodE (putE nm b e)
  | .mk op num name kids, h => by
    obtain ⟨g1, g2, _⟩ := goodE_kids h
    simp only [putE]
    cases (op == 2 && name == nm) with
    | true => exact hb
    | false =>
      simp only [cond_false]
      have hk := good_putL (nm := nm) hb (l := kids) g2
      obtain ⟨h1, h2, h3⟩ := h
      have hl : (putL nm b kids).length = kids.length := by rw [putL_map]; simp
      refine ⟨?_, ?_, ?_⟩
      · simp only [rightE, Bool.and_eq_true] at h1 ⊢
        rw [hl]
        exact ⟨h1.1, rightL_iff.2 fun x hx => (hk x hx).1⟩
      · simp only [inE] at h2 ⊢
        exact ⟨h2.1, inL_of fun x hx => (hk x hx).2.1⟩
      · simp only [okE, okN] at h3 ⊢
        rw [hl]
        exact ⟨h3.1, okL_of fun x hx => (hk x hx).2.2⟩
theorem good_putL {nm : List UInt8} {b : Ex} (hb : goodE b) : ∀ {l : List Ex}, (∀ e ∈ l, goodE e) → ∀ x ∈ putL nm b l, goodE x
  | [], h, x, hx => by simp [putL] at hx
  | e :: l, h, x, hx => by
    simp only [putL] at hx
    rcases List.mem_cons.1 hx with rfl | hx
    · exact good_put hb (h e (by simp))
    · exact good_putL hb (fun y hy => h y (by simp [hy])) x hx
end
end Go.Proofs.YtcbjhdklbhlmhaaGreatDoor.lex
end

/-
  Made simple: the program's simple.
-/
section
set_option linter.unusedVariables false
set_option linter.unusedSimpArgs false
namespace Go.Proofs.YtcbjhdklbhlmhaaGreatDoor.lex
open Go.Abs Go.RowKit
set_option maxRecDepth 100000
set_option maxHeartbeats 4000000
variable {gl : Glob}
def famSelf {f : Nat} (hb : hasBody Tryz.prog f = true) (G : Ex → Prop) (r : Ex → AV) (h : ∀ x, G x → ValOK Tryz.prog gl f [.agg x.cells] (r x)) : Fam Tryz.prog gl := { I := Ex, f := f, G := G, A := fun x => [.agg x.cells], R := r, body := hb, inj := (fun i j _ _ h => by rw [agg_inj h]), ok := (fun x hx => ⟨ex_refs x, h x hx⟩) }
theorem exAt_cell (l : List Ex) (i : Nat) (h : i < l.length) : ∃ rest, (exAt l (i + 1)).drop (i * 4) = l[i].cells ++ rest := by
  refine ⟨repl (l.length - (i + 1)) [.int .i64 0, .int .i64 0, .str [], .nslice], ?_⟩
  rw [← exAt_next l i h]
  have hl : (exC (l.take i)).length = i * 4 := by rw [exC_len, List.length_take, Nat.min_eq_left (by omega)]
  rw [List.drop_append_of_le_length (by omega), List.drop_of_length_le (by omega), List.nil_append]
theorem exAt_op (l : List Ex) (i : Nat) (h : i < l.length) : tk 1 ((exAt l (i + 1)).drop (0 + i * 4 + 0)) = some [.int .i64 l[i].op] := by
  obtain ⟨rest, hr⟩ := exAt_cell l i h
  rw [show 0 + i * 4 + 0 = i * 4 by omega, hr]
  generalize l[i] = x
  obtain ⟨o, m, s, k⟩ := x; rfl
theorem exAt_num (l : List Ex) (i : Nat) (h : i < l.length) : tk 1 ((exAt l (i + 1)).drop (0 + i * 4 + 1)) = some [.int .i64 l[i].num] := by
  obtain ⟨rest, hr⟩ := exAt_cell l i h
  rw [show 0 + i * 4 + 1 = i * 4 + 1 by omega, ← List.drop_drop, hr]
  generalize l[i] = x
  obtain ⟨o, m, s, k⟩ := x; rfl
theorem allE_take (f : Ex → Bool) : ∀ (l : List Ex) (i : Nat) (h : i < l.length), (l.take (i + 1)).all f = ((l.take i).all f && f l[i])
  | e :: l, 0, h => by simp
  | e :: l, i + 1, h => by
    have := allE_take f l i (by simpa using h)
    simp only [List.take_succ_cons, List.all_cons, List.getElem_cons_succ] at this ⊢; rw [this, Bool.and_assoc]
theorem simpleX_ok : ∀ (n : Nat) (e : Ex), sizeE e ≤ n → goodE e → sizeE e ≤ 1048576 → ValOK Tryz.prog gl 24 [.agg e.cells] (.agg (simpE e).cells)
  | n, .mk op num name kids, h, hg, hs => by
    obtain ⟨O, hO, p1, p2, p3, -⟩ := fams (P := Tryz.prog) (gl := gl) [famSelf (f := 24) (by kernel_rfl) (fun x => sizeE x < n ∧ goodE x ∧ sizeE x ≤ 1048576) (fun x => .agg (simpE x).cells) (fun x hx => match n, hx.1 with | n + 1, h => simpleX_ok n x (by omega) hx.2.1 hx.2.2),
      { I := Int × Ex × Ex, f := 45, G := fun x => (5 ≤ x.1 ∧ x.1 ≤ 16) ∧ okE x.2.1, A := fun x => [.int .i64 x.1, .agg x.2.1.cells, .agg x.2.2.cells], R := fun x => .agg (twoS x.1 x.2.1 x.2.2).cells, body := (by kernel_rfl), inj := (fun i j _ _ h => by
        simp only [List.cons.injEq, AV.int.injEq, and_true, true_and] at h
        rw [h.1, agg_inj (a := i.2.1) (b := j.2.1) (by rw [h.2.1]), agg_inj (a := i.2.2) (b := j.2.2) (by rw [h.2.2])]), ok := (fun x hx => ⟨by obtain ⟨op, ⟨a, b, c, d⟩, ⟨a', b', c', d'⟩⟩ := x; rfl, simpleTwo_ok _ _ _ hx.1.1 hx.1.2 hx.2⟩) },
      { I := Int, f := 44, G := fun _ => True, A := fun v => [.int .i64 v], R := fun v => .agg (numX v).cells, body := (by kernel_rfl), inj := (fun i j _ _ h => by simp only [List.cons.injEq, AV.int.injEq, and_true, true_and] at h; rw [h]), ok := (fun v _ => ⟨rfl, numXp_ok v⟩) }] rfl
    have hO2 := orcOr_sound (doF_sound (gl := gl)) hO
    have q1 : ∀ x, sizeE x < n → goodE x → sizeE x ≤ 1048576 → ∀ H, acall Tryz.prog (orcOr (orcZ doF) O) H 24 [.agg x.cells] = some (.agg (simpE x).cells, H) := fun x h1 h2 h3 H => callOr2 (by kernel_rfl) (orcZ_none fun _ => rfl) (p1 x ⟨h1, h2, h3⟩ H)
    have q2 : ∀ op a b, (5 ≤ op ∧ op ≤ 16) → okE a → ∀ H, acall Tryz.prog (orcOr (orcZ doF) O) H 45 [.int .i64 op, .agg a.cells, .agg b.cells] = some (.agg (twoS op a b).cells, H) := fun op a b h1 h2 H => callOr2 (by kernel_rfl) (orcZ_none fun _ => rfl) (p2 (op, a, b) ⟨h1, h2⟩ H)
    have qn : ∀ v H, acall Tryz.prog (orcOr (orcZ doF) O) H 44 [.int .i64 v] = some (.agg [.int .i64 1, .int .i64 v, .str [], .rs 0 4 []], H) := fun v H => callOr2 (by kernel_rfl) (orcZ_none fun _ => rfl) (p3 v trivial H)
    have qd : ∀ (H : AHeap) (b f m : Nat) (op : Int) (l : List Int) (ty : TypeId), H[b]? = some ⟨true, f, 0, .cells (ksC l) ty⟩ → l.length = m → acall Tryz.prog (orcOr (orcZ doF) O) H 17 [.int .i64 op, .slice b 0 m m 1] = some (.tuple [.int .i64 (doI op l).1, .int .i64 (doI op l).2], H) := fun H b f m op l ty hH hm => by
      subst hm
      refine callOr1 (by kernel_rfl) (callZ (fa := [.int .i64 op, .rs l.length 1 (ksC l)]) (by kernel_rfl) ?_ ?_)
      · have h1 : frz H 30 (.slice b 0 l.length l.length 1) = some (.rs l.length 1 (ksC l)) := frz_slice hH (by rw [ksC_len]; simp) (ksC_lit _)
        simp only [frzL, h1]; rfl
      · show (match intsOf (ksC l) with | some l => _ | none => none) = _
        rw [show intsOf (ksC l) = some l from intsOf_map _]
    clear p1 p2 p3
    generalize orcOr (orcZ doF) O = O2 at *
    have hlen := sizeL_len kids
    simp only [sizeE] at h hs
    obtain ⟨hkl, hkg, -⟩ := goodE_kids hg
    by_cases hk0 : kids = []
    · subst hk0
      simp only [simpE, Ex.cells, exA, exC]
      refine fn_valW follows noNum hO2 Tryz.func24 rfl ?_
      repeat' ((conv => whnf); first | refine stp ?_ | with_reducible refine condB (fun h => ?_) (fun h => ?_))
      all_goals exact fun _ _ h => nil4 h
    · have hop : 3 ≤ op ∧ op ≤ 16 := by
        cases kids with
        | nil => exact absurd rfl hk0
        | cons k l => exact kidsI_op (n := l.length) hkl
      have hk1 : kids.length ≠ 0 := fun e => hk0 (List.eq_nil_of_length_eq_zero e)
      rw [simpE_kids _ _ _ _ hk0, ← out_same (by rw [hkl]; simp) (fun k hk => by obtain ⟨x, hx, rfl⟩ := List.mem_map.1 hk; exact good_simp (hkg x hx))]
      have e0 : ((kids.length : Int) == 0) = false := by simpa using hk0
      have hm := mkE_ok kids.length (by omega)
      have hm2 := mkI_ok kids.length (by omega)
      simp only [Ex.cells, exA]
      refine fn_valW follows noNum hO2 Tryz.func24 rfl ?_
      repeat' ((conv => whnf); first | (refine exI (hm _) ?_) | (refine exI (hm2 _) ?_) | (first | refine stp ?_ | with_reducible refine condB (fun h => ?_) (fun h => ?_)))
      conv => whnf
      obtain ⟨ks, hks⟩ : ∃ ks, kids.map simpE = ks := ⟨_, rfl⟩
      have hksl : ks.length = kids.length := by rw [← hks]; simp
      have hksg : ∀ k ∈ ks, goodE k := fun k hk => by rw [← hks] at hk; obtain ⟨x, hx, rfl⟩ := List.mem_map.1 hk; exact good_simp (hkg x hx)
      rw [hks]
      have hnl : (ks.map Ex.num).length = kids.length := by rw [List.length_map, hksl]
      refine ⟨Nat, (fun i => i ≤ kids.length), (fun i => [(1, .ptr 0 0), (2, .ptr 1 0), (3, .slice 2 0 kids.length kids.length 4), (4, .slice 3 0 kids.length kids.length 1), (5, .bool ((ks.take i).all fun k => k.op == 1)), (30, .rs kids.length 4 (exC kids)), (31, .int .i64 kids.length), (32, .int .i64 i)]),
        (fun i => [⟨true, 0, 0, .cells [.int .i64 op, .int .i64 num, .str name, .rs kids.length 4 (exC kids)] 24⟩, ⟨true, 1, 0, .cells [.int .i64 0, .int .i64 0, .str [], .nslice] 24⟩, ⟨true, 2, 0, .cells (exAt ks i) 24⟩, ⟨true, 3, 0, .cells (evAt kids.length i (ks.map Ex.num)) 2⟩]), (fun i => kids.length - i), ⟨0, Nat.zero_le _, ?_⟩, ?_⟩
      · refine FgL.mk [0, 1, 2, 3] rfl ⟨Wk.ptr rfl rfl, Wk.ptr rfl rfl, Wk.slice rfl rfl rfl (Nat.le_refl _) (Nat.le_refl _) rfl, Wk.slice rfl rfl rfl (Nat.le_refl _) (Nat.le_refl _) rfl, Wk.bool rfl, Wk.noref rfl, Wk.int rfl, Wk.int rfl, trivial⟩ ⟨⟨rfl, rfl, rfl, rfl, BodyGe.pre (rest := []) rfl rfl⟩, ⟨rfl, rfl, rfl, rfl, BodyGe.pre (rest := []) rfl rfl⟩, ⟨rfl, rfl, rfl, rfl, BodyGe.pre (rest := []) ?_ (exAt_refs _ _)⟩, ⟨rfl, rfl, rfl, rfl, BodyGe.pre (rest := []) ?_ ?_⟩, trivial⟩ rfl
        · rw [exAt_zero, hksl]; simp
        · have := evAt_zero (ks.map Ex.num)
          rw [hnl] at this
          rw [this]; simp
        · have := evAt_refs (ks.map Ex.num) 0
          rw [hnl] at this; exact this
      intro i hi
      dsimp only
      by_cases hlt : i < kids.length
      · have e1 : decide ((i : Int) < (kids.length : Int)) = true := by simpa using hlt
        have hlk : i < ks.length := by omega
        have hx := ex4 kids i hlt
        have hsz := sizeL_mem _ _ (get_mem hlt)
        have q3 := q1 kids[i] (by omega) (hkg _ (get_mem hlt)) (by omega)
        have hxs : simpE kids[i] = ks[i] := by simp only [← hks, List.getElem_map]
        have hsp := exAt_set ks i (0 + i * 4) hlk (by omega)
        have ho := exAt_op ks i hlk
        have hn := exAt_num ks i hlk
        have hsp2 := evAt_set (ks.map Ex.num) i (0 + i * 1) (by rw [hnl]; exact hlt) (by omega)
        have hrf2 := evAt_refs (ks.map Ex.num) (i + 1)
        have hrf := exAt_refs ks (i + 1)
        simp only [List.length_map, List.getElem_map, hksl] at hsp2 hrf2
        have hal := allE_take (fun k => k.op == 1) ks i hlk
        rw [hxs] at q3
        generalize hnx : exAt ks (i + 1) = nx at *
        generalize hnx2 : evAt kids.length (i + 1) (ks.map Ex.num) = nx2 at *
        generalize exAt ks i = cx at *
        generalize evAt kids.length i (ks.map Ex.num) = cx2 at *
        generalize hw2 : (ks.take (i + 1)).all (fun k => k.op == 1) = w2 at *
        generalize (ks.take i).all (fun k => k.op == 1) = w at *
        generalize ks[i] = y at *
        generalize kids[i] = x at *
        clear hxs q1 q2 qn qd
        obtain ⟨xo, xn, xs, xk⟩ := x
        obtain ⟨yo, yn, ys, yk⟩ := y
        simp only [Ex.cells, Ex.op, Ex.num] at hx q3 hsp ho hn hsp2 hal
        cases w with
        | true =>
          simp only [Bool.true_and] at hal
          repeat' ((conv => whnf); first | (refine exI (q3 _) ?_) | (with_reducible refine ixJ i rfl ?_ ?_; (focus (omega))) | (refine exI hx ?_) | (refine exI hsp ?_) | (refine exI hsp2 ?_) | (refine exI ho ?_) | (refine exI hn ?_) | (first | refine stp ?_ | with_reducible refine condB (fun h => ?_) (fun h => ?_)))
          conv => whnf
          refine ⟨i + 1, hlt, by show kids.length - (i + 1) < kids.length - i; omega, ?_⟩
          rw [hnx, hnx2, hw2]
          exact FgL.mk [0, 1, 2, 3] rfl ⟨Wk.ptr rfl rfl, Wk.ptr rfl rfl, Wk.slice rfl rfl rfl (Nat.le_refl _) (Nat.le_refl _) rfl, Wk.slice rfl rfl rfl (Nat.le_refl _) (Nat.le_refl _) rfl, Wk.bool hal.symm, Wk.noref rfl, Wk.int rfl, Wk.int rfl, trivial⟩ ⟨⟨rfl, rfl, rfl, rfl, BodyGe.pre (rest := []) rfl rfl⟩, ⟨rfl, rfl, rfl, rfl, BodyGe.pre (rest := []) rfl rfl⟩, ⟨rfl, rfl, rfl, rfl, BodyGe.pre (rest := []) (by simp) hrf⟩, ⟨rfl, rfl, rfl, rfl, BodyGe.pre (rest := []) (by simp) hrf2⟩, trivial⟩ rfl
        | false =>
          simp only [Bool.false_and] at hal
          repeat' ((conv => whnf); first | (refine exI (q3 _) ?_) | (with_reducible refine ixJ i rfl ?_ ?_; (focus (omega))) | (refine exI hx ?_) | (refine exI hsp ?_) | (refine exI hsp2 ?_) | (refine exI ho ?_) | (refine exI hn ?_) | (first | refine stp ?_ | with_reducible refine condB (fun h => ?_) (fun h => ?_)))
          conv => whnf
          refine ⟨i + 1, hlt, by show kids.length - (i + 1) < kids.length - i; omega, ?_⟩
          rw [hnx, hnx2, hw2]
          exact FgL.mk [0, 1, 2, 3] rfl ⟨Wk.ptr rfl rfl, Wk.ptr rfl rfl, Wk.slice rfl rfl rfl (Nat.le_refl _) (Nat.le_refl _) rfl, Wk.slice rfl rfl rfl (Nat.le_refl _) (Nat.le_refl _) rfl, Wk.bool hal.symm, Wk.noref rfl, Wk.int rfl, Wk.int rfl, trivial⟩ ⟨⟨rfl, rfl, rfl, rfl, BodyGe.pre (rest := []) rfl rfl⟩, ⟨rfl, rfl, rfl, rfl, BodyGe.pre (rest := []) rfl rfl⟩, ⟨rfl, rfl, rfl, rfl, BodyGe.pre (rest := []) (by simp) hrf⟩, ⟨rfl, rfl, rfl, rfl, BodyGe.pre (rest := []) (by simp) hrf2⟩, trivial⟩ rfl
      · have e1 : decide ((i : Int) < (kids.length : Int)) = false := by simpa using hlt
        have hi2 : i = kids.length := by have := hi; omega
        subst hi2
        have hx1 : exAt ks kids.length = exC ks := by rw [← hksl]; exact exAt_all ks
        have hx2 : evAt kids.length kids.length (ks.map Ex.num) = ksC (ks.map Ex.num) := by have := evAt_all (ks.map Ex.num); rw [hnl] at this; exact this
        rw [hx1, hx2, List.take_of_length_le (by omega)]
        have hv := fun (H : AHeap) hH => qd H 3 3 kids.length op (ks.map Ex.num) 2 hH hnl
        clear qd q1 hx1 hx2
        unfold outX
        generalize hvv : (doI op (ks.map Ex.num)).1 = v at *
        generalize (doI op (ks.map Ex.num)).2 = v2 at *
        generalize hal : ks.all (fun k => k.op == 1) = w at *
        have q2 := q2 op
        have hkl2 : kidsI op = (ks.length : Int) := by rw [hkl, hksl]
        rw [← hksl] at hv e1 ⊢
        generalize hkk : exC kids = ck
        clear hks hnl hksl hkl hkg hm hm2 e0 hlt hi hlen h hs hg hkk
        have hfin : ∀ vv : Ex, (bif w && decide (0 ≤ v) then numX v else ruleS op ks) = vv → (bif w && decide (0 ≤ v) then numX v else ruleS op ks) = vv := fun _ h => h
        by_cases hnum : w = true ∧ 0 ≤ v
        · obtain ⟨rfl, h0⟩ := hnum
          have e2 : decide (v ≥ 0) = true := by simpa using h0
          have e3 : decide (0 ≤ v) = true := by simpa using h0
          rw [e3]
          simp only [Bool.and_self, cond_true, numX, Ex.cells, exA, exC, List.length_nil]
          repeat' ((conv => whnf); first | (refine exI (hv _ rfl) ?_) | (with_reducible refine exI (qn _ _) ?_) | (first | refine stp ?_ | with_reducible refine condB (fun h => ?_) (fun h => ?_)))
          all_goals exact fun _ _ h => h
        · have e3 : (w && decide (0 ≤ v)) = false := by
            rw [Bool.and_eq_false_iff]
            by_cases hw : w = true
            · exact .inr (by simpa using fun h => hnum ⟨hw, h⟩)
            · exact .inl (by simpa using hw)
          rw [e3, cond_false]
          have hcase : w = false ∨ (w = true ∧ decide (v ≥ 0) = false) := by
            cases w with
            | false => exact .inl rfl
            | true => exact .inr ⟨rfl, by simpa using fun h => hnum ⟨rfl, h⟩⟩
          have hlen2 : ks.length = 1 ∧ (op = 3 ∨ op = 4) ∨ ks.length = 2 ∧ (5 ≤ op ∧ op ≤ 16) := by
            unfold kidsI at hkl2
            split at hkl2
            · omega
            · split at hkl2
              · left; omega
              · right
                rw [if_pos (by omega)] at hkl2
                omega
          rcases hlen2 with ⟨hl1, hop2⟩ | ⟨hl2, hop2⟩
          · match ks, hl1 with
            | [x], _ =>
              have hgx := hksg x (by simp)
              obtain ⟨xo, xn, xs, xk⟩ := x
              clear q2 hksg
              rcases hop2 with rfl | rfl
              · by_cases hx3 : xo = 3
                · subst hx3
                  obtain ⟨g1, g2, _⟩ := goodE_kids hgx
                  have hxl : xk.length = 1 := by have : (1 : Int) = xk.length := g1; omega
                  match xk, hxl with
                  | [z], _ =>
                    obtain ⟨zo, zn, zs, zk⟩ := z
                    simp only [ruleS, Ex.op, Ex.kids, exC, Ex.cells, List.length_cons, List.length_nil, exA, beq_self_eq_true, Bool.and_self, cond_true, List.headD_cons, List.cons_append, List.nil_append] at hv e1 ⊢
                    rcases hcase with rfl | ⟨rfl, e2⟩
                    · repeat' ((conv => whnf); first | (refine exI (hv _ rfl) ?_) | (first | refine stp ?_ | with_reducible refine condB (fun h => ?_) (fun h => ?_)))
                      all_goals exact fun _ _ h => h
                    · repeat' ((conv => whnf); first | (refine exI (hv _ rfl) ?_) | (first | refine stp ?_ | with_reducible refine condB (fun h => ?_) (fun h => ?_)))
                      all_goals exact fun _ _ h => h
                · have ex3 : (xo == 3) = false := by simpa using hx3
                  simp only [ruleS, Ex.op, ex3, Bool.and_false, cond_false, Ex.kids, exC, Ex.cells, List.length_cons, List.length_nil, exA, List.cons_append, List.nil_append] at hv e1 ⊢
                  rcases hcase with rfl | ⟨rfl, e2⟩
                  · repeat' ((conv => whnf); first | (refine exI (hv _ rfl) ?_) | (first | refine stp ?_ | with_reducible refine condB (fun h => ?_) (fun h => ?_)))
                    all_goals exact fun _ _ h => h
                  · repeat' ((conv => whnf); first | (refine exI (hv _ rfl) ?_) | (first | refine stp ?_ | with_reducible refine condB (fun h => ?_) (fun h => ?_)))
                    all_goals exact fun _ _ h => h
              · simp only [ruleS, Ex.op, show ((4 : Int) == 3) = false from rfl, Bool.false_and, cond_false, Ex.kids, exC, Ex.cells, List.length_cons, List.length_nil, exA, List.cons_append, List.nil_append] at hv e1 ⊢
                rcases hcase with rfl | ⟨rfl, e2⟩
                · repeat' ((conv => whnf); first | (refine exI (hv _ rfl) ?_) | (first | refine stp ?_ | with_reducible refine condB (fun h => ?_) (fun h => ?_)))
                  all_goals exact fun _ _ h => h
                · repeat' ((conv => whnf); first | (refine exI (hv _ rfl) ?_) | (first | refine stp ?_ | with_reducible refine condB (fun h => ?_) (fun h => ?_)))
                  all_goals exact fun _ _ h => h
          · match ks, hl2 with
            | [x, y], _ =>
              have q3 := q2 x y hop2 (hksg x (by simp)).2.2
              have hgx := hksg x (by simp)
              clear q2 hksg
              simp only [ruleS] at *
              generalize twoS op x y = t at *
              obtain ⟨xo, xn, xs, xk⟩ := x
              obtain ⟨yo, yn, ys, yk⟩ := y
              obtain ⟨to, tn, ts, tk'⟩ := t
              simp only [exC, Ex.cells, List.length_cons, List.length_nil, exA, List.cons_append, List.nil_append] at hv e1 q3 ⊢
              rcases hcase with rfl | ⟨rfl, e2⟩
              · repeat' ((conv => whnf); first | (refine exI (hv _ rfl) ?_) | (with_reducible refine exI (q3 _) ?_) | (first | refine stp ?_ | with_reducible refine condB (fun h => ?_) (fun h => ?_)))
                all_goals exact fun _ _ h => h
              · repeat' ((conv => whnf); first | (refine exI (hv _ rfl) ?_) | (with_reducible refine exI (q3 _) ?_) | (first | refine stp ?_ | with_reducible refine condB (fun h => ?_) (fun h => ?_)))
                all_goals exact fun _ _ h => h
end Go.Proofs.YtcbjhdklbhlmhaaGreatDoor.lex
end

/-
  Made simple: the document's.
-/
section
set_option linter.unusedVariables false
set_option linter.unusedSimpArgs false
namespace Go.Proofs.YtcbjhdklbhlmhaaGreatDoor.lex
open Go.Abs Go.RowKit
set_option maxRecDepth 100000
set_option maxHeartbeats 4000000
variable {gl : Glob}
theorem isR_ok (e : Ex) (n : Int) : ValOK Tryz.prog gl 69 [.agg e.cells, .int .i64 n] (.bool (isX e n)) := by
  obtain ⟨op, num, name, kids⟩ := e
  simp only [Ex.cells]
  refine fn_val follows noNum none_sound Tryz.func69 rfl ?_
  repeat' ((conv => whnf); first | refine stp ?_ | with_reducible refine condB (fun h => ?_) (fun h => ?_))
  all_goals (simp_all [resOf, isX, Ex.op, Ex.num])
theorem frz_agg4 {H : AHeap} {n : Nat} {a b c u r : AV} (ha : lit a = true) (hb : lit b = true) (hc : lit c = true) (h : frz H (n + 1) u = some r) : frz H (n + 2) (.agg [a, b, c, u]) = some (.agg [a, b, c, r]) := by
  have h2 : frzL (frz H (n + 1)) [a, b, c, u] = some [a, b, c, r] := by simp only [frzL, frz_lit ha, frz_lit hb, frz_lit hc, h]
  unfold frz
  show (match frzL (frz H (n + 1)) [a, b, c, u] with | some l => some (AV.agg l) | none => none) = _
  rw [h2]
theorem exC_cons4 (z : Ex) (o : List Ex) : (exC (z :: o)).length = (o.length + 1) * 4 := by rw [exC_len]; simp
theorem exC_snoc (z : Ex) (o : List Ex) (x : Ex) : exC (z :: o) ++ x.cells = exC (z :: o.append [x]) ++ [] := by
  rw [List.append_nil]
  show _ = exC ((z :: o) ++ [x])
  rw [exC_app]; simp [exC]
theorem exC_refs (o : List Ex) : refsL (exC o) [] = [] := refsL_flat (flat12 (exC_flat o))
theorem copyR_ok : ∀ (n : Nat) (e : Ex), sizeE e ≤ n → okE e → sizeE e ≤ 1048576 → ValOK Tryz.prog gl 46 [.agg e.cells] (.agg e.cells)
  | n, .mk op num name kids, h, hok, hs => by
    obtain ⟨O, hO, p1, -⟩ := fams (P := Tryz.prog) (gl := gl) [famSelf (f := 46) (by kernel_rfl) (fun x => sizeE x < n ∧ okE x ∧ sizeE x ≤ 1048576) (fun x => .agg x.cells) (fun x hx => match n, hx.1 with | n + 1, h => copyR_ok n x (by omega) hx.2.1 hx.2.2)] rfl
    have q1 : ∀ x, sizeE x < n → okE x → sizeE x ≤ 1048576 → ∀ H, acall Tryz.prog O H 46 [.agg x.cells] = some (.agg x.cells, H) := fun x h1 h2 h3 => p1 x ⟨h1, h2, h3⟩
    clear p1
    have hlen := sizeL_len kids
    have hki := okE_kids hok
    simp only [Ex.kids, Ex.name, okN] at hki
    simp only [sizeE] at h hs
    have hT : appT Tryz.prog 22 22 = some (24, 4, 56) := by kernel_rfl
    simp only [Ex.cells, exA]
    refine fn_valW follows noNum hO Tryz.func46 rfl ?_
    repeat' ((conv => whnf); first | refine stp ?_ | with_reducible refine condB (fun h => ?_) (fun h => ?_))
    conv => whnf
    refine ⟨Nat, (fun i => i ≤ kids.length), (fun i => [(1, .ptr 0 0), (2, .ptr 1 0), (3, .ptr 2 0), (4, .int .i64 i)]),
      (fun i => ⟨true, 0, 0, .cells [.int .i64 op, .int .i64 num, .str name, .rs kids.length 4 (exC kids)] 24⟩ :: ⟨true, 1, 0, .cells [.int .i64 0, .int .i64 0, .str [], .nslice] 24⟩ :: ⟨true, 2, 0, .cells [.int .i64 op, .int .i64 num, .str name, grA 3 4 (kids.take i)] 24⟩ :: grB 3 exC 24 (kids.take i)), (fun i => kids.length - i), ⟨0, Nat.zero_le _, ?_⟩, ?_⟩
    · exact FgL.mk [0, 1, 2] rfl ⟨Wk.ptr rfl rfl, Wk.ptr rfl rfl, Wk.ptr rfl rfl, Wk.int rfl, trivial⟩ ⟨⟨rfl, rfl, rfl, rfl, BodyGe.pre (rest := []) rfl rfl⟩, ⟨rfl, rfl, rfl, rfl, BodyGe.pre (rest := []) rfl rfl⟩, ⟨rfl, rfl, rfl, rfl, BodyGe.pre (rest := []) rfl rfl⟩, trivial⟩ rfl
    intro i hi
    dsimp only
    by_cases hlt : i < kids.length
    · have e1 : decide ((i : Int) < (kids.length : Int)) = true := by simpa using hlt
      have hx := ex4 kids i hlt
      have hsz := sizeL_mem _ _ (get_mem hlt)
      have q2 := q1 kids[i] (by omega) (okL_get hki.2 _ (get_mem hlt)) (by omega)
      have hnx : kids.take (i + 1) = kids.take i ++ [kids[i]] := List.take_succ_eq_append_getElem hlt
      have hol : (kids.take i).length ≤ 1048576 := by rw [List.length_take]; omega
      generalize kids.take i = o at *
      generalize kids[i] = x at *
      obtain ⟨xo, xn, xs, xk⟩ := x
      simp only [Ex.cells, exA] at hx q2
      cases o with
      | nil =>
        repeat' ((conv => whnf); first | (with_reducible refine exI (q2 _) ?_) | (with_reducible refine ixJ i rfl ?_ ?_; (focus (omega))) | (refine exI hx ?_) | (refine apS ?_) | (first | refine stp ?_ | with_reducible refine condB (fun h => ?_) (fun h => ?_)))
        conv => whnf
        refine ⟨i + 1, hlt, by show kids.length - (i + 1) < kids.length - i; omega, ?_⟩
        rw [hnx]
        exact FgL.mk [0, 1, 2, 4] rfl ⟨Wk.ptr rfl rfl, Wk.ptr rfl rfl, Wk.ptr rfl rfl, Wk.int rfl, trivial⟩ ⟨⟨rfl, rfl, rfl, rfl, BodyGe.pre (rest := []) rfl rfl⟩, ⟨rfl, rfl, rfl, rfl, BodyGe.pre (rest := []) rfl rfl⟩, ⟨rfl, rfl, rfl, rfl, BodyGe.cellsL ⟨Wk.noref rfl, Wk.noref rfl, Wk.noref rfl, Wk.slice rfl rfl rfl (Nat.le_refl _) (Nat.le_refl _) rfl, trivial⟩⟩, ⟨rfl, rfl, rfl, rfl, BodyGe.pre (rest := []) rfl (exC_refs _)⟩, trivial⟩ rfl
      | cons z o =>
        have hcl := exC_cons4 z o
        simp only [List.length_cons] at hol
        repeat' ((conv => whnf); first | (with_reducible refine exI (q2 _) ?_) | (with_reducible refine ixJ i rfl ?_ ?_; (focus (omega))) | (refine exI hx ?_) | (refine apS ?_) | (first | refine stp ?_ | with_reducible refine condB (fun h => ?_) (fun h => ?_)))
        conv => whnf
        refine ⟨i + 1, hlt, by show kids.length - (i + 1) < kids.length - i; omega, ?_⟩
        rw [hnx]
        exact FgL.mk [0, 1, 2, 5] rfl ⟨Wk.ptr rfl rfl, Wk.ptr rfl rfl, Wk.ptr rfl rfl, Wk.int rfl, trivial⟩ ⟨⟨rfl, rfl, rfl, rfl, BodyGe.pre (rest := []) rfl rfl⟩, ⟨rfl, rfl, rfl, rfl, BodyGe.pre (rest := []) rfl rfl⟩, ⟨rfl, rfl, rfl, rfl, BodyGe.cellsL ⟨Wk.noref rfl, Wk.noref rfl, Wk.noref rfl, Wk.slice rfl rfl (by simp) (Nat.le_refl _) (by simp) rfl, trivial⟩⟩, ⟨rfl, rfl, rfl, rfl, BodyGe.pre (rest := []) (exC_snoc z o (.mk xo xn xs xk)) (exC_refs _)⟩, trivial⟩ rfl
    · have e1 : decide ((i : Int) < (kids.length : Int)) = false := by simpa using hlt
      have hi2 : i = kids.length := by have := hi; omega
      subst hi2
      rw [List.take_length]
      generalize hkk : kids = kk
      rw [hkk] at e1
      clear hkk
      cases kk with
      | nil =>
        repeat' ((conv => whnf); first | refine stp ?_ | with_reducible refine condB (fun h => ?_) (fun h => ?_))
        all_goals exact fun _ _ h => nil4 h
      | cons z o =>
        repeat' ((conv => whnf); first | refine stp ?_ | with_reducible refine condB (fun h => ?_) (fun h => ?_))
        conv => whnf
        exact ⟨_, frz_agg4 rfl rfl rfl (frz_sliceF (b := 3) rfl (exC_cons4 z o) (exC_flat (z :: o))), fun _ _ h => h⟩
end Go.Proofs.YtcbjhdklbhlmhaaGreatDoor.lex
end


/-
  Texts of this proof, one behind the other (part 8).
-/
import Derived.Test.YtblnhcafobifgaaGreatDoorPack7


section

set_option linter.unusedVariables false
set_option linter.unusedSimpArgs false
namespace Go.Proofs.YtblnhcafobifgaaGreatDoor.lex
open Go.Abs Go.RowKit
set_option maxRecDepth 100000
set_option maxHeartbeats 8000000
variable {gl : Glob}
theorem rights_ok : ∀ (n : Nat) (l : List St), sizeSL l ≤ n → okSL l → sizeSL l ≤ 1048576 → ValOK Tryz.prog gl 69 [stA l] (.bool (rightSL l))
  | n, l, h, hok, hb => by
    obtain ⟨O, hO, p1, p2, p3, p4, -⟩ := fams (P := Tryz.prog) (gl := gl) [famSL (g := 69) (by kernel_rfl) (fun x => .bool (rightSL x)) (fun x => sizeSL x < n ∧ okSL x ∧ sizeSL x ≤ 1048576) (fun x hx => match n, hx with | n + 1, hx => rights_ok n x (by omega) hx.2.1 hx.2.2),
      famX (g := 88) (by kernel_rfl) (fun k => .bool (rightE k)) okE (fun k hk => right_ok _ k (Nat.le_refl _) hk),
      { I := Int, f := 87, G := fun _ => True, A := fun k => [.int .i64 k], R := partsV, body := (by kernel_rfl), inj := (fun i j _ _ h => by simp only [List.cons.injEq, AV.int.injEq, true_and, and_true] at h; rw [h]), ok := (fun k _ => ⟨rfl, parts_ok k⟩) },
      { I := List UInt8, f := 68, G := fun s => s.length ≤ 9223372036854775807, A := fun s => [.str s], R := fun s => .bool (wordB s), body := (by kernel_rfl), inj := (fun i j _ _ h => by simp only [List.cons.injEq, AV.str.injEq, and_true] at h; rw [h]), ok := (fun s hs => ⟨rfl, wordRef_ok s hs⟩) }] rfl
    have q1 : ∀ x, sizeSL x < n ∧ okSL x ∧ sizeSL x ≤ 1048576 → ∀ H, acall Tryz.prog O H 69 [stA x] = some (.bool (rightSL x), H) := p1
    have q2 : ∀ k, okE k → ∀ H, acall Tryz.prog O H 88 [.agg k.cells] = some (.bool (rightE k), H) := p2
    have q3 : ∀ k H, acall Tryz.prog O H 87 [.int .i64 k] = some (partsV k, H) := fun k => p3 k trivial
    have q4 : ∀ s, s.length ≤ 9223372036854775807 → ∀ H, acall Tryz.prog O H 68 [.str s] = some (.bool (wordB s), H) := p4
    clear p1 p2 p3 p4
    have hlen := sizeSL_len l
    simp only [stA] at q1 ⊢
    refine fn_val follows noNum hO Tryz.func69 rfl ?_
    repeat' ((conv => whnf); first | refine stp ?_ | with_reducible refine condB (fun h => ?_) (fun h => ?_))
    conv => whnf
    refine ⟨Nat, (fun i => i ≤ l.length ∧ rightSL (l.take i) = true), (fun i => [(0, .rs l.length 7 (stC l)), (3, .int .i64 i)]), (fun _ => []), (fun i => l.length - i), ⟨0, ⟨Nat.zero_le _, by simp only [List.take_zero, rightSL]⟩, FgL.mk0 rfl ?_⟩, ?_⟩
    · (repeat (first | exact trivial | refine stw ?_))
    rintro i ⟨hi, hall⟩
    dsimp only
    by_cases hlt : i < l.length
    · have e1 : decide ((i : Int) < (l.length : Int)) = true := by simpa using hlt
      have hg := sizeSL_get l i hlt
      have hse := sizeS_eq l[i]
      have hat := rightSL_take l i hlt
      have hfalse : rightS l[i] = false → rightSL l = false := rightSL_get hlt
      have hx := st7 l i hlt
      obtain ⟨k1, k2, k3, k4, k5, k6, k7, k8⟩ := okS_parts (okSL_get hok _ (get_mem hlt))
      have qt := q1 l[i].thn ⟨by omega, k7, by omega⟩
      have qe := q1 l[i].els ⟨by omega, k8, by omega⟩
      have hr := rightS_eq l[i]
      have ho : ownS l[i] = ownD (hasN l[i].kind) (hasL l[i].kind) (hasO l[i].kind) (hT l[i].kind) (hasE l[i].kind) (isK l[i].kind) (hX l[i].kind) l[i].name l[i].loc l[i].order l[i].exprs.length l[i].thn.length l[i].els.length := by
        rw [ownD_eq]; rfl
      rw [hall, Bool.true_and] at hat
      have hxs := sizeL_len l[i].exprs
      have hbx : sizeL l[i].exprs ≤ 1048576 := by omega
      generalize l[i] = x at *
      obtain ⟨kind, name, loc, order, exprs, thn, els⟩ := x
      simp only [St.kind, St.name, St.loc, St.order, St.exprs, St.thn, St.els, St.cells, exA] at *
      have qn := q4 name k1
      have ql := q4 loc k2
      have qp := q3 kind
      simp only [partsV] at qp
      clear q1 q3 q4 hse hg
      obtain ⟨w1, hw1⟩ : ∃ w, wordB name = w := ⟨_, rfl⟩
      obtain ⟨w2, hw2⟩ : ∃ w, wordB loc = w := ⟨_, rfl⟩
      rw [hw1] at qn
      rw [hw2] at ql
      cases hk : isK kind with
      | false =>
        have ho2 : ownS (.mk kind name loc order exprs thn els) = false := by rw [ho]; simp [ownD, hk]
        rw [hfalse (by rw [hr, ho2]; rfl)]
        rw [hk] at qp
        clear hr ho hat hfalse
        repeat' ((conv => whnf); first | (refine exI hx ?_) | (refine exI (qp _) ?_) | (with_reducible refine ixJ i rfl ?_ ?_; (focus (omega))) | (first | refine stp ?_ | with_reducible refine condB (fun h => ?_) (fun h => ?_)))
        all_goals rfl
      | true =>
        have hop : kind = 1 ∨ kind = 2 ∨ kind = 3 ∨ kind = 4 ∨ kind = 5 ∨ kind = 6 ∨ kind = 7 ∨ kind = 8 ∨ kind = 9 ∨ kind = 10 ∨ kind = 11 := by
          unfold isK at hk; simp only [decide_eq_true_eq] at hk; omega
        rw [hk] at qp ho
        clear hk
        simp only [ownD, hw1, hw2, Bool.true_and] at ho
        cases hown : ((hasN kind == w1) && ((hasN kind || name == []) && ((hasL kind == w2) && ((hasL kind || loc == []) && (decide ((exprs.length : Int) = hX kind) && ((hT kind || decide (thn.length = 0)) && ((hasE kind || decide (els.length = 0)) && (if hasO kind then decide (1 ≤ order ∧ order ≤ 6) else order == 0)))))))) with
        | false =>
          rw [hown] at ho
          rw [hfalse (by rw [hr, ho]; rfl)]
          clear hr ho hat hfalse hw1 hw2
          rcases hop with rfl | rfl | rfl | rfl | rfl | rfl | rfl | rfl | rfl | rfl | rfl
          all_goals (as_aux_lemma => (
            repeat' ((conv => whnf); first | (with_reducible refine exI (qp _) ?_) | (with_reducible refine exI (qn _) ?_) | (with_reducible refine exI (ql _) ?_) | (with_reducible refine ixJ i rfl ?_ ?_; (focus (omega))) | (refine exI hx ?_) | (first | refine stp ?_ | with_reducible refine condB (fun h => ?_) (fun h => ?_)))
            all_goals (first | rfl | (exfalso; clear qp qn ql qt qe q2 hO hx; simp_all [hasN, hasL, hasO, hX, hasX, hT, hasT, hasE, isK]; done) | (exfalso; clear qp qn ql qt qe q2 hO hx; simp_all [hasN, hasL, hasO, hX, hasX, hT, hasT, hasE, isK]; omega))))
        | true =>
          rw [hown] at ho
          rw [ho, Bool.true_and] at hr
          simp only [Bool.and_eq_true, beq_iff_eq, Bool.or_eq_true, decide_eq_true_eq] at hown
          obtain ⟨f1, f2, f3, f4, f5, f6, f7, f8⟩ := hown
          have g5 : ((exprs.length : Int) != hX kind) = false := by rw [f5]; simp
          have g6 : hT kind = false → decide ((thn.length : Int) > 0) = false := fun h => by rw [h] at f6; simpa using f6
          have g7 : hasE kind = false → decide ((els.length : Int) > 0) = false := fun h => by rw [h] at f7; simpa using f7
          have g8 : hasO kind = true → decide (order < 1) = false ∧ decide (order > 6) = false := fun h => by rw [h] at f8; simp at f8 ⊢; omega
          have g9 : hasO kind = false → (order != 0) = false := fun h => by rw [h] at f8; simpa using f8
          have f2' : hasN kind = false → name = [] := fun h => by rw [h] at f2; simpa using f2
          have f4' : hasL kind = false → loc = [] := fun h => by rw [h] at f4; simpa using f4
          subst f1; subst f3
          have hle := sizeL_len exprs
          have hf2 := hfalse
          clear f2 f4 f5 f6 f7 f8 hw1 hw2 ho hfalse
          rcases hop with rfl | rfl | rfl | rfl | rfl | rfl | rfl | rfl | rfl | rfl | rfl
          all_goals (try (obtain rfl := f2' rfl))
          all_goals (try (obtain rfl := f4' rfl))
          all_goals (try (replace g6 := g6 rfl))
          all_goals (try (replace g7 := g7 rfl))
          all_goals (try (obtain ⟨g81, g82⟩ := g8 rfl))
          all_goals (try (replace g9 := g9 rfl))
          all_goals (generalize rightSL thn = rt at *; generalize rightSL els = re at *)
          all_goals (as_aux_lemma => (
            repeat' ((conv => whnf); first | (with_reducible refine exI (qp _) ?_) | (with_reducible refine exI (qn _) ?_) | (with_reducible refine exI (ql _) ?_) | (with_reducible refine exI (qt _) ?_) | (with_reducible refine exI (qe _) ?_) | (with_reducible refine ixJ i rfl ?_ ?_; (focus (omega))) | (refine exI hx ?_) | (first | refine stp ?_ | with_reducible refine condB (fun h => ?_) (fun h => ?_)))
            all_goals (first | (rw [hf2 (by rw [hr, show rt = false from by simpa using ‹(!rt) = true›]; simp)]; rfl) | (rw [hf2 (by rw [hr, show re = false from by simpa using ‹(!re) = true›]; simp)]; rfl) | skip)
            all_goals (rw [show rt = true from by simpa using ‹(!rt) = false›, show re = true from by simpa using ‹(!re) = false›, Bool.and_true, Bool.and_true] at hr)
            all_goals (conv => whnf)
            all_goals (refine ⟨Nat, (fun k => k ≤ exprs.length ∧ rightL (exprs.take k) = true), (fun k => [(0, .rs l.length 7 (stC l)), (3, .int .i64 i), (4, .ptr 0 0), (7, .int .i64 k)]), (fun _ => [⟨true, 0, 0, .cells [.int .i64 _, .str _, .str _, .int .i64 order, .rs exprs.length 4 (exC exprs), .rs thn.length 7 (stC thn), .rs els.length 7 (stC els)] 64⟩]), (fun k => exprs.length - k), ⟨0, ⟨Nat.zero_le _, by simp only [List.take_zero, rightL]⟩, FgL.mk [0] rfl ?_ ⟨⟨rfl, rfl, rfl, rfl, BodyGe.pre (rest := []) rfl rfl⟩, trivial⟩ rfl⟩, ?_⟩)
            all_goals (first | ((repeat (first | exact trivial | refine stw ?_)); done) | skip)
            all_goals (
              rintro k ⟨hk, hkall⟩
              dsimp only
              by_cases hkt : k < exprs.length
              · have e2 : decide ((k : Int) < (exprs.length : Int)) = true := by simpa using hkt
                have hy := ex4 exprs k hkt
                have htk := rightL_take exprs k hkt
                have hgf := fun h => rightL_get (l := exprs) hkt h
                rw [hkall, Bool.true_and] at htk
                have qk := q2 exprs[k] (okL_get k6 _ (get_mem hkt))
                cases hrk : rightE exprs[k] with
                | true =>
                  rw [hrk] at qk htk
                  generalize exprs[k] = y at *
                  repeat' ((conv => whnf); first | (with_reducible refine exI (qk _) ?_) | (with_reducible refine ixJ k rfl ?_ ?_; (focus (omega))) | (refine exI hy ?_) | (first | refine stp ?_ | with_reducible refine condB (fun h => ?_) (fun h => ?_)))
                  conv => whnf
                  refine ⟨k + 1, ⟨hkt, htk⟩, by show exprs.length - (k + 1) < exprs.length - k; omega, FgL.mk [0] rfl ?_ ⟨⟨rfl, rfl, rfl, rfl, BodyGe.pre (rest := []) rfl rfl⟩, trivial⟩ rfl⟩
                  (repeat (first | exact trivial | refine stw ?_))
                | false =>
                  have hfx := hgf hrk
                  rw [hrk] at qk
                  rw [hf2 (by rw [hr, hfx])]
                  generalize exprs[k] = y at *
                  repeat' ((conv => whnf); first | (with_reducible refine exI (qk _) ?_) | (with_reducible refine ixJ k rfl ?_ ?_; (focus (omega))) | (refine exI hy ?_) | (first | refine stp ?_ | with_reducible refine condB (fun h => ?_) (fun h => ?_)))
                  all_goals rfl
              · have e2 : decide ((k : Int) < (exprs.length : Int)) = false := by simpa using hkt
                have hk2 : k = exprs.length := by have := hk; omega
                subst hk2
                rw [List.take_length] at hkall
                rw [hkall] at hr
                repeat' ((conv => whnf); first | (with_reducible refine ixJ i rfl ?_ ?_; (focus (omega))) | (first | refine stp ?_ | with_reducible refine condB (fun h => ?_) (fun h => ?_)))
                conv => whnf
                refine ⟨i + 1, ⟨hlt, by rw [hat, hr]⟩, by show l.length - (i + 1) < l.length - i; omega, FgL.mk0 rfl ?_⟩
                (repeat (first | exact trivial | refine stw ?_)))))
    · have e1 : decide ((i : Int) < (l.length : Int)) = false := by simpa using hlt
      have hi2 : i = l.length := by have := hi; omega
      subst hi2
      rw [List.take_length] at hall
      rw [hall]
      repeat' ((conv => whnf); first | refine stp ?_ | with_reducible refine condB (fun h => ?_) (fun h => ?_))
      all_goals rfl
end Go.Proofs.YtblnhcafobifgaaGreatDoor.lex
end


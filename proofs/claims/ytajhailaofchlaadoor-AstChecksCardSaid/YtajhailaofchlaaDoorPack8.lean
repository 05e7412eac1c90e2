/-
  Texts of this proof, one behind the other (part 8).
-/
import Derived.Test.YtajhailaofchlaaDoorPack7
import Derived.Shelf.SlIter.Nil
import Derived.Shelf.SortM.Plain
import Derived.Shelf.SortM.SortNone
import Derived.Test.YtajhailaofchlaaDoorProg

/-
  Statements: may they be, with what is in them (the document's answer).
-/
section
set_option linter.unusedVariables false
set_option linter.unusedSimpArgs false
namespace Go.Proofs.YtajhailaofchlaaDoor.lex
open Go.Abs Go.RowKit
set_option maxRecDepth 100000
set_option maxHeartbeats 8000000
variable {gl : Glob}

theorem rights_ok : ∀ (n : Nat) (l : List St), sizeSL l ≤ n → okSL l → sizeSL l ≤ 1048576 → ValOK Tryd.prog gl 47 [stA l] (.bool (rightSL l))
  | n, l, h, hok, hb => by
    obtain ⟨O, hO, p1, p2, p3, p4, -⟩ := fams (P := Tryd.prog) (gl := gl) [famSL (g := 47) (by kernel_rfl) (fun x => .bool (rightSL x)) (fun x => sizeSL x < n ∧ okSL x ∧ sizeSL x ≤ 1048576) (fun x hx => match n, hx with | n + 1, hx => rights_ok n x (by omega) hx.2.1 hx.2.2),
      famX (g := 50) (by kernel_rfl) (fun k => .bool (rightE k)) okE (fun k hk => right_ok _ k (Nat.le_refl _) hk),
      { I := Int, f := 76, G := fun _ => True, A := fun k => [.int .i64 k], R := partsV, body := (by kernel_rfl), inj := (fun i j _ _ h => by simp only [List.cons.injEq, AV.int.injEq, true_and, and_true] at h; rw [h]), ok := (fun k _ => ⟨rfl, parts_ok k⟩) },
      { I := List UInt8, f := 46, G := fun s => s.length ≤ 9223372036854775807, A := fun s => [.str s], R := fun s => .bool (wordB s), body := (by kernel_rfl), inj := (fun i j _ _ h => by simp only [List.cons.injEq, AV.str.injEq, and_true] at h; rw [h]), ok := (fun s hs => ⟨rfl, wordRef_ok s hs⟩) }] rfl
    have q1 : ∀ x, sizeSL x < n ∧ okSL x ∧ sizeSL x ≤ 1048576 → ∀ H, acall Tryd.prog O H 47 [stA x] = some (.bool (rightSL x), H) := p1
    have q2 : ∀ k, okE k → ∀ H, acall Tryd.prog O H 50 [.agg k.cells] = some (.bool (rightE k), H) := p2
    have q3 : ∀ k H, acall Tryd.prog O H 76 [.int .i64 k] = some (partsV k, H) := fun k => p3 k trivial
    have q4 : ∀ s, s.length ≤ 9223372036854775807 → ∀ H, acall Tryd.prog O H 46 [.str s] = some (.bool (wordB s), H) := p4
    clear p1 p2 p3 p4
    have hlen := sizeSL_len l
    simp only [stA] at q1 ⊢
    refine fn_val follows noNum hO Tryd.func47 rfl ?_
    repeat' ((conv => whnf); first | (with_reducible refine condT ?_ ?_; (focus (assumption))) | (with_reducible refine condF ?_ ?_; (focus (assumption))) | (with_reducible refine condT ?_ ?_; (focus (decide))) | (with_reducible refine condF ?_ ?_; (focus (decide))) | (with_reducible refine condT ?_ ?_; (focus ((first | assumption | decide | (simp; done) | (simp; omega)); done))) | (with_reducible refine condF ?_ ?_; (focus ((first | assumption | decide | (simp; done) | (simp; omega)); done))) | with_reducible refine condB (fun h => ?_) (fun h => ?_) | with_reducible refine exI rfl ?_ | with_reducible refine eqR rfl ?_ | (with_reducible refine exW (wrapN1 ?_) ?_; (focus (omega))) | (with_reducible refine exW (wrapN ?_) ?_; (focus (omega))) | (with_reducible refine exW (wrapB ?_ ?_) ?_; (focus (omega)); (focus (omega))) | with_reducible refine exW rfl ?_ | (with_reducible refine ixJ _ rfl ?_ ?_; (focus ((first | decide | omega | (simp; done) | (simp; omega)); done))) | (with_reducible refine ixJ' _ rfl ?_ ?_; (focus ((first | decide | omega | (simp; done) | (simp; omega)); done))) | (refine ixJ (Int.toNat _) ?_ ?_ ?_; (focus ((first | rfl | decide | omega | (simp; done)); done)); (focus ((first | decide | omega | (simp; done) | (simp; omega)); done))) | (refine ixJ' (Int.toNat _) ?_ ?_ ?_; (focus ((first | rfl | decide | omega | (simp; done)); done)); (focus ((first | decide | omega | (simp; done) | (simp; omega)); done))) | with_reducible refine ixS _ rfl (by assumption) ?_ | (with_reducible refine shlI ?_ ?_; (focus (first | decide | omega))) | (refine exI (callZ rfl rfl (if_pos ?_)) ?_; (focus ((first | decide | omega | (simp; done) | (simp; omega)); done))))
    conv => whnf
    refine ⟨Nat, (fun i => i ≤ l.length ∧ rightSL (l.take i) = true), (fun i => [(0, .rs l.length 7 (stC l)), (3, .int .i64 i)]), (fun _ => []), (fun i => l.length - i), ⟨0, ⟨Nat.zero_le _, by simp only [List.take_zero, rightSL]⟩, FgL.mk0 rfl ?_⟩, ?_⟩
    · (repeat (first | exact trivial | (refine And.intro (Wk.int ?_) ?_; (focus (first | rfl | omega | (simp; done) | (simp; omega)))) | (refine And.intro (Wk.bool ?_) ?_; (focus (first | rfl | (simp; done)))) | refine And.intro (Wk.noref rfl) ?_ | refine And.intro (Wk.ptr rfl rfl) ?_ | (refine And.intro (Wk.slice rfl ?_ ?_ ?_ ?_ ?_) ?_; (focus (first | rfl | omega)); (focus (first | rfl | omega)); (focus (first | rfl | omega)); (focus (first | rfl | omega)); (focus rfl)) | refine And.intro Wk.nil ?_ | refine And.intro (Wk.func trivial ⟨Wk.ptr rfl rfl, trivial⟩) ?_ | refine And.intro (Wk.map rfl) ?_))
    rintro i ⟨hi, hall⟩
    dsimp only
    by_cases hlt : i < l.length
    · have e1 : decide ((i : Int) < (l.length : Int)) = true := by simpa using hlt
      have hg := sizeSL_get l i hlt
      have hse := sizeS_eq l[i]
      have hat := rightSL_take l i hlt
      have hfalse : rightS l[i] = false → rightSL l = false := rightSL_get hlt
      have hx := st7 l i hlt
      obtain ⟨k1, k2, k3, k4, k5, k6, k7, k8⟩ := okS_parts (okSL_get hok _ (get_mem hlt))
      have qt := q1 l[i].thn ⟨by omega, k7, by omega⟩
      have qe := q1 l[i].els ⟨by omega, k8, by omega⟩
      have hr := rightS_eq l[i]
      have ho : ownS l[i] = ownD (hasN l[i].kind) (hasL l[i].kind) (hasO l[i].kind) (hT l[i].kind) (hasE l[i].kind) (isK l[i].kind) (hX l[i].kind) l[i].name l[i].loc l[i].order l[i].exprs.length l[i].thn.length l[i].els.length := by
        rw [ownD_eq]; rfl
      rw [hall, Bool.true_and] at hat
      have hxs := sizeL_len l[i].exprs
      have hbx : sizeL l[i].exprs ≤ 1048576 := by omega
      generalize l[i] = x at *
      obtain ⟨kind, name, loc, order, exprs, thn, els⟩ := x
      simp only [St.kind, St.name, St.loc, St.order, St.exprs, St.thn, St.els, St.cells, exA] at *
      have qn := q4 name k1
      have ql := q4 loc k2
      have qp := q3 kind
      simp only [partsV] at qp
      clear q1 q3 q4 hse hg
      obtain ⟨w1, hw1⟩ : ∃ w, wordB name = w := ⟨_, rfl⟩
      obtain ⟨w2, hw2⟩ : ∃ w, wordB loc = w := ⟨_, rfl⟩
      rw [hw1] at qn
      rw [hw2] at ql
      cases hk : isK kind with
      | false =>
        have ho2 : ownS (.mk kind name loc order exprs thn els) = false := by rw [ho]; simp [ownD, hk]
        rw [hfalse (by rw [hr, ho2]; rfl)]
        rw [hk] at qp
        clear hr ho hat hfalse
        repeat' ((conv => whnf); first | (refine exI hx ?_) | (refine exI (qp _) ?_) | (with_reducible refine ixJ i rfl ?_ ?_; (focus (omega))) | (first | (with_reducible refine condT ?_ ?_; (focus (assumption))) | (with_reducible refine condF ?_ ?_; (focus (assumption))) | (with_reducible refine condT ?_ ?_; (focus (decide))) | (with_reducible refine condF ?_ ?_; (focus (decide))) | (with_reducible refine condT ?_ ?_; (focus ((first | assumption | decide | (simp; done) | (simp; omega)); done))) | (with_reducible refine condF ?_ ?_; (focus ((first | assumption | decide | (simp; done) | (simp; omega)); done))) | with_reducible refine condB (fun h => ?_) (fun h => ?_) | with_reducible refine exI rfl ?_ | with_reducible refine eqR rfl ?_ | (with_reducible refine exW (wrapN1 ?_) ?_; (focus (omega))) | (with_reducible refine exW (wrapN ?_) ?_; (focus (omega))) | (with_reducible refine exW (wrapB ?_ ?_) ?_; (focus (omega)); (focus (omega))) | with_reducible refine exW rfl ?_ | (with_reducible refine ixJ _ rfl ?_ ?_; (focus ((first | decide | omega | (simp; done) | (simp; omega)); done))) | (with_reducible refine ixJ' _ rfl ?_ ?_; (focus ((first | decide | omega | (simp; done) | (simp; omega)); done))) | (refine ixJ (Int.toNat _) ?_ ?_ ?_; (focus ((first | rfl | decide | omega | (simp; done)); done)); (focus ((first | decide | omega | (simp; done) | (simp; omega)); done))) | (refine ixJ' (Int.toNat _) ?_ ?_ ?_; (focus ((first | rfl | decide | omega | (simp; done)); done)); (focus ((first | decide | omega | (simp; done) | (simp; omega)); done))) | with_reducible refine ixS _ rfl (by assumption) ?_ | (with_reducible refine shlI ?_ ?_; (focus (first | decide | omega))) | (refine exI (callZ rfl rfl (if_pos ?_)) ?_; (focus ((first | decide | omega | (simp; done) | (simp; omega)); done)))))
        all_goals rfl
      | true =>
        have hop : kind = 1 ∨ kind = 2 ∨ kind = 3 ∨ kind = 4 ∨ kind = 5 ∨ kind = 6 ∨ kind = 7 ∨ kind = 8 ∨ kind = 9 ∨ kind = 10 ∨ kind = 11 := by
          unfold isK at hk; simp only [decide_eq_true_eq] at hk; omega
        rw [hk] at qp ho
        clear hk
        simp only [ownD, hw1, hw2, Bool.true_and] at ho
        cases hown : ((hasN kind == w1) && ((hasN kind || name == []) && ((hasL kind == w2) && ((hasL kind || loc == []) && (decide ((exprs.length : Int) = hX kind) && ((hT kind || decide (thn.length = 0)) && ((hasE kind || decide (els.length = 0)) && (if hasO kind then decide (1 ≤ order ∧ order ≤ 6) else order == 0)))))))) with
        | false =>
          rw [hown] at ho
          rw [hfalse (by rw [hr, ho]; rfl)]
          clear hr ho hat hfalse hw1 hw2
          rcases hop with rfl | rfl | rfl | rfl | rfl | rfl | rfl | rfl | rfl | rfl | rfl
          all_goals (repeat' ((conv => whnf); first | (with_reducible refine exI (qp _) ?_) | (with_reducible refine exI (qn _) ?_) | (with_reducible refine exI (ql _) ?_) | (with_reducible refine ixJ i rfl ?_ ?_; (focus (omega))) | (refine exI hx ?_) | (first | (with_reducible refine condT ?_ ?_; (focus (assumption))) | (with_reducible refine condF ?_ ?_; (focus (assumption))) | (with_reducible refine condT ?_ ?_; (focus (decide))) | (with_reducible refine condF ?_ ?_; (focus (decide))) | (with_reducible refine condT ?_ ?_; (focus ((first | assumption | decide | (simp; done) | (simp; omega)); done))) | (with_reducible refine condF ?_ ?_; (focus ((first | assumption | decide | (simp; done) | (simp; omega)); done))) | with_reducible refine condB (fun h => ?_) (fun h => ?_) | with_reducible refine exI rfl ?_ | with_reducible refine eqR rfl ?_ | (with_reducible refine exW (wrapN1 ?_) ?_; (focus (omega))) | (with_reducible refine exW (wrapN ?_) ?_; (focus (omega))) | (with_reducible refine exW (wrapB ?_ ?_) ?_; (focus (omega)); (focus (omega))) | with_reducible refine exW rfl ?_ | (with_reducible refine ixJ _ rfl ?_ ?_; (focus ((first | decide | omega | (simp; done) | (simp; omega)); done))) | (with_reducible refine ixJ' _ rfl ?_ ?_; (focus ((first | decide | omega | (simp; done) | (simp; omega)); done))) | (refine ixJ (Int.toNat _) ?_ ?_ ?_; (focus ((first | rfl | decide | omega | (simp; done)); done)); (focus ((first | decide | omega | (simp; done) | (simp; omega)); done))) | (refine ixJ' (Int.toNat _) ?_ ?_ ?_; (focus ((first | rfl | decide | omega | (simp; done)); done)); (focus ((first | decide | omega | (simp; done) | (simp; omega)); done))) | with_reducible refine ixS _ rfl (by assumption) ?_ | (with_reducible refine shlI ?_ ?_; (focus (first | decide | omega))) | (refine exI (callZ rfl rfl (if_pos ?_)) ?_; (focus ((first | decide | omega | (simp; done) | (simp; omega)); done))))))
          all_goals (first | rfl | (exfalso; clear qp qn ql qt qe q2 hO hx; simp_all [hasN, hasL, hasO, hX, hasX, hT, hasT, hasE, isK]; done) | (exfalso; clear qp qn ql qt qe q2 hO hx; simp_all [hasN, hasL, hasO, hX, hasX, hT, hasT, hasE, isK]; omega))
        | true =>
          rw [hown] at ho
          rw [ho, Bool.true_and] at hr
          simp only [Bool.and_eq_true, beq_iff_eq, Bool.or_eq_true, decide_eq_true_eq] at hown
          obtain ⟨f1, f2, f3, f4, f5, f6, f7, f8⟩ := hown
          have g5 : ((exprs.length : Int) != hX kind) = false := by rw [f5]; simp
          have g6 : hT kind = false → decide ((thn.length : Int) > 0) = false := fun h => by rw [h] at f6; simpa using f6
          have g7 : hasE kind = false → decide ((els.length : Int) > 0) = false := fun h => by rw [h] at f7; simpa using f7
          have g8 : hasO kind = true → decide (order < 1) = false ∧ decide (order > 6) = false := fun h => by rw [h] at f8; simp at f8 ⊢; omega
          have g9 : hasO kind = false → (order != 0) = false := fun h => by rw [h] at f8; simpa using f8
          have f2' : hasN kind = false → name = [] := fun h => by rw [h] at f2; simpa using f2
          have f4' : hasL kind = false → loc = [] := fun h => by rw [h] at f4; simpa using f4
          subst f1; subst f3
          have hle := sizeL_len exprs
          have hf2 := hfalse
          clear f2 f4 f5 f6 f7 f8 hw1 hw2 ho hfalse
          rcases hop with rfl | rfl | rfl | rfl | rfl | rfl | rfl | rfl | rfl | rfl | rfl
          all_goals (try (obtain rfl := f2' rfl))
          all_goals (try (obtain rfl := f4' rfl))
          all_goals (try (replace g6 := g6 rfl))
          all_goals (try (replace g7 := g7 rfl))
          all_goals (try (obtain ⟨g81, g82⟩ := g8 rfl))
          all_goals (try (replace g9 := g9 rfl))
          all_goals (generalize rightSL thn = rt at *; generalize rightSL els = re at *)
          all_goals (repeat' ((conv => whnf); first | (with_reducible refine exI (qp _) ?_) | (with_reducible refine exI (qn _) ?_) | (with_reducible refine exI (ql _) ?_) | (with_reducible refine exI (qt _) ?_) | (with_reducible refine exI (qe _) ?_) | (with_reducible refine ixJ i rfl ?_ ?_; (focus (omega))) | (refine exI hx ?_) | (first | (with_reducible refine condT ?_ ?_; (focus (assumption))) | (with_reducible refine condF ?_ ?_; (focus (assumption))) | (with_reducible refine condT ?_ ?_; (focus (decide))) | (with_reducible refine condF ?_ ?_; (focus (decide))) | (with_reducible refine condT ?_ ?_; (focus ((first | assumption | decide | (simp; done) | (simp; omega)); done))) | (with_reducible refine condF ?_ ?_; (focus ((first | assumption | decide | (simp; done) | (simp; omega)); done))) | with_reducible refine condB (fun h => ?_) (fun h => ?_) | with_reducible refine exI rfl ?_ | with_reducible refine eqR rfl ?_ | (with_reducible refine exW (wrapN1 ?_) ?_; (focus (omega))) | (with_reducible refine exW (wrapN ?_) ?_; (focus (omega))) | (with_reducible refine exW (wrapB ?_ ?_) ?_; (focus (omega)); (focus (omega))) | with_reducible refine exW rfl ?_ | (with_reducible refine ixJ _ rfl ?_ ?_; (focus ((first | decide | omega | (simp; done) | (simp; omega)); done))) | (with_reducible refine ixJ' _ rfl ?_ ?_; (focus ((first | decide | omega | (simp; done) | (simp; omega)); done))) | (refine ixJ (Int.toNat _) ?_ ?_ ?_; (focus ((first | rfl | decide | omega | (simp; done)); done)); (focus ((first | decide | omega | (simp; done) | (simp; omega)); done))) | (refine ixJ' (Int.toNat _) ?_ ?_ ?_; (focus ((first | rfl | decide | omega | (simp; done)); done)); (focus ((first | decide | omega | (simp; done) | (simp; omega)); done))) | with_reducible refine ixS _ rfl (by assumption) ?_ | (with_reducible refine shlI ?_ ?_; (focus (first | decide | omega))) | (refine exI (callZ rfl rfl (if_pos ?_)) ?_; (focus ((first | decide | omega | (simp; done) | (simp; omega)); done))))))
          all_goals (first | (rw [hf2 (by rw [hr, show rt = false from by simpa using ‹(!rt) = true›]; simp)]; rfl) | (rw [hf2 (by rw [hr, show re = false from by simpa using ‹(!re) = true›]; simp)]; rfl) | skip)
          all_goals (rw [show rt = true from by simpa using ‹(!rt) = false›, show re = true from by simpa using ‹(!re) = false›, Bool.and_true, Bool.and_true] at hr)
          all_goals (conv => whnf)
          all_goals (refine ⟨Nat, (fun k => k ≤ exprs.length ∧ rightL (exprs.take k) = true), (fun k => [(0, .rs l.length 7 (stC l)), (3, .int .i64 i), (4, .ptr 0 0), (7, .int .i64 k)]), (fun _ => [⟨true, 0, 0, .cells [.int .i64 _, .str _, .str _, .int .i64 order, .rs exprs.length 4 (exC exprs), .rs thn.length 7 (stC thn), .rs els.length 7 (stC els)] 30⟩]), (fun k => exprs.length - k), ⟨0, ⟨Nat.zero_le _, by simp only [List.take_zero, rightL]⟩, FgL.mk [0] rfl ?_ ⟨⟨rfl, rfl, rfl, rfl, BodyGe.pre (rest := []) rfl rfl⟩, trivial⟩ rfl⟩, ?_⟩)
          all_goals (first | ((repeat (first | exact trivial | (refine And.intro (Wk.int ?_) ?_; (focus (first | rfl | omega | (simp; done) | (simp; omega)))) | (refine And.intro (Wk.bool ?_) ?_; (focus (first | rfl | (simp; done)))) | refine And.intro (Wk.noref rfl) ?_ | refine And.intro (Wk.ptr rfl rfl) ?_ | (refine And.intro (Wk.slice rfl ?_ ?_ ?_ ?_ ?_) ?_; (focus (first | rfl | omega)); (focus (first | rfl | omega)); (focus (first | rfl | omega)); (focus (first | rfl | omega)); (focus rfl)) | refine And.intro Wk.nil ?_ | refine And.intro (Wk.func trivial ⟨Wk.ptr rfl rfl, trivial⟩) ?_ | refine And.intro (Wk.map rfl) ?_)); done) | skip)
          all_goals (
            rintro k ⟨hk, hkall⟩
            dsimp only
            by_cases hkt : k < exprs.length
            · have e2 : decide ((k : Int) < (exprs.length : Int)) = true := by simpa using hkt
              have hy := ex4 exprs k hkt
              have htk := rightL_take exprs k hkt
              have hgf := fun h => rightL_get (l := exprs) hkt h
              rw [hkall, Bool.true_and] at htk
              have qk := q2 exprs[k] (okL_get k6 _ (get_mem hkt))
              cases hrk : rightE exprs[k] with
              | true =>
                rw [hrk] at qk htk
                generalize exprs[k] = y at *
                repeat' ((conv => whnf); first | (with_reducible refine exI (qk _) ?_) | (with_reducible refine ixJ k rfl ?_ ?_; (focus (omega))) | (refine exI hy ?_) | (first | (with_reducible refine condT ?_ ?_; (focus (assumption))) | (with_reducible refine condF ?_ ?_; (focus (assumption))) | (with_reducible refine condT ?_ ?_; (focus (decide))) | (with_reducible refine condF ?_ ?_; (focus (decide))) | (with_reducible refine condT ?_ ?_; (focus ((first | assumption | decide | (simp; done) | (simp; omega)); done))) | (with_reducible refine condF ?_ ?_; (focus ((first | assumption | decide | (simp; done) | (simp; omega)); done))) | with_reducible refine condB (fun h => ?_) (fun h => ?_) | with_reducible refine exI rfl ?_ | with_reducible refine eqR rfl ?_ | (with_reducible refine exW (wrapN1 ?_) ?_; (focus (omega))) | (with_reducible refine exW (wrapN ?_) ?_; (focus (omega))) | (with_reducible refine exW (wrapB ?_ ?_) ?_; (focus (omega)); (focus (omega))) | with_reducible refine exW rfl ?_ | (with_reducible refine ixJ _ rfl ?_ ?_; (focus ((first | decide | omega | (simp; done) | (simp; omega)); done))) | (with_reducible refine ixJ' _ rfl ?_ ?_; (focus ((first | decide | omega | (simp; done) | (simp; omega)); done))) | (refine ixJ (Int.toNat _) ?_ ?_ ?_; (focus ((first | rfl | decide | omega | (simp; done)); done)); (focus ((first | decide | omega | (simp; done) | (simp; omega)); done))) | (refine ixJ' (Int.toNat _) ?_ ?_ ?_; (focus ((first | rfl | decide | omega | (simp; done)); done)); (focus ((first | decide | omega | (simp; done) | (simp; omega)); done))) | with_reducible refine ixS _ rfl (by assumption) ?_ | (with_reducible refine shlI ?_ ?_; (focus (first | decide | omega))) | (refine exI (callZ rfl rfl (if_pos ?_)) ?_; (focus ((first | decide | omega | (simp; done) | (simp; omega)); done)))))
                conv => whnf
                refine ⟨k + 1, ⟨hkt, htk⟩, by show exprs.length - (k + 1) < exprs.length - k; omega, FgL.mk [0] rfl ?_ ⟨⟨rfl, rfl, rfl, rfl, BodyGe.pre (rest := []) rfl rfl⟩, trivial⟩ rfl⟩
                (repeat (first | exact trivial | (refine And.intro (Wk.int ?_) ?_; (focus (first | rfl | omega | (simp; done) | (simp; omega)))) | (refine And.intro (Wk.bool ?_) ?_; (focus (first | rfl | (simp; done)))) | refine And.intro (Wk.noref rfl) ?_ | refine And.intro (Wk.ptr rfl rfl) ?_ | (refine And.intro (Wk.slice rfl ?_ ?_ ?_ ?_ ?_) ?_; (focus (first | rfl | omega)); (focus (first | rfl | omega)); (focus (first | rfl | omega)); (focus (first | rfl | omega)); (focus rfl)) | refine And.intro Wk.nil ?_ | refine And.intro (Wk.func trivial ⟨Wk.ptr rfl rfl, trivial⟩) ?_ | refine And.intro (Wk.map rfl) ?_))
              | false =>
                have hfx := hgf hrk
                rw [hrk] at qk
                rw [hf2 (by rw [hr, hfx])]
                generalize exprs[k] = y at *
                repeat' ((conv => whnf); first | (with_reducible refine exI (qk _) ?_) | (with_reducible refine ixJ k rfl ?_ ?_; (focus (omega))) | (refine exI hy ?_) | (first | (with_reducible refine condT ?_ ?_; (focus (assumption))) | (with_reducible refine condF ?_ ?_; (focus (assumption))) | (with_reducible refine condT ?_ ?_; (focus (decide))) | (with_reducible refine condF ?_ ?_; (focus (decide))) | (with_reducible refine condT ?_ ?_; (focus ((first | assumption | decide | (simp; done) | (simp; omega)); done))) | (with_reducible refine condF ?_ ?_; (focus ((first | assumption | decide | (simp; done) | (simp; omega)); done))) | with_reducible refine condB (fun h => ?_) (fun h => ?_) | with_reducible refine exI rfl ?_ | with_reducible refine eqR rfl ?_ | (with_reducible refine exW (wrapN1 ?_) ?_; (focus (omega))) | (with_reducible refine exW (wrapN ?_) ?_; (focus (omega))) | (with_reducible refine exW (wrapB ?_ ?_) ?_; (focus (omega)); (focus (omega))) | with_reducible refine exW rfl ?_ | (with_reducible refine ixJ _ rfl ?_ ?_; (focus ((first | decide | omega | (simp; done) | (simp; omega)); done))) | (with_reducible refine ixJ' _ rfl ?_ ?_; (focus ((first | decide | omega | (simp; done) | (simp; omega)); done))) | (refine ixJ (Int.toNat _) ?_ ?_ ?_; (focus ((first | rfl | decide | omega | (simp; done)); done)); (focus ((first | decide | omega | (simp; done) | (simp; omega)); done))) | (refine ixJ' (Int.toNat _) ?_ ?_ ?_; (focus ((first | rfl | decide | omega | (simp; done)); done)); (focus ((first | decide | omega | (simp; done) | (simp; omega)); done))) | with_reducible refine ixS _ rfl (by assumption) ?_ | (with_reducible refine shlI ?_ ?_; (focus (first | decide | omega))) | (refine exI (callZ rfl rfl (if_pos ?_)) ?_; (focus ((first | decide | omega | (simp; done) | (simp; omega)); done)))))
                all_goals rfl
            · have e2 : decide ((k : Int) < (exprs.length : Int)) = false := by simpa using hkt
              have hk2 : k = exprs.length := by have := hk; omega
              subst hk2
              rw [List.take_length] at hkall
              rw [hkall] at hr
              repeat' ((conv => whnf); first | (with_reducible refine ixJ i rfl ?_ ?_; (focus (omega))) | (first | (with_reducible refine condT ?_ ?_; (focus (assumption))) | (with_reducible refine condF ?_ ?_; (focus (assumption))) | (with_reducible refine condT ?_ ?_; (focus (decide))) | (with_reducible refine condF ?_ ?_; (focus (decide))) | (with_reducible refine condT ?_ ?_; (focus ((first | assumption | decide | (simp; done) | (simp; omega)); done))) | (with_reducible refine condF ?_ ?_; (focus ((first | assumption | decide | (simp; done) | (simp; omega)); done))) | with_reducible refine condB (fun h => ?_) (fun h => ?_) | with_reducible refine exI rfl ?_ | with_reducible refine eqR rfl ?_ | (with_reducible refine exW (wrapN1 ?_) ?_; (focus (omega))) | (with_reducible refine exW (wrapN ?_) ?_; (focus (omega))) | (with_reducible refine exW (wrapB ?_ ?_) ?_; (focus (omega)); (focus (omega))) | with_reducible refine exW rfl ?_ | (with_reducible refine ixJ _ rfl ?_ ?_; (focus ((first | decide | omega | (simp; done) | (simp; omega)); done))) | (with_reducible refine ixJ' _ rfl ?_ ?_; (focus ((first | decide | omega | (simp; done) | (simp; omega)); done))) | (refine ixJ (Int.toNat _) ?_ ?_ ?_; (focus ((first | rfl | decide | omega | (simp; done)); done)); (focus ((first | decide | omega | (simp; done) | (simp; omega)); done))) | (refine ixJ' (Int.toNat _) ?_ ?_ ?_; (focus ((first | rfl | decide | omega | (simp; done)); done)); (focus ((first | decide | omega | (simp; done) | (simp; omega)); done))) | with_reducible refine ixS _ rfl (by assumption) ?_ | (with_reducible refine shlI ?_ ?_; (focus (first | decide | omega))) | (refine exI (callZ rfl rfl (if_pos ?_)) ?_; (focus ((first | decide | omega | (simp; done) | (simp; omega)); done)))))
              conv => whnf
              refine ⟨i + 1, ⟨hlt, by rw [hat, hr]⟩, by show l.length - (i + 1) < l.length - i; omega, FgL.mk0 rfl ?_⟩
              (repeat (first | exact trivial | (refine And.intro (Wk.int ?_) ?_; (focus (first | rfl | omega | (simp; done) | (simp; omega)))) | (refine And.intro (Wk.bool ?_) ?_; (focus (first | rfl | (simp; done)))) | refine And.intro (Wk.noref rfl) ?_ | refine And.intro (Wk.ptr rfl rfl) ?_ | (refine And.intro (Wk.slice rfl ?_ ?_ ?_ ?_ ?_) ?_; (focus (first | rfl | omega)); (focus (first | rfl | omega)); (focus (first | rfl | omega)); (focus (first | rfl | omega)); (focus rfl)) | refine And.intro Wk.nil ?_ | refine And.intro (Wk.func trivial ⟨Wk.ptr rfl rfl, trivial⟩) ?_ | refine And.intro (Wk.map rfl) ?_)))
    · have e1 : decide ((i : Int) < (l.length : Int)) = false := by simpa using hlt
      have hi2 : i = l.length := by have := hi; omega
      subst hi2
      rw [List.take_length] at hall
      rw [hall]
      repeat' ((conv => whnf); first | (with_reducible refine condT ?_ ?_; (focus (assumption))) | (with_reducible refine condF ?_ ?_; (focus (assumption))) | (with_reducible refine condT ?_ ?_; (focus (decide))) | (with_reducible refine condF ?_ ?_; (focus (decide))) | (with_reducible refine condT ?_ ?_; (focus ((first | assumption | decide | (simp; done) | (simp; omega)); done))) | (with_reducible refine condF ?_ ?_; (focus ((first | assumption | decide | (simp; done) | (simp; omega)); done))) | with_reducible refine condB (fun h => ?_) (fun h => ?_) | with_reducible refine exI rfl ?_ | with_reducible refine eqR rfl ?_ | (with_reducible refine exW (wrapN1 ?_) ?_; (focus (omega))) | (with_reducible refine exW (wrapN ?_) ?_; (focus (omega))) | (with_reducible refine exW (wrapB ?_ ?_) ?_; (focus (omega)); (focus (omega))) | with_reducible refine exW rfl ?_ | (with_reducible refine ixJ _ rfl ?_ ?_; (focus ((first | decide | omega | (simp; done) | (simp; omega)); done))) | (with_reducible refine ixJ' _ rfl ?_ ?_; (focus ((first | decide | omega | (simp; done) | (simp; omega)); done))) | (refine ixJ (Int.toNat _) ?_ ?_ ?_; (focus ((first | rfl | decide | omega | (simp; done)); done)); (focus ((first | decide | omega | (simp; done) | (simp; omega)); done))) | (refine ixJ' (Int.toNat _) ?_ ?_ ?_; (focus ((first | rfl | decide | omega | (simp; done)); done)); (focus ((first | decide | omega | (simp; done) | (simp; omega)); done))) | with_reducible refine ixS _ rfl (by assumption) ?_ | (with_reducible refine shlI ?_ ?_; (focus (first | decide | omega))) | (refine exI (callZ rfl rfl (if_pos ?_)) ?_; (focus ((first | decide | omega | (simp; done) | (simp; omega)); done))))
      all_goals rfl
end Go.Proofs.YtajhailaofchlaaDoor.lex
end

/-
  Programs: how great, how deep, may one be (the document's answers, the program's).
-/
section
set_option linter.unusedVariables false
set_option linter.unusedSimpArgs false
namespace Go.Proofs.YtajhailaofchlaaDoor.lex
open Go.Abs Go.RowKit
set_option maxRecDepth 100000
set_option maxHeartbeats 4000000
variable {gl : Glob}

structure Dc where
  name : List UInt8
  plain : Bool
  val : Int
def Dc.cells (d : Dc) : List AV := [.str d.name, .bool d.plain, .int .i64 d.val]
def dcC : List Dc → List AV
  | [] => []
  | d :: l => d.cells ++ dcC l
theorem dcC_drop (d : Dc) (l : List Dc) (i : Nat) : (dcC (d :: l)).drop ((i + 1) * 3) = (dcC l).drop (i * 3) := by
  have h : (i + 1) * 3 = 3 + i * 3 := by omega
  rw [h, ← List.drop_drop]
  have h2 : (dcC (d :: l)).drop 3 = dcC l := rfl
  rw [h2]
theorem dcC_at : ∀ (l : List Dc) (i : Nat) (h : i < l.length), (dcC l).drop (i * 3) = l[i].cells ++ dcC (l.drop (i + 1))
  | d :: l, 0, h => by simp only [Nat.zero_mul, List.drop_zero, dcC, List.getElem_cons_zero, List.drop_succ_cons]
  | d :: l, i + 1, h => by rw [dcC_drop, dcC_at l i (by simpa using h)]; simp only [List.getElem_cons_succ, List.drop_succ_cons]
theorem dc3 (l : List Dc) (i : Nat) (h : i < l.length) : tk 3 ((dcC l).drop (i * 3)) = some l[i].cells := by
  rw [dcC_at l i h]; rfl
theorem dcn (l : List Dc) (i : Nat) (h : i < l.length) : tk 1 (((dcC l).drop (i * 3)).drop 0) = some [.str l[i].name] := by
  rw [dcC_at l i h]; rfl
theorem dcv (l : List Dc) (i : Nat) (h : i < l.length) : tk 1 (((dcC l).drop (i * 3)).drop 2) = some [.int .i64 l[i].val] := by
  rw [dcC_at l i h]; rfl
structure Pr where
  decls : List Dc
  threads : List (List St)
def Pr.av (p : Pr) : AV := .agg [.rs p.decls.length 3 (dcC p.decls), .rs p.threads.length 1 (p.threads.map stA)]
def okD (l : List Dc) : Prop := l.length ≤ 9223372036854775807 ∧ ∀ d ∈ l, d.name.length ≤ 9223372036854775807
def okP (p : Pr) : Prop := okD p.decls ∧ okTL p.threads ∧ p.threads.length ≤ 9223372036854775807
def dcB (d : Dc) : Bool := wordB d.name && decide (0 ≤ d.val)
def rightTL : List (List St) → Bool
  | [] => true
  | l :: t => rightSL l && rightTL t
def checkP (p : Pr) : Int := if 2000 < sizeTL p.threads ∨ 32 < deepTL p.threads then 3 else if p.decls.all dcB && rightTL p.threads then 0 else 2
theorem rightTL_take : ∀ (l : List (List St)) (i : Nat) (h : i < l.length), rightTL (l.take (i + 1)) = (rightTL (l.take i) && rightSL l[i])
  | e :: l, 0, h => by simp only [List.take_succ_cons, List.take_zero, rightTL, List.getElem_cons_zero, Bool.and_true, Bool.true_and]
  | e :: l, i + 1, h => by
    have := rightTL_take l i (by simpa using h)
    simp only [List.take_succ_cons, rightTL, List.getElem_cons_succ] at this ⊢; rw [this, Bool.and_assoc]
theorem rightTL_get : ∀ {l : List (List St)} {i : Nat} (h : i < l.length), rightSL l[i] = false → rightTL l = false
  | e :: l, 0, h, h2 => by simp only [List.getElem_cons_zero] at h2; simp only [rightTL, h2, Bool.false_and]
  | e :: l, i + 1, h, h2 => by simp only [List.getElem_cons_succ] at h2; simp only [rightTL, rightTL_get (l := l) (by simpa using h) h2, Bool.and_false]
theorem all_take {α : Type} (f : α → Bool) : ∀ (l : List α) (i : Nat) (h : i < l.length), (l.take (i + 1)).all f = ((l.take i).all f && f l[i])
  | e :: l, 0, h => by simp
  | e :: l, i + 1, h => by
    have := all_take f l i (by simpa using h)
    simp only [List.take_succ_cons, List.all_cons, List.getElem_cons_succ] at this ⊢; rw [this, Bool.and_assoc]
theorem all_get {α : Type} (f : α → Bool) {l : List α} {i : Nat} (h : i < l.length) (h2 : f l[i] = false) : l.all f = false := by
  rw [List.all_eq_false]; exact ⟨_, get_mem h, by simp [h2]⟩
def famTL {g : Nat} (hb : hasBody Tryd.prog g = true) (r : List St → AV) (ts : List (List St)) (each : ∀ x ∈ ts, ValOK Tryd.prog gl g [stA x] (r x)) : Fam Tryd.prog gl := famSL hb r (fun x => x ∈ ts) each
theorem sizeTL_mem : ∀ (t : List (List St)) (l : List St), l ∈ t → sizeSL l ≤ sizeTL t
  | e :: t, l, h => by
    simp only [sizeTL]
    rcases List.mem_cons.1 h with rfl | h
    · omega
    · have := sizeTL_mem t l h; omega
theorem deepTL_size : ∀ (t : List (List St)), deepTL t ≤ sizeTL t
  | [] => Nat.le_refl _
  | e :: t => by have := deepSL_size e; have := deepTL_size t; simp only [deepTL, sizeTL]; omega
theorem deepTL_le : ∀ (t : List (List St)) (i : Nat), deepTL (t.take i) ≤ deepTL t
  | [], i => by simp [deepTL]
  | e :: l, 0 => by simp [deepTL]
  | e :: l, i + 1 => by have := deepTL_le l i; simp only [List.take_succ_cons, deepTL]; omega
theorem sizePR_ok (p : Pr) (hl : p.threads.length ≤ 9223372036854775807) (hs : sizeTL p.threads ≤ 1048576) : ValOK Tryd.prog gl 18 [p.av] (.int .i64 (sizeTL p.threads)) := by
  obtain ⟨ds, ts⟩ := p
  simp only [Pr.av] at *
  obtain ⟨O, hO, p1, -⟩ := fams (P := Tryd.prog) (gl := gl) [famTL (g := 52) (by kernel_rfl) (fun x => .int .i64 (sizeSL x)) ts (fun x hx => sizesR_ok _ x (Nat.le_refl _) (by have := sizeTL_mem _ _ hx; omega))] rfl
  have q1 : ∀ x ∈ ts, ∀ H, acall Tryd.prog O H 52 [stA x] = some (.int .i64 (sizeSL x), H) := p1
  clear p1
  refine fn_val follows noNum hO Tryd.func18 rfl ?_
  repeat' ((conv => whnf); first | (with_reducible refine condT ?_ ?_; (focus (assumption))) | (with_reducible refine condF ?_ ?_; (focus (assumption))) | (with_reducible refine condT ?_ ?_; (focus (decide))) | (with_reducible refine condF ?_ ?_; (focus (decide))) | (with_reducible refine condT ?_ ?_; (focus ((first | assumption | decide | (simp; done) | (simp; omega)); done))) | (with_reducible refine condF ?_ ?_; (focus ((first | assumption | decide | (simp; done) | (simp; omega)); done))) | with_reducible refine condB (fun h => ?_) (fun h => ?_) | with_reducible refine exI rfl ?_ | with_reducible refine eqR rfl ?_ | (with_reducible refine exW (wrapN1 ?_) ?_; (focus (omega))) | (with_reducible refine exW (wrapN ?_) ?_; (focus (omega))) | (with_reducible refine exW (wrapB ?_ ?_) ?_; (focus (omega)); (focus (omega))) | with_reducible refine exW rfl ?_ | (with_reducible refine ixJ _ rfl ?_ ?_; (focus ((first | decide | omega | (simp; done) | (simp; omega)); done))) | (with_reducible refine ixJ' _ rfl ?_ ?_; (focus ((first | decide | omega | (simp; done) | (simp; omega)); done))) | (refine ixJ (Int.toNat _) ?_ ?_ ?_; (focus ((first | rfl | decide | omega | (simp; done)); done)); (focus ((first | decide | omega | (simp; done) | (simp; omega)); done))) | (refine ixJ' (Int.toNat _) ?_ ?_ ?_; (focus ((first | rfl | decide | omega | (simp; done)); done)); (focus ((first | decide | omega | (simp; done) | (simp; omega)); done))) | with_reducible refine ixS _ rfl (by assumption) ?_ | (with_reducible refine shlI ?_ ?_; (focus (first | decide | omega))) | (refine exI (callZ rfl rfl (if_pos ?_)) ?_; (focus ((first | decide | omega | (simp; done) | (simp; omega)); done))))
  conv => whnf
  refine ⟨Nat, (fun i => i ≤ ts.length), (fun i => [(1, .ptr 0 0), (3, .int .i64 (sizeTL (ts.take i) : Nat)), (4, .int .i64 i)]), (fun _ => [⟨true, 0, 0, .cells [.rs ds.length 3 (dcC ds), .rs ts.length 1 (ts.map stA)] 25⟩]), (fun i => ts.length - i), ⟨0, Nat.zero_le _, FgL.mk [0] rfl ?_ ⟨⟨rfl, rfl, rfl, rfl, BodyGe.pre (rest := []) rfl rfl⟩, trivial⟩ rfl⟩, ?_⟩
  · simp only [List.take_zero, sizeTL]; (repeat (first | exact trivial | (refine And.intro (Wk.int ?_) ?_; (focus (first | rfl | omega | (simp; done) | (simp; omega)))) | (refine And.intro (Wk.bool ?_) ?_; (focus (first | rfl | (simp; done)))) | refine And.intro (Wk.noref rfl) ?_ | refine And.intro (Wk.ptr rfl rfl) ?_ | (refine And.intro (Wk.slice rfl ?_ ?_ ?_ ?_ ?_) ?_; (focus (first | rfl | omega)); (focus (first | rfl | omega)); (focus (first | rfl | omega)); (focus (first | rfl | omega)); (focus rfl)) | refine And.intro Wk.nil ?_ | refine And.intro (Wk.func trivial ⟨Wk.ptr rfl rfl, trivial⟩) ?_ | refine And.intro (Wk.map rfl) ?_))
  intro i hi
  dsimp only
  by_cases hlt : i < ts.length
  · have e1 : decide ((i : Int) < (ts.length : Int)) = true := by simpa using hlt
    have hst := sizeTL_take ts i hlt
    have hle := sizeTL_le ts i hlt
    have hx := th1 ts i hlt
    have q2 := q1 ts[i] (get_mem hlt)
    generalize ts[i] = l at *
    simp only [stA] at hx q2
    repeat' ((conv => whnf); first | (with_reducible refine exI (q2 _) ?_) | (with_reducible refine ixJ i rfl ?_ ?_; (focus (omega))) | (refine exI hx ?_) | (first | (with_reducible refine condT ?_ ?_; (focus (assumption))) | (with_reducible refine condF ?_ ?_; (focus (assumption))) | (with_reducible refine condT ?_ ?_; (focus (decide))) | (with_reducible refine condF ?_ ?_; (focus (decide))) | (with_reducible refine condT ?_ ?_; (focus ((first | assumption | decide | (simp; done) | (simp; omega)); done))) | (with_reducible refine condF ?_ ?_; (focus ((first | assumption | decide | (simp; done) | (simp; omega)); done))) | with_reducible refine condB (fun h => ?_) (fun h => ?_) | with_reducible refine exI rfl ?_ | with_reducible refine eqR rfl ?_ | (with_reducible refine exW (wrapN1 ?_) ?_; (focus (omega))) | (with_reducible refine exW (wrapN ?_) ?_; (focus (omega))) | (with_reducible refine exW (wrapB ?_ ?_) ?_; (focus (omega)); (focus (omega))) | with_reducible refine exW rfl ?_ | (with_reducible refine ixJ _ rfl ?_ ?_; (focus ((first | decide | omega | (simp; done) | (simp; omega)); done))) | (with_reducible refine ixJ' _ rfl ?_ ?_; (focus ((first | decide | omega | (simp; done) | (simp; omega)); done))) | (refine ixJ (Int.toNat _) ?_ ?_ ?_; (focus ((first | rfl | decide | omega | (simp; done)); done)); (focus ((first | decide | omega | (simp; done) | (simp; omega)); done))) | (refine ixJ' (Int.toNat _) ?_ ?_ ?_; (focus ((first | rfl | decide | omega | (simp; done)); done)); (focus ((first | decide | omega | (simp; done) | (simp; omega)); done))) | with_reducible refine ixS _ rfl (by assumption) ?_ | (with_reducible refine shlI ?_ ?_; (focus (first | decide | omega))) | (refine exI (callZ rfl rfl (if_pos ?_)) ?_; (focus ((first | decide | omega | (simp; done) | (simp; omega)); done)))))
    conv => whnf
    refine ⟨i + 1, hlt, by show ts.length - (i + 1) < ts.length - i; omega, FgL.mk [0] rfl ?_ ⟨⟨rfl, rfl, rfl, rfl, BodyGe.pre (rest := []) rfl rfl⟩, trivial⟩ rfl⟩
    rw [hst]; (repeat (first | exact trivial | (refine And.intro (Wk.int ?_) ?_; (focus (first | rfl | omega | (simp; done) | (simp; omega)))) | (refine And.intro (Wk.bool ?_) ?_; (focus (first | rfl | (simp; done)))) | refine And.intro (Wk.noref rfl) ?_ | refine And.intro (Wk.ptr rfl rfl) ?_ | (refine And.intro (Wk.slice rfl ?_ ?_ ?_ ?_ ?_) ?_; (focus (first | rfl | omega)); (focus (first | rfl | omega)); (focus (first | rfl | omega)); (focus (first | rfl | omega)); (focus rfl)) | refine And.intro Wk.nil ?_ | refine And.intro (Wk.func trivial ⟨Wk.ptr rfl rfl, trivial⟩) ?_ | refine And.intro (Wk.map rfl) ?_))
  · have e1 : decide ((i : Int) < (ts.length : Int)) = false := by simpa using hlt
    have hi2 : i = ts.length := by have := hi; omega
    subst hi2
    rw [List.take_length]
    repeat' ((conv => whnf); first | (with_reducible refine condT ?_ ?_; (focus (assumption))) | (with_reducible refine condF ?_ ?_; (focus (assumption))) | (with_reducible refine condT ?_ ?_; (focus (decide))) | (with_reducible refine condF ?_ ?_; (focus (decide))) | (with_reducible refine condT ?_ ?_; (focus ((first | assumption | decide | (simp; done) | (simp; omega)); done))) | (with_reducible refine condF ?_ ?_; (focus ((first | assumption | decide | (simp; done) | (simp; omega)); done))) | with_reducible refine condB (fun h => ?_) (fun h => ?_) | with_reducible refine exI rfl ?_ | with_reducible refine eqR rfl ?_ | (with_reducible refine exW (wrapN1 ?_) ?_; (focus (omega))) | (with_reducible refine exW (wrapN ?_) ?_; (focus (omega))) | (with_reducible refine exW (wrapB ?_ ?_) ?_; (focus (omega)); (focus (omega))) | with_reducible refine exW rfl ?_ | (with_reducible refine ixJ _ rfl ?_ ?_; (focus ((first | decide | omega | (simp; done) | (simp; omega)); done))) | (with_reducible refine ixJ' _ rfl ?_ ?_; (focus ((first | decide | omega | (simp; done) | (simp; omega)); done))) | (refine ixJ (Int.toNat _) ?_ ?_ ?_; (focus ((first | rfl | decide | omega | (simp; done)); done)); (focus ((first | decide | omega | (simp; done) | (simp; omega)); done))) | (refine ixJ' (Int.toNat _) ?_ ?_ ?_; (focus ((first | rfl | decide | omega | (simp; done)); done)); (focus ((first | decide | omega | (simp; done) | (simp; omega)); done))) | with_reducible refine ixS _ rfl (by assumption) ?_ | (with_reducible refine shlI ?_ ?_; (focus (first | decide | omega))) | (refine exI (callZ rfl rfl (if_pos ?_)) ?_; (focus ((first | decide | omega | (simp; done) | (simp; omega)); done))))
    all_goals rfl
theorem deepPR_ok (p : Pr) (hl : p.threads.length ≤ 9223372036854775807) (hs : sizeTL p.threads ≤ 1048576) : ValOK Tryd.prog gl 19 [p.av] (.int .i64 (deepTL p.threads)) := by
  obtain ⟨ds, ts⟩ := p
  simp only [Pr.av] at *
  obtain ⟨O, hO, p1, -⟩ := fams (P := Tryd.prog) (gl := gl) [famTL (g := 53) (by kernel_rfl) (fun x => .int .i64 (deepSL x)) ts (fun x hx => deepsR_ok _ x (Nat.le_refl _) (by have := sizeTL_mem _ _ hx; omega))] rfl
  have q1 : ∀ x ∈ ts, ∀ H, acall Tryd.prog O H 53 [stA x] = some (.int .i64 (deepSL x), H) := p1
  clear p1
  refine fn_val follows noNum hO Tryd.func19 rfl ?_
  repeat' ((conv => whnf); first | (with_reducible refine condT ?_ ?_; (focus (assumption))) | (with_reducible refine condF ?_ ?_; (focus (assumption))) | (with_reducible refine condT ?_ ?_; (focus (decide))) | (with_reducible refine condF ?_ ?_; (focus (decide))) | (with_reducible refine condT ?_ ?_; (focus ((first | assumption | decide | (simp; done) | (simp; omega)); done))) | (with_reducible refine condF ?_ ?_; (focus ((first | assumption | decide | (simp; done) | (simp; omega)); done))) | with_reducible refine condB (fun h => ?_) (fun h => ?_) | with_reducible refine exI rfl ?_ | with_reducible refine eqR rfl ?_ | (with_reducible refine exW (wrapN1 ?_) ?_; (focus (omega))) | (with_reducible refine exW (wrapN ?_) ?_; (focus (omega))) | (with_reducible refine exW (wrapB ?_ ?_) ?_; (focus (omega)); (focus (omega))) | with_reducible refine exW rfl ?_ | (with_reducible refine ixJ _ rfl ?_ ?_; (focus ((first | decide | omega | (simp; done) | (simp; omega)); done))) | (with_reducible refine ixJ' _ rfl ?_ ?_; (focus ((first | decide | omega | (simp; done) | (simp; omega)); done))) | (refine ixJ (Int.toNat _) ?_ ?_ ?_; (focus ((first | rfl | decide | omega | (simp; done)); done)); (focus ((first | decide | omega | (simp; done) | (simp; omega)); done))) | (refine ixJ' (Int.toNat _) ?_ ?_ ?_; (focus ((first | rfl | decide | omega | (simp; done)); done)); (focus ((first | decide | omega | (simp; done) | (simp; omega)); done))) | with_reducible refine ixS _ rfl (by assumption) ?_ | (with_reducible refine shlI ?_ ?_; (focus (first | decide | omega))) | (refine exI (callZ rfl rfl (if_pos ?_)) ?_; (focus ((first | decide | omega | (simp; done) | (simp; omega)); done))))
  conv => whnf
  refine ⟨Nat, (fun i => i ≤ ts.length), (fun i => [(1, .ptr 0 0), (3, .int .i64 (deepTL (ts.take i) : Nat)), (4, .int .i64 i)]), (fun _ => [⟨true, 0, 0, .cells [.rs ds.length 3 (dcC ds), .rs ts.length 1 (ts.map stA)] 25⟩]), (fun i => ts.length - i), ⟨0, Nat.zero_le _, FgL.mk [0] rfl ?_ ⟨⟨rfl, rfl, rfl, rfl, BodyGe.pre (rest := []) rfl rfl⟩, trivial⟩ rfl⟩, ?_⟩
  · simp only [List.take_zero, deepTL]; (repeat (first | exact trivial | (refine And.intro (Wk.int ?_) ?_; (focus (first | rfl | omega | (simp; done) | (simp; omega)))) | (refine And.intro (Wk.bool ?_) ?_; (focus (first | rfl | (simp; done)))) | refine And.intro (Wk.noref rfl) ?_ | refine And.intro (Wk.ptr rfl rfl) ?_ | (refine And.intro (Wk.slice rfl ?_ ?_ ?_ ?_ ?_) ?_; (focus (first | rfl | omega)); (focus (first | rfl | omega)); (focus (first | rfl | omega)); (focus (first | rfl | omega)); (focus rfl)) | refine And.intro Wk.nil ?_ | refine And.intro (Wk.func trivial ⟨Wk.ptr rfl rfl, trivial⟩) ?_ | refine And.intro (Wk.map rfl) ?_))
  intro i hi
  dsimp only
  by_cases hlt : i < ts.length
  · have e1 : decide ((i : Int) < (ts.length : Int)) = true := by simpa using hlt
    have hst := deepTL_take ts i hlt
    have hx := th1 ts i hlt
    have q2 := q1 ts[i] (get_mem hlt)
    generalize ts[i] = l at *
    simp only [stA] at hx q2
    repeat' ((conv => whnf); first | (with_reducible refine exI (q2 _) ?_) | (with_reducible refine ixJ i rfl ?_ ?_; (focus (omega))) | (refine exI hx ?_) | (first | (with_reducible refine condT ?_ ?_; (focus (assumption))) | (with_reducible refine condF ?_ ?_; (focus (assumption))) | (with_reducible refine condT ?_ ?_; (focus (decide))) | (with_reducible refine condF ?_ ?_; (focus (decide))) | (with_reducible refine condT ?_ ?_; (focus ((first | assumption | decide | (simp; done) | (simp; omega)); done))) | (with_reducible refine condF ?_ ?_; (focus ((first | assumption | decide | (simp; done) | (simp; omega)); done))) | with_reducible refine condB (fun h => ?_) (fun h => ?_) | with_reducible refine exI rfl ?_ | with_reducible refine eqR rfl ?_ | (with_reducible refine exW (wrapN1 ?_) ?_; (focus (omega))) | (with_reducible refine exW (wrapN ?_) ?_; (focus (omega))) | (with_reducible refine exW (wrapB ?_ ?_) ?_; (focus (omega)); (focus (omega))) | with_reducible refine exW rfl ?_ | (with_reducible refine ixJ _ rfl ?_ ?_; (focus ((first | decide | omega | (simp; done) | (simp; omega)); done))) | (with_reducible refine ixJ' _ rfl ?_ ?_; (focus ((first | decide | omega | (simp; done) | (simp; omega)); done))) | (refine ixJ (Int.toNat _) ?_ ?_ ?_; (focus ((first | rfl | decide | omega | (simp; done)); done)); (focus ((first | decide | omega | (simp; done) | (simp; omega)); done))) | (refine ixJ' (Int.toNat _) ?_ ?_ ?_; (focus ((first | rfl | decide | omega | (simp; done)); done)); (focus ((first | decide | omega | (simp; done) | (simp; omega)); done))) | with_reducible refine ixS _ rfl (by assumption) ?_ | (with_reducible refine shlI ?_ ?_; (focus (first | decide | omega))) | (refine exI (callZ rfl rfl (if_pos ?_)) ?_; (focus ((first | decide | omega | (simp; done) | (simp; omega)); done)))))
    conv => whnf
    refine ⟨i + 1, hlt, by show ts.length - (i + 1) < ts.length - i; omega, FgL.mk [0] rfl ?_ ⟨⟨rfl, rfl, rfl, rfl, BodyGe.pre (rest := []) rfl rfl⟩, trivial⟩ rfl⟩
    refine And.intro (Wk.ptr rfl rfl) ?_
    refine And.intro (Wk.int ?_) ?_
    · rw [hst]; split <;> omega
    exact ⟨Wk.int rfl, trivial⟩
  · have e1 : decide ((i : Int) < (ts.length : Int)) = false := by simpa using hlt
    have hi2 : i = ts.length := by have := hi; omega
    subst hi2
    rw [List.take_length]
    repeat' ((conv => whnf); first | (with_reducible refine condT ?_ ?_; (focus (assumption))) | (with_reducible refine condF ?_ ?_; (focus (assumption))) | (with_reducible refine condT ?_ ?_; (focus (decide))) | (with_reducible refine condF ?_ ?_; (focus (decide))) | (with_reducible refine condT ?_ ?_; (focus ((first | assumption | decide | (simp; done) | (simp; omega)); done))) | (with_reducible refine condF ?_ ?_; (focus ((first | assumption | decide | (simp; done) | (simp; omega)); done))) | with_reducible refine condB (fun h => ?_) (fun h => ?_) | with_reducible refine exI rfl ?_ | with_reducible refine eqR rfl ?_ | (with_reducible refine exW (wrapN1 ?_) ?_; (focus (omega))) | (with_reducible refine exW (wrapN ?_) ?_; (focus (omega))) | (with_reducible refine exW (wrapB ?_ ?_) ?_; (focus (omega)); (focus (omega))) | with_reducible refine exW rfl ?_ | (with_reducible refine ixJ _ rfl ?_ ?_; (focus ((first | decide | omega | (simp; done) | (simp; omega)); done))) | (with_reducible refine ixJ' _ rfl ?_ ?_; (focus ((first | decide | omega | (simp; done) | (simp; omega)); done))) | (refine ixJ (Int.toNat _) ?_ ?_ ?_; (focus ((first | rfl | decide | omega | (simp; done)); done)); (focus ((first | decide | omega | (simp; done) | (simp; omega)); done))) | (refine ixJ' (Int.toNat _) ?_ ?_ ?_; (focus ((first | rfl | decide | omega | (simp; done)); done)); (focus ((first | decide | omega | (simp; done) | (simp; omega)); done))) | with_reducible refine ixS _ rfl (by assumption) ?_ | (with_reducible refine shlI ?_ ?_; (focus (first | decide | omega))) | (refine exI (callZ rfl rfl (if_pos ?_)) ?_; (focus ((first | decide | omega | (simp; done) | (simp; omega)); done))))
    all_goals rfl
theorem checkPR_ok (p : Pr) (hok : okP p) (hs : sizeTL p.threads ≤ 1048576) : ValOK Tryd.prog gl 15 [p.av] (.int .i64 (checkP p)) := by
  obtain ⟨⟨hd1, hd2⟩, ht1, ht2⟩ := hok
  have hdp := deepTL_size p.threads
  obtain ⟨O, hO, p1, p2, p3, p4, -⟩ := fams (P := Tryd.prog) (gl := gl) [{ I := Unit, f := 18, G := fun _ => True, A := fun _ => [p.av], R := fun _ => .int .i64 (sizeTL p.threads), body := (by kernel_rfl), inj := (fun _ _ _ _ _ => rfl), ok := (fun _ _ => ⟨rfl, sizePR_ok p ht2 hs⟩) },
    { I := Unit, f := 19, G := fun _ => True, A := fun _ => [p.av], R := fun _ => .int .i64 (deepTL p.threads), body := (by kernel_rfl), inj := (fun _ _ _ _ _ => rfl), ok := (fun _ _ => ⟨rfl, deepPR_ok p ht2 hs⟩) },
    famTL (g := 47) (by kernel_rfl) (fun x => .bool (rightSL x)) p.threads (fun x hx => rights_ok _ x (Nat.le_refl _) (okTL_get ht1 _ hx).1 (by have := sizeTL_mem _ _ hx; omega)),
    { I := List UInt8, f := 46, G := fun s => s.length ≤ 9223372036854775807, A := fun s => [.str s], R := fun s => .bool (wordB s), body := (by kernel_rfl), inj := (fun i j _ _ h => by simp only [List.cons.injEq, AV.str.injEq, and_true] at h; rw [h]), ok := (fun s hs => ⟨rfl, wordRef_ok s hs⟩) }] rfl
  have q1 : ∀ H, acall Tryd.prog O H 18 [p.av] = some (.int .i64 (sizeTL p.threads), H) := p1 () trivial
  have q2 : ∀ H, acall Tryd.prog O H 19 [p.av] = some (.int .i64 (deepTL p.threads), H) := p2 () trivial
  have q3 : ∀ x ∈ p.threads, ∀ H, acall Tryd.prog O H 47 [stA x] = some (.bool (rightSL x), H) := p3
  have q4 : ∀ s, s.length ≤ 9223372036854775807 → ∀ H, acall Tryd.prog O H 46 [.str s] = some (.bool (wordB s), H) := p4
  clear p1 p2 p3 p4
  unfold checkP
  obtain ⟨ds, ts⟩ := p
  simp only [Pr.av] at *
  generalize sizeTL ts = sz at *
  generalize deepTL ts = dp at *
  refine fn_val follows noNum hO Tryd.func15 rfl ?_
  by_cases hlong : 2000 < sz ∨ 32 < dp
  · rw [if_pos hlong]
    by_cases h1 : 2000 < sz
    · have e1 : decide ((sz : Int) > 2000) = true := by simp only [decide_eq_true_eq]; omega
      repeat' ((conv => whnf); first | (with_reducible refine exI (q1 _) ?_) | (with_reducible refine exI (q2 _) ?_) | (first | (with_reducible refine condT ?_ ?_; (focus (assumption))) | (with_reducible refine condF ?_ ?_; (focus (assumption))) | (with_reducible refine condT ?_ ?_; (focus (decide))) | (with_reducible refine condF ?_ ?_; (focus (decide))) | (with_reducible refine condT ?_ ?_; (focus ((first | assumption | decide | (simp; done) | (simp; omega)); done))) | (with_reducible refine condF ?_ ?_; (focus ((first | assumption | decide | (simp; done) | (simp; omega)); done))) | with_reducible refine condB (fun h => ?_) (fun h => ?_) | with_reducible refine exI rfl ?_ | with_reducible refine eqR rfl ?_ | (with_reducible refine exW (wrapN1 ?_) ?_; (focus (omega))) | (with_reducible refine exW (wrapN ?_) ?_; (focus (omega))) | (with_reducible refine exW (wrapB ?_ ?_) ?_; (focus (omega)); (focus (omega))) | with_reducible refine exW rfl ?_ | (with_reducible refine ixJ _ rfl ?_ ?_; (focus ((first | decide | omega | (simp; done) | (simp; omega)); done))) | (with_reducible refine ixJ' _ rfl ?_ ?_; (focus ((first | decide | omega | (simp; done) | (simp; omega)); done))) | (refine ixJ (Int.toNat _) ?_ ?_ ?_; (focus ((first | rfl | decide | omega | (simp; done)); done)); (focus ((first | decide | omega | (simp; done) | (simp; omega)); done))) | (refine ixJ' (Int.toNat _) ?_ ?_ ?_; (focus ((first | rfl | decide | omega | (simp; done)); done)); (focus ((first | decide | omega | (simp; done) | (simp; omega)); done))) | with_reducible refine ixS _ rfl (by assumption) ?_ | (with_reducible refine shlI ?_ ?_; (focus (first | decide | omega))) | (refine exI (callZ rfl rfl (if_pos ?_)) ?_; (focus ((first | decide | omega | (simp; done) | (simp; omega)); done)))))
      all_goals rfl
    · have e1 : decide ((sz : Int) > 2000) = false := by simp only [decide_eq_false_iff_not]; omega
      have e2 : decide ((dp : Int) > 32) = true := by simp only [decide_eq_true_eq]; omega
      repeat' ((conv => whnf); first | (with_reducible refine exI (q1 _) ?_) | (with_reducible refine exI (q2 _) ?_) | (first | (with_reducible refine condT ?_ ?_; (focus (assumption))) | (with_reducible refine condF ?_ ?_; (focus (assumption))) | (with_reducible refine condT ?_ ?_; (focus (decide))) | (with_reducible refine condF ?_ ?_; (focus (decide))) | (with_reducible refine condT ?_ ?_; (focus ((first | assumption | decide | (simp; done) | (simp; omega)); done))) | (with_reducible refine condF ?_ ?_; (focus ((first | assumption | decide | (simp; done) | (simp; omega)); done))) | with_reducible refine condB (fun h => ?_) (fun h => ?_) | with_reducible refine exI rfl ?_ | with_reducible refine eqR rfl ?_ | (with_reducible refine exW (wrapN1 ?_) ?_; (focus (omega))) | (with_reducible refine exW (wrapN ?_) ?_; (focus (omega))) | (with_reducible refine exW (wrapB ?_ ?_) ?_; (focus (omega)); (focus (omega))) | with_reducible refine exW rfl ?_ | (with_reducible refine ixJ _ rfl ?_ ?_; (focus ((first | decide | omega | (simp; done) | (simp; omega)); done))) | (with_reducible refine ixJ' _ rfl ?_ ?_; (focus ((first | decide | omega | (simp; done) | (simp; omega)); done))) | (refine ixJ (Int.toNat _) ?_ ?_ ?_; (focus ((first | rfl | decide | omega | (simp; done)); done)); (focus ((first | decide | omega | (simp; done) | (simp; omega)); done))) | (refine ixJ' (Int.toNat _) ?_ ?_ ?_; (focus ((first | rfl | decide | omega | (simp; done)); done)); (focus ((first | decide | omega | (simp; done) | (simp; omega)); done))) | with_reducible refine ixS _ rfl (by assumption) ?_ | (with_reducible refine shlI ?_ ?_; (focus (first | decide | omega))) | (refine exI (callZ rfl rfl (if_pos ?_)) ?_; (focus ((first | decide | omega | (simp; done) | (simp; omega)); done)))))
      all_goals rfl
  rw [if_neg hlong]
  have e1 : decide ((sz : Int) > 2000) = false := by simp only [decide_eq_false_iff_not]; omega
  have e2 : decide ((dp : Int) > 32) = false := by simp only [decide_eq_false_iff_not]; omega
  repeat' ((conv => whnf); first | (with_reducible refine exI (q1 _) ?_) | (with_reducible refine exI (q2 _) ?_) | (first | (with_reducible refine condT ?_ ?_; (focus (assumption))) | (with_reducible refine condF ?_ ?_; (focus (assumption))) | (with_reducible refine condT ?_ ?_; (focus (decide))) | (with_reducible refine condF ?_ ?_; (focus (decide))) | (with_reducible refine condT ?_ ?_; (focus ((first | assumption | decide | (simp; done) | (simp; omega)); done))) | (with_reducible refine condF ?_ ?_; (focus ((first | assumption | decide | (simp; done) | (simp; omega)); done))) | with_reducible refine condB (fun h => ?_) (fun h => ?_) | with_reducible refine exI rfl ?_ | with_reducible refine eqR rfl ?_ | (with_reducible refine exW (wrapN1 ?_) ?_; (focus (omega))) | (with_reducible refine exW (wrapN ?_) ?_; (focus (omega))) | (with_reducible refine exW (wrapB ?_ ?_) ?_; (focus (omega)); (focus (omega))) | with_reducible refine exW rfl ?_ | (with_reducible refine ixJ _ rfl ?_ ?_; (focus ((first | decide | omega | (simp; done) | (simp; omega)); done))) | (with_reducible refine ixJ' _ rfl ?_ ?_; (focus ((first | decide | omega | (simp; done) | (simp; omega)); done))) | (refine ixJ (Int.toNat _) ?_ ?_ ?_; (focus ((first | rfl | decide | omega | (simp; done)); done)); (focus ((first | decide | omega | (simp; done) | (simp; omega)); done))) | (refine ixJ' (Int.toNat _) ?_ ?_ ?_; (focus ((first | rfl | decide | omega | (simp; done)); done)); (focus ((first | decide | omega | (simp; done) | (simp; omega)); done))) | with_reducible refine ixS _ rfl (by assumption) ?_ | (with_reducible refine shlI ?_ ?_; (focus (first | decide | omega))) | (refine exI (callZ rfl rfl (if_pos ?_)) ?_; (focus ((first | decide | omega | (simp; done) | (simp; omega)); done)))))
  conv => whnf
  refine ⟨Nat, (fun i => i ≤ ds.length ∧ (ds.take i).all dcB = true), (fun i => [(1, .ptr 0 0), (3, .int .i64 i)]), (fun _ => [⟨true, 0, 0, .cells [.rs ds.length 3 (dcC ds), .rs ts.length 1 (ts.map stA)] 25⟩]), (fun i => ds.length - i), ⟨0, ⟨Nat.zero_le _, rfl⟩, FgL.mk [0] rfl ?_ ⟨⟨rfl, rfl, rfl, rfl, BodyGe.pre (rest := []) rfl rfl⟩, trivial⟩ rfl⟩, ?_⟩
  · (repeat (first | exact trivial | (refine And.intro (Wk.int ?_) ?_; (focus (first | rfl | omega | (simp; done) | (simp; omega)))) | (refine And.intro (Wk.bool ?_) ?_; (focus (first | rfl | (simp; done)))) | refine And.intro (Wk.noref rfl) ?_ | refine And.intro (Wk.ptr rfl rfl) ?_ | (refine And.intro (Wk.slice rfl ?_ ?_ ?_ ?_ ?_) ?_; (focus (first | rfl | omega)); (focus (first | rfl | omega)); (focus (first | rfl | omega)); (focus (first | rfl | omega)); (focus rfl)) | refine And.intro Wk.nil ?_ | refine And.intro (Wk.func trivial ⟨Wk.ptr rfl rfl, trivial⟩) ?_ | refine And.intro (Wk.map rfl) ?_))
  rintro i ⟨hi, hall⟩
  dsimp only
  by_cases hlt : i < ds.length
  · have e1 : decide ((i : Int) < (ds.length : Int)) = true := by simpa using hlt
    have hat := all_take dcB ds i hlt
    rw [hall, Bool.true_and] at hat
    have hfalse : dcB ds[i] = false → ds.all dcB = false := all_get dcB hlt
    have hxn := dcn ds i hlt
    have hxv := dcv ds i hlt
    have qn := q4 ds[i].name (hd2 _ (get_mem hlt))
    generalize hd : ds[i] = d at *
    obtain ⟨nm, pl, vl⟩ := d
    simp only [dcB] at hat hfalse hxn hxv qn
    generalize wordB nm = w at *
    by_cases hv : 0 ≤ vl
    · have e3 : decide (vl < 0) = false := by simpa using hv
      rw [show decide (0 ≤ vl) = true from by simpa using hv, Bool.and_true] at hat hfalse
      cases w with
      | true =>
        repeat' ((conv => whnf); first | (with_reducible refine exI (qn _) ?_) | (with_reducible refine ixJ i rfl ?_ ?_; (focus (omega))) | (refine exI hxn ?_) | (refine exI hxv ?_) | (first | (with_reducible refine condT ?_ ?_; (focus (assumption))) | (with_reducible refine condF ?_ ?_; (focus (assumption))) | (with_reducible refine condT ?_ ?_; (focus (decide))) | (with_reducible refine condF ?_ ?_; (focus (decide))) | (with_reducible refine condT ?_ ?_; (focus ((first | assumption | decide | (simp; done) | (simp; omega)); done))) | (with_reducible refine condF ?_ ?_; (focus ((first | assumption | decide | (simp; done) | (simp; omega)); done))) | with_reducible refine condB (fun h => ?_) (fun h => ?_) | with_reducible refine exI rfl ?_ | with_reducible refine eqR rfl ?_ | (with_reducible refine exW (wrapN1 ?_) ?_; (focus (omega))) | (with_reducible refine exW (wrapN ?_) ?_; (focus (omega))) | (with_reducible refine exW (wrapB ?_ ?_) ?_; (focus (omega)); (focus (omega))) | with_reducible refine exW rfl ?_ | (with_reducible refine ixJ _ rfl ?_ ?_; (focus ((first | decide | omega | (simp; done) | (simp; omega)); done))) | (with_reducible refine ixJ' _ rfl ?_ ?_; (focus ((first | decide | omega | (simp; done) | (simp; omega)); done))) | (refine ixJ (Int.toNat _) ?_ ?_ ?_; (focus ((first | rfl | decide | omega | (simp; done)); done)); (focus ((first | decide | omega | (simp; done) | (simp; omega)); done))) | (refine ixJ' (Int.toNat _) ?_ ?_ ?_; (focus ((first | rfl | decide | omega | (simp; done)); done)); (focus ((first | decide | omega | (simp; done) | (simp; omega)); done))) | with_reducible refine ixS _ rfl (by assumption) ?_ | (with_reducible refine shlI ?_ ?_; (focus (first | decide | omega))) | (refine exI (callZ rfl rfl (if_pos ?_)) ?_; (focus ((first | decide | omega | (simp; done) | (simp; omega)); done)))))
        conv => whnf
        refine ⟨i + 1, ⟨hlt, hat⟩, by show ds.length - (i + 1) < ds.length - i; omega, FgL.mk [0] rfl ?_ ⟨⟨rfl, rfl, rfl, rfl, BodyGe.pre (rest := []) rfl rfl⟩, trivial⟩ rfl⟩
        (repeat (first | exact trivial | (refine And.intro (Wk.int ?_) ?_; (focus (first | rfl | omega | (simp; done) | (simp; omega)))) | (refine And.intro (Wk.bool ?_) ?_; (focus (first | rfl | (simp; done)))) | refine And.intro (Wk.noref rfl) ?_ | refine And.intro (Wk.ptr rfl rfl) ?_ | (refine And.intro (Wk.slice rfl ?_ ?_ ?_ ?_ ?_) ?_; (focus (first | rfl | omega)); (focus (first | rfl | omega)); (focus (first | rfl | omega)); (focus (first | rfl | omega)); (focus rfl)) | refine And.intro Wk.nil ?_ | refine And.intro (Wk.func trivial ⟨Wk.ptr rfl rfl, trivial⟩) ?_ | refine And.intro (Wk.map rfl) ?_))
      | false =>
        rw [hfalse rfl]
        repeat' ((conv => whnf); first | (with_reducible refine exI (qn _) ?_) | (with_reducible refine ixJ i rfl ?_ ?_; (focus (omega))) | (refine exI hxn ?_) | (refine exI hxv ?_) | (first | (with_reducible refine condT ?_ ?_; (focus (assumption))) | (with_reducible refine condF ?_ ?_; (focus (assumption))) | (with_reducible refine condT ?_ ?_; (focus (decide))) | (with_reducible refine condF ?_ ?_; (focus (decide))) | (with_reducible refine condT ?_ ?_; (focus ((first | assumption | decide | (simp; done) | (simp; omega)); done))) | (with_reducible refine condF ?_ ?_; (focus ((first | assumption | decide | (simp; done) | (simp; omega)); done))) | with_reducible refine condB (fun h => ?_) (fun h => ?_) | with_reducible refine exI rfl ?_ | with_reducible refine eqR rfl ?_ | (with_reducible refine exW (wrapN1 ?_) ?_; (focus (omega))) | (with_reducible refine exW (wrapN ?_) ?_; (focus (omega))) | (with_reducible refine exW (wrapB ?_ ?_) ?_; (focus (omega)); (focus (omega))) | with_reducible refine exW rfl ?_ | (with_reducible refine ixJ _ rfl ?_ ?_; (focus ((first | decide | omega | (simp; done) | (simp; omega)); done))) | (with_reducible refine ixJ' _ rfl ?_ ?_; (focus ((first | decide | omega | (simp; done) | (simp; omega)); done))) | (refine ixJ (Int.toNat _) ?_ ?_ ?_; (focus ((first | rfl | decide | omega | (simp; done)); done)); (focus ((first | decide | omega | (simp; done) | (simp; omega)); done))) | (refine ixJ' (Int.toNat _) ?_ ?_ ?_; (focus ((first | rfl | decide | omega | (simp; done)); done)); (focus ((first | decide | omega | (simp; done) | (simp; omega)); done))) | with_reducible refine ixS _ rfl (by assumption) ?_ | (with_reducible refine shlI ?_ ?_; (focus (first | decide | omega))) | (refine exI (callZ rfl rfl (if_pos ?_)) ?_; (focus ((first | decide | omega | (simp; done) | (simp; omega)); done)))))
        all_goals rfl
    · have e3 : decide (vl < 0) = true := by simp only [decide_eq_true_eq]; omega
      rw [show decide (0 ≤ vl) = false from by simpa using hv, Bool.and_false] at hat hfalse
      rw [hfalse rfl]
      cases w
      all_goals (repeat' ((conv => whnf); first | (with_reducible refine exI (qn _) ?_) | (with_reducible refine ixJ i rfl ?_ ?_; (focus (omega))) | (refine exI hxn ?_) | (refine exI hxv ?_) | (first | (with_reducible refine condT ?_ ?_; (focus (assumption))) | (with_reducible refine condF ?_ ?_; (focus (assumption))) | (with_reducible refine condT ?_ ?_; (focus (decide))) | (with_reducible refine condF ?_ ?_; (focus (decide))) | (with_reducible refine condT ?_ ?_; (focus ((first | assumption | decide | (simp; done) | (simp; omega)); done))) | (with_reducible refine condF ?_ ?_; (focus ((first | assumption | decide | (simp; done) | (simp; omega)); done))) | with_reducible refine condB (fun h => ?_) (fun h => ?_) | with_reducible refine exI rfl ?_ | with_reducible refine eqR rfl ?_ | (with_reducible refine exW (wrapN1 ?_) ?_; (focus (omega))) | (with_reducible refine exW (wrapN ?_) ?_; (focus (omega))) | (with_reducible refine exW (wrapB ?_ ?_) ?_; (focus (omega)); (focus (omega))) | with_reducible refine exW rfl ?_ | (with_reducible refine ixJ _ rfl ?_ ?_; (focus ((first | decide | omega | (simp; done) | (simp; omega)); done))) | (with_reducible refine ixJ' _ rfl ?_ ?_; (focus ((first | decide | omega | (simp; done) | (simp; omega)); done))) | (refine ixJ (Int.toNat _) ?_ ?_ ?_; (focus ((first | rfl | decide | omega | (simp; done)); done)); (focus ((first | decide | omega | (simp; done) | (simp; omega)); done))) | (refine ixJ' (Int.toNat _) ?_ ?_ ?_; (focus ((first | rfl | decide | omega | (simp; done)); done)); (focus ((first | decide | omega | (simp; done) | (simp; omega)); done))) | with_reducible refine ixS _ rfl (by assumption) ?_ | (with_reducible refine shlI ?_ ?_; (focus (first | decide | omega))) | (refine exI (callZ rfl rfl (if_pos ?_)) ?_; (focus ((first | decide | omega | (simp; done) | (simp; omega)); done))))))
      all_goals rfl
  · have e1 : decide ((i : Int) < (ds.length : Int)) = false := by simpa using hlt
    have hi2 : i = ds.length := by have := hi; omega
    subst hi2
    rw [List.take_length] at hall
    rw [hall, Bool.true_and]
    repeat' ((conv => whnf); first | (with_reducible refine condT ?_ ?_; (focus (assumption))) | (with_reducible refine condF ?_ ?_; (focus (assumption))) | (with_reducible refine condT ?_ ?_; (focus (decide))) | (with_reducible refine condF ?_ ?_; (focus (decide))) | (with_reducible refine condT ?_ ?_; (focus ((first | assumption | decide | (simp; done) | (simp; omega)); done))) | (with_reducible refine condF ?_ ?_; (focus ((first | assumption | decide | (simp; done) | (simp; omega)); done))) | with_reducible refine condB (fun h => ?_) (fun h => ?_) | with_reducible refine exI rfl ?_ | with_reducible refine eqR rfl ?_ | (with_reducible refine exW (wrapN1 ?_) ?_; (focus (omega))) | (with_reducible refine exW (wrapN ?_) ?_; (focus (omega))) | (with_reducible refine exW (wrapB ?_ ?_) ?_; (focus (omega)); (focus (omega))) | with_reducible refine exW rfl ?_ | (with_reducible refine ixJ _ rfl ?_ ?_; (focus ((first | decide | omega | (simp; done) | (simp; omega)); done))) | (with_reducible refine ixJ' _ rfl ?_ ?_; (focus ((first | decide | omega | (simp; done) | (simp; omega)); done))) | (refine ixJ (Int.toNat _) ?_ ?_ ?_; (focus ((first | rfl | decide | omega | (simp; done)); done)); (focus ((first | decide | omega | (simp; done) | (simp; omega)); done))) | (refine ixJ' (Int.toNat _) ?_ ?_ ?_; (focus ((first | rfl | decide | omega | (simp; done)); done)); (focus ((first | decide | omega | (simp; done) | (simp; omega)); done))) | with_reducible refine ixS _ rfl (by assumption) ?_ | (with_reducible refine shlI ?_ ?_; (focus (first | decide | omega))) | (refine exI (callZ rfl rfl (if_pos ?_)) ?_; (focus ((first | decide | omega | (simp; done) | (simp; omega)); done))))
    conv => whnf
    refine ⟨Nat, (fun i => i ≤ ts.length ∧ rightTL (ts.take i) = true), (fun i => [(1, .ptr 0 0), (4, .int .i64 i)]), (fun _ => [⟨true, 0, 0, .cells [.rs ds.length 3 (dcC ds), .rs ts.length 1 (ts.map stA)] 25⟩]), (fun i => ts.length - i), ⟨0, ⟨Nat.zero_le _, rfl⟩, FgL.mk [0] rfl ?_ ⟨⟨rfl, rfl, rfl, rfl, BodyGe.pre (rest := []) rfl rfl⟩, trivial⟩ rfl⟩, ?_⟩
    · (repeat (first | exact trivial | (refine And.intro (Wk.int ?_) ?_; (focus (first | rfl | omega | (simp; done) | (simp; omega)))) | (refine And.intro (Wk.bool ?_) ?_; (focus (first | rfl | (simp; done)))) | refine And.intro (Wk.noref rfl) ?_ | refine And.intro (Wk.ptr rfl rfl) ?_ | (refine And.intro (Wk.slice rfl ?_ ?_ ?_ ?_ ?_) ?_; (focus (first | rfl | omega)); (focus (first | rfl | omega)); (focus (first | rfl | omega)); (focus (first | rfl | omega)); (focus rfl)) | refine And.intro Wk.nil ?_ | refine And.intro (Wk.func trivial ⟨Wk.ptr rfl rfl, trivial⟩) ?_ | refine And.intro (Wk.map rfl) ?_))
    rintro i ⟨hi, hrl⟩
    dsimp only
    by_cases hlt : i < ts.length
    · have e1 : decide ((i : Int) < (ts.length : Int)) = true := by simpa using hlt
      have hat := rightTL_take ts i hlt
      rw [hrl, Bool.true_and] at hat
      have hfalse : rightSL ts[i] = false → rightTL ts = false := rightTL_get hlt
      have hx := th1 ts i hlt
      have qr := q3 ts[i] (get_mem hlt)
      generalize ts[i] = l at *
      simp only [stA] at hx qr
      cases hr : rightSL l with
      | true =>
        rw [hr] at hat qr
        repeat' ((conv => whnf); first | (with_reducible refine exI (qr _) ?_) | (with_reducible refine ixJ i rfl ?_ ?_; (focus (omega))) | (refine exI hx ?_) | (first | (with_reducible refine condT ?_ ?_; (focus (assumption))) | (with_reducible refine condF ?_ ?_; (focus (assumption))) | (with_reducible refine condT ?_ ?_; (focus (decide))) | (with_reducible refine condF ?_ ?_; (focus (decide))) | (with_reducible refine condT ?_ ?_; (focus ((first | assumption | decide | (simp; done) | (simp; omega)); done))) | (with_reducible refine condF ?_ ?_; (focus ((first | assumption | decide | (simp; done) | (simp; omega)); done))) | with_reducible refine condB (fun h => ?_) (fun h => ?_) | with_reducible refine exI rfl ?_ | with_reducible refine eqR rfl ?_ | (with_reducible refine exW (wrapN1 ?_) ?_; (focus (omega))) | (with_reducible refine exW (wrapN ?_) ?_; (focus (omega))) | (with_reducible refine exW (wrapB ?_ ?_) ?_; (focus (omega)); (focus (omega))) | with_reducible refine exW rfl ?_ | (with_reducible refine ixJ _ rfl ?_ ?_; (focus ((first | decide | omega | (simp; done) | (simp; omega)); done))) | (with_reducible refine ixJ' _ rfl ?_ ?_; (focus ((first | decide | omega | (simp; done) | (simp; omega)); done))) | (refine ixJ (Int.toNat _) ?_ ?_ ?_; (focus ((first | rfl | decide | omega | (simp; done)); done)); (focus ((first | decide | omega | (simp; done) | (simp; omega)); done))) | (refine ixJ' (Int.toNat _) ?_ ?_ ?_; (focus ((first | rfl | decide | omega | (simp; done)); done)); (focus ((first | decide | omega | (simp; done) | (simp; omega)); done))) | with_reducible refine ixS _ rfl (by assumption) ?_ | (with_reducible refine shlI ?_ ?_; (focus (first | decide | omega))) | (refine exI (callZ rfl rfl (if_pos ?_)) ?_; (focus ((first | decide | omega | (simp; done) | (simp; omega)); done)))))
        conv => whnf
        refine ⟨i + 1, ⟨hlt, hat⟩, by show ts.length - (i + 1) < ts.length - i; omega, FgL.mk [0] rfl ?_ ⟨⟨rfl, rfl, rfl, rfl, BodyGe.pre (rest := []) rfl rfl⟩, trivial⟩ rfl⟩
        (repeat (first | exact trivial | (refine And.intro (Wk.int ?_) ?_; (focus (first | rfl | omega | (simp; done) | (simp; omega)))) | (refine And.intro (Wk.bool ?_) ?_; (focus (first | rfl | (simp; done)))) | refine And.intro (Wk.noref rfl) ?_ | refine And.intro (Wk.ptr rfl rfl) ?_ | (refine And.intro (Wk.slice rfl ?_ ?_ ?_ ?_ ?_) ?_; (focus (first | rfl | omega)); (focus (first | rfl | omega)); (focus (first | rfl | omega)); (focus (first | rfl | omega)); (focus rfl)) | refine And.intro Wk.nil ?_ | refine And.intro (Wk.func trivial ⟨Wk.ptr rfl rfl, trivial⟩) ?_ | refine And.intro (Wk.map rfl) ?_))
      | false =>
        rw [hr] at qr
        rw [hfalse hr]
        repeat' ((conv => whnf); first | (with_reducible refine exI (qr _) ?_) | (with_reducible refine ixJ i rfl ?_ ?_; (focus (omega))) | (refine exI hx ?_) | (first | (with_reducible refine condT ?_ ?_; (focus (assumption))) | (with_reducible refine condF ?_ ?_; (focus (assumption))) | (with_reducible refine condT ?_ ?_; (focus (decide))) | (with_reducible refine condF ?_ ?_; (focus (decide))) | (with_reducible refine condT ?_ ?_; (focus ((first | assumption | decide | (simp; done) | (simp; omega)); done))) | (with_reducible refine condF ?_ ?_; (focus ((first | assumption | decide | (simp; done) | (simp; omega)); done))) | with_reducible refine condB (fun h => ?_) (fun h => ?_) | with_reducible refine exI rfl ?_ | with_reducible refine eqR rfl ?_ | (with_reducible refine exW (wrapN1 ?_) ?_; (focus (omega))) | (with_reducible refine exW (wrapN ?_) ?_; (focus (omega))) | (with_reducible refine exW (wrapB ?_ ?_) ?_; (focus (omega)); (focus (omega))) | with_reducible refine exW rfl ?_ | (with_reducible refine ixJ _ rfl ?_ ?_; (focus ((first | decide | omega | (simp; done) | (simp; omega)); done))) | (with_reducible refine ixJ' _ rfl ?_ ?_; (focus ((first | decide | omega | (simp; done) | (simp; omega)); done))) | (refine ixJ (Int.toNat _) ?_ ?_ ?_; (focus ((first | rfl | decide | omega | (simp; done)); done)); (focus ((first | decide | omega | (simp; done) | (simp; omega)); done))) | (refine ixJ' (Int.toNat _) ?_ ?_ ?_; (focus ((first | rfl | decide | omega | (simp; done)); done)); (focus ((first | decide | omega | (simp; done) | (simp; omega)); done))) | with_reducible refine ixS _ rfl (by assumption) ?_ | (with_reducible refine shlI ?_ ?_; (focus (first | decide | omega))) | (refine exI (callZ rfl rfl (if_pos ?_)) ?_; (focus ((first | decide | omega | (simp; done) | (simp; omega)); done)))))
        all_goals rfl
    · have e1 : decide ((i : Int) < (ts.length : Int)) = false := by simpa using hlt
      have hi2 : i = ts.length := by have := hi; omega
      subst hi2
      rw [List.take_length] at hrl
      rw [hrl]
      repeat' ((conv => whnf); first | (with_reducible refine condT ?_ ?_; (focus (assumption))) | (with_reducible refine condF ?_ ?_; (focus (assumption))) | (with_reducible refine condT ?_ ?_; (focus (decide))) | (with_reducible refine condF ?_ ?_; (focus (decide))) | (with_reducible refine condT ?_ ?_; (focus ((first | assumption | decide | (simp; done) | (simp; omega)); done))) | (with_reducible refine condF ?_ ?_; (focus ((first | assumption | decide | (simp; done) | (simp; omega)); done))) | with_reducible refine condB (fun h => ?_) (fun h => ?_) | with_reducible refine exI rfl ?_ | with_reducible refine eqR rfl ?_ | (with_reducible refine exW (wrapN1 ?_) ?_; (focus (omega))) | (with_reducible refine exW (wrapN ?_) ?_; (focus (omega))) | (with_reducible refine exW (wrapB ?_ ?_) ?_; (focus (omega)); (focus (omega))) | with_reducible refine exW rfl ?_ | (with_reducible refine ixJ _ rfl ?_ ?_; (focus ((first | decide | omega | (simp; done) | (simp; omega)); done))) | (with_reducible refine ixJ' _ rfl ?_ ?_; (focus ((first | decide | omega | (simp; done) | (simp; omega)); done))) | (refine ixJ (Int.toNat _) ?_ ?_ ?_; (focus ((first | rfl | decide | omega | (simp; done)); done)); (focus ((first | decide | omega | (simp; done) | (simp; omega)); done))) | (refine ixJ' (Int.toNat _) ?_ ?_ ?_; (focus ((first | rfl | decide | omega | (simp; done)); done)); (focus ((first | decide | omega | (simp; done) | (simp; omega)); done))) | with_reducible refine ixS _ rfl (by assumption) ?_ | (with_reducible refine shlI ?_ ?_; (focus (first | decide | omega))) | (refine exI (callZ rfl rfl (if_pos ?_)) ?_; (focus ((first | decide | omega | (simp; done) | (simp; omega)); done))))
      all_goals rfl
end Go.Proofs.YtajhailaofchlaaDoor.lex
end

/-
  Programs: how great, how deep, may one be (the program's answers).
-/
section
set_option linter.unusedVariables false
set_option linter.unusedSimpArgs false
namespace Go.Proofs.YtajhailaofchlaaDoor.lex
open Go.Abs Go.RowKit
set_option maxRecDepth 100000
set_option maxHeartbeats 4000000

/-- The memory of Size and Deep: the program, the number. -/
def szC (ds : List Dc) (ts : List (List St)) (v : AV) : AHeap := [⟨true, 0, 0, .cells [.rs ds.length 3 (dcC ds), .rs ts.length 1 (ts.map stA)] 25⟩, ⟨true, 1, 0, .cells [v] 3⟩]
theorem szC_inj {ds : List Dc} {ts : List (List St)} {v w : AV} (h : szC ds ts v = szC ds ts w) : v = w := by
  simp only [szC, List.cons.injEq, AObj.mk.injEq, ABody.cells.injEq, and_true, true_and] at h
  exact h
theorem sz_call (ds : List Dc) (ts : List (List St)) (hok : okTL ts) (hl : ts.length ≤ 9223372036854775807) (h : sizeTL ts ≤ 1000000) :
    MemOK Tryd.prog runLives.gl 35 [.agg [.rs ds.length 3 (dcC ds), .rs ts.length 1 (ts.map stA)], .func (.func 51) [] [.ptr 1 0]] (szC ds ts (.int .i64 0)) (.tuple []) (szC ds ts (.int .i64 (sizeTL ts))) := by
  have hM := nodes_sz ts ds.length (dcC ds) 0 hok hl (by omega)
  rw [Nat.zero_add] at hM
  have h := mem_frame (m := [1]) (n := 2) (Hc := szC ds ts (.int .i64 0)) (cargs := [.agg [.rs ds.length 3 (dcC ds), .rs ts.length 1 (ts.map stA)], .func (.func 51) [] [.ptr 1 0]]) hM ?_ ?_ rfl rfl rfl rfl rfl rfl
  · exact h
  · rfl
  · exact ⟨⟨rfl, rfl, rfl, rfl, BodyGe.pre (rest := []) rfl rfl⟩, trivial⟩
theorem dp_call (ds : List Dc) (ts : List (List St)) (hok : okTL ts) (hl : ts.length ≤ 9223372036854775807) (h : sizeTL ts ≤ 1000000) :
    MemOK Tryd.prog runLives.gl 35 [.agg [.rs ds.length 3 (dcC ds), .rs ts.length 1 (ts.map stA)], .func (.func 43) [] [.ptr 1 0]] (szC ds ts (.int .i64 0)) (.tuple []) (szC ds ts (.int .i64 (deepTL ts))) := by
  have hM := nodes_dp ts ds.length (dcC ds) 0 hok hl (by omega)
  rw [Nat.zero_max] at hM
  have h := mem_frame (m := [1]) (n := 2) (Hc := szC ds ts (.int .i64 0)) (cargs := [.agg [.rs ds.length 3 (dcC ds), .rs ts.length 1 (ts.map stA)], .func (.func 43) [] [.ptr 1 0]]) hM ?_ ?_ rfl rfl rfl rfl rfl rfl
  · exact h
  · rfl
  · exact ⟨⟨rfl, rfl, rfl, rfl, BodyGe.pre (rest := []) rfl rfl⟩, trivial⟩
theorem sizePX_ok (p : Pr) (hok : okP p) (hs : sizeTL p.threads ≤ 1000000) : ValOK Tryd.prog runLives.gl 17 [p.av] (.int .i64 (sizeTL p.threads)) := by
  obtain ⟨_, ht1, ht2⟩ := hok
  obtain ⟨ds, ts⟩ := p
  simp only [Pr.av] at *
  obtain ⟨O, hO, ⟨p1, -⟩, -⟩ := famsM (P := Tryd.prog) (gl := runLives.gl) [{ I := Unit, f := 35, G := (fun _ => True), A := (fun _ => [.agg [.rs ds.length 3 (dcC ds), .rs ts.length 1 (ts.map stA)], .func (.func 51) [] [.ptr 1 0]]), H := (fun _ => szC ds ts (.int .i64 0)), R := (fun _ => .tuple []), O := (fun _ => szC ds ts (.int .i64 (sizeTL ts))), body := (by kernel_rfl), inj := (fun _ _ _ _ _ _ => ⟨rfl, rfl⟩), ok := (fun _ _ => sz_call ds ts ht1 ht2 hs) }] [] rfl
  have q1 : acall Tryd.prog O (szC ds ts (.int .i64 0)) 35 [.agg [.rs ds.length 3 (dcC ds), .rs ts.length 1 (ts.map stA)], .func (.func 51) [] [.ptr 1 0]] = some (.tuple [], szC ds ts (.int .i64 (sizeTL ts))) := p1 () trivial
  clear p1
  refine fn_val follows noNum hO Tryd.func17 rfl ?_
  repeat' ((conv => whnf); first | (refine exI q1 ?_) | (first | (with_reducible refine condT ?_ ?_; (focus (assumption))) | (with_reducible refine condF ?_ ?_; (focus (assumption))) | (with_reducible refine condT ?_ ?_; (focus (decide))) | (with_reducible refine condF ?_ ?_; (focus (decide))) | (with_reducible refine condT ?_ ?_; (focus ((first | assumption | decide | (simp; done) | (simp; omega)); done))) | (with_reducible refine condF ?_ ?_; (focus ((first | assumption | decide | (simp; done) | (simp; omega)); done))) | with_reducible refine condB (fun h => ?_) (fun h => ?_) | with_reducible refine exI rfl ?_ | with_reducible refine eqR rfl ?_ | (with_reducible refine exW (wrapN1 ?_) ?_; (focus (omega))) | (with_reducible refine exW (wrapN ?_) ?_; (focus (omega))) | (with_reducible refine exW (wrapB ?_ ?_) ?_; (focus (omega)); (focus (omega))) | with_reducible refine exW rfl ?_ | (with_reducible refine ixJ _ rfl ?_ ?_; (focus ((first | decide | omega | (simp; done) | (simp; omega)); done))) | (with_reducible refine ixJ' _ rfl ?_ ?_; (focus ((first | decide | omega | (simp; done) | (simp; omega)); done))) | (refine ixJ (Int.toNat _) ?_ ?_ ?_; (focus ((first | rfl | decide | omega | (simp; done)); done)); (focus ((first | decide | omega | (simp; done) | (simp; omega)); done))) | (refine ixJ' (Int.toNat _) ?_ ?_ ?_; (focus ((first | rfl | decide | omega | (simp; done)); done)); (focus ((first | decide | omega | (simp; done) | (simp; omega)); done))) | with_reducible refine ixS _ rfl (by assumption) ?_ | (with_reducible refine shlI ?_ ?_; (focus (first | decide | omega))) | (refine exI (callZ rfl rfl (if_pos ?_)) ?_; (focus ((first | decide | omega | (simp; done) | (simp; omega)); done)))))
  all_goals (conv => whnf)
  all_goals rfl
theorem deepPX_ok (p : Pr) (hok : okP p) (hs : sizeTL p.threads ≤ 1000000) : ValOK Tryd.prog runLives.gl 12 [p.av] (.int .i64 (deepTL p.threads)) := by
  obtain ⟨_, ht1, ht2⟩ := hok
  obtain ⟨ds, ts⟩ := p
  simp only [Pr.av] at *
  obtain ⟨O, hO, ⟨p1, -⟩, -⟩ := famsM (P := Tryd.prog) (gl := runLives.gl) [{ I := Unit, f := 35, G := (fun _ => True), A := (fun _ => [.agg [.rs ds.length 3 (dcC ds), .rs ts.length 1 (ts.map stA)], .func (.func 43) [] [.ptr 1 0]]), H := (fun _ => szC ds ts (.int .i64 0)), R := (fun _ => .tuple []), O := (fun _ => szC ds ts (.int .i64 (deepTL ts))), body := (by kernel_rfl), inj := (fun _ _ _ _ _ _ => ⟨rfl, rfl⟩), ok := (fun _ _ => dp_call ds ts ht1 ht2 hs) }] [] rfl
  have q1 : acall Tryd.prog O (szC ds ts (.int .i64 0)) 35 [.agg [.rs ds.length 3 (dcC ds), .rs ts.length 1 (ts.map stA)], .func (.func 43) [] [.ptr 1 0]] = some (.tuple [], szC ds ts (.int .i64 (deepTL ts))) := p1 () trivial
  clear p1
  refine fn_val follows noNum hO Tryd.func12 rfl ?_
  repeat' ((conv => whnf); first | (refine exI q1 ?_) | (first | (with_reducible refine condT ?_ ?_; (focus (assumption))) | (with_reducible refine condF ?_ ?_; (focus (assumption))) | (with_reducible refine condT ?_ ?_; (focus (decide))) | (with_reducible refine condF ?_ ?_; (focus (decide))) | (with_reducible refine condT ?_ ?_; (focus ((first | assumption | decide | (simp; done) | (simp; omega)); done))) | (with_reducible refine condF ?_ ?_; (focus ((first | assumption | decide | (simp; done) | (simp; omega)); done))) | with_reducible refine condB (fun h => ?_) (fun h => ?_) | with_reducible refine exI rfl ?_ | with_reducible refine eqR rfl ?_ | (with_reducible refine exW (wrapN1 ?_) ?_; (focus (omega))) | (with_reducible refine exW (wrapN ?_) ?_; (focus (omega))) | (with_reducible refine exW (wrapB ?_ ?_) ?_; (focus (omega)); (focus (omega))) | with_reducible refine exW rfl ?_ | (with_reducible refine ixJ _ rfl ?_ ?_; (focus ((first | decide | omega | (simp; done) | (simp; omega)); done))) | (with_reducible refine ixJ' _ rfl ?_ ?_; (focus ((first | decide | omega | (simp; done) | (simp; omega)); done))) | (refine ixJ (Int.toNat _) ?_ ?_ ?_; (focus ((first | rfl | decide | omega | (simp; done)); done)); (focus ((first | decide | omega | (simp; done) | (simp; omega)); done))) | (refine ixJ' (Int.toNat _) ?_ ?_ ?_; (focus ((first | rfl | decide | omega | (simp; done)); done)); (focus ((first | decide | omega | (simp; done) | (simp; omega)); done))) | with_reducible refine ixS _ rfl (by assumption) ?_ | (with_reducible refine shlI ?_ ?_; (focus (first | decide | omega))) | (refine exI (callZ rfl rfl (if_pos ?_)) ?_; (focus ((first | decide | omega | (simp; done) | (simp; omega)); done)))))
  all_goals (conv => whnf)
  all_goals rfl
/-- The memory of Check. -/
def chC (ds : List Dc) (ts : List (List St)) (n : Nat) (g : Bool) : AHeap := [⟨true, 0, 0, .cells [.rs ds.length 3 (dcC ds), .rs ts.length 1 (ts.map stA)] 25⟩, ⟨true, 1, 0, .cells [.int .i64 n] 3⟩, ⟨true, 2, 0, .cells [.bool g] 4⟩, ⟨true, 3, 0, .cells [.func (.func 71) [] [.ptr 1 0]] 57⟩]
theorem ck_call (ds : List Dc) (ts : List (List St)) (hok : okTL ts) (hl : ts.length ≤ 9223372036854775807) :
    MemOK Tryd.prog runLives.gl 35 [.agg [.rs ds.length 3 (dcC ds), .rs ts.length 1 (ts.map stA)], .func (.func 36) [] [.ptr 3 0, .ptr 2 0]] (chC ds ts 0 true) (.tuple []) (chC ds ts (cT ts 0).2 (cT ts 0).1) := by
  have hM := nodes_ck ts ds.length (dcC ds) hok hl
  have h := mem_frame (m := [1, 2, 3]) (n := 4) (Hc := chC ds ts 0 true) (cargs := [.agg [.rs ds.length 3 (dcC ds), .rs ts.length 1 (ts.map stA)], .func (.func 36) [] [.ptr 3 0, .ptr 2 0]]) hM ?_ ?_ rfl rfl rfl rfl rfl rfl
  · exact h
  · rfl
  · exact ⟨⟨rfl, rfl, rfl, rfl, BodyGe.pre (rest := []) rfl rfl⟩, ⟨rfl, rfl, rfl, rfl, BodyGe.pre (rest := []) rfl rfl⟩, ⟨rfl, rfl, rfl, rfl, BodyGe.cellsL ⟨Wk.func trivial ⟨Wk.ptr rfl rfl, trivial⟩, trivial⟩⟩, trivial⟩
theorem ck_says (ts : List (List St)) : (cT ts 0).1 = true ↔ ¬ (2000 < sizeTL ts ∨ 32 < deepTL ts) := by
  rw [(cT_cnt ts 0 (by decide)).1]; omega
theorem checkPX_ok (p : Pr) (hok : okP p) (hs : sizeTL p.threads ≤ 1000000) : ValOK Tryd.prog runLives.gl 9 [p.av] (.int .i64 (checkP p)) := by
  obtain ⟨⟨hd1, hd2⟩, ht1, ht2⟩ := hok
  obtain ⟨ds, ts⟩ := p
  have hsay := ck_says ts
  simp only [Pr.av, checkP] at *
  obtain ⟨O, hO, ⟨p1, -⟩, ⟨p2, p3, -⟩⟩ := famsM (P := Tryd.prog) (gl := runLives.gl) [{ I := Unit, f := 35, G := (fun _ => True), A := (fun _ => [.agg [.rs ds.length 3 (dcC ds), .rs ts.length 1 (ts.map stA)], .func (.func 36) [] [.ptr 3 0, .ptr 2 0]]), H := (fun _ => chC ds ts 0 true), R := (fun _ => .tuple []), O := (fun _ => chC ds ts (cT ts 0).2 (cT ts 0).1), body := (by kernel_rfl), inj := (fun _ _ _ _ _ _ => ⟨rfl, rfl⟩), ok := (fun _ _ => ck_call ds ts ht1 ht2) }]
    [{ I := List St, f := 38, G := (fun x => x ∈ ts), A := (fun x => [stA x, .int .i64 1, .func (.func 39) [] [], .func (.func 40) [] []]), R := (fun x => .bool (rightSL x)), body := (by kernel_rfl), inj := (fun i j _ _ h => by simp only [List.cons.injEq, and_true] at h; rw [stA_inj h]), ok := (fun x hx => ⟨rfl, stmts_r x 1 (okTL_get ht1 _ hx).1 (okTL_get ht1 _ hx).2 (by decide) (by have := sizeTL_mem _ _ hx; omega)⟩) },
     { I := List UInt8, f := 37, G := (fun s => s.length ≤ 9223372036854775807), A := (fun s => [.str s, .bool true]), R := (fun s => .bool (wordB s)), body := (by kernel_rfl), inj := (fun i j _ _ h => by simp only [List.cons.injEq, AV.str.injEq, and_true] at h; rw [h]), ok := (fun s hs => ⟨rfl, isWord_ok s hs true⟩) }] rfl
  have q1 : acall Tryd.prog O (chC ds ts 0 true) 35 [.agg [.rs ds.length 3 (dcC ds), .rs ts.length 1 (ts.map stA)], .func (.func 36) [] [.ptr 3 0, .ptr 2 0]] = some (.tuple [], chC ds ts (cT ts 0).2 (cT ts 0).1) := p1 () trivial
  have q2 : ∀ x ∈ ts, ∀ H, acall Tryd.prog O H 38 [stA x, .int .i64 1, .func (.func 39) [] [], .func (.func 40) [] []] = some (.bool (rightSL x), H) := p2
  have q3 : ∀ s, s.length ≤ 9223372036854775807 → ∀ H, acall Tryd.prog O H 37 [.str s, .bool true] = some (.bool (wordB s), H) := p3
  clear p1 p2 p3
  generalize (cT ts 0).2 = n at *
  generalize (cT ts 0).1 = b at *
  refine fn_valI (fun g => Nat.beq g 35 || (Nat.beq g 38 || Nat.beq g 37)) 1 follows noNum hO Tryd.func9 rfl ?_
  cases b with
  | false =>
    rw [if_pos (Classical.not_not.1 fun h => by have := hsay.2 h; cases this)]
    repeat' ((conv => whnf); first | (refine exI q1 ?_) | (first | (with_reducible refine condT ?_ ?_; (focus (assumption))) | (with_reducible refine condF ?_ ?_; (focus (assumption))) | (with_reducible refine condT ?_ ?_; (focus (decide))) | (with_reducible refine condF ?_ ?_; (focus (decide))) | (with_reducible refine condT ?_ ?_; (focus ((first | assumption | decide | (simp; done) | (simp; omega)); done))) | (with_reducible refine condF ?_ ?_; (focus ((first | assumption | decide | (simp; done) | (simp; omega)); done))) | with_reducible refine condB (fun h => ?_) (fun h => ?_) | with_reducible refine exI rfl ?_ | with_reducible refine eqR rfl ?_ | (with_reducible refine exW (wrapN1 ?_) ?_; (focus (omega))) | (with_reducible refine exW (wrapN ?_) ?_; (focus (omega))) | (with_reducible refine exW (wrapB ?_ ?_) ?_; (focus (omega)); (focus (omega))) | with_reducible refine exW rfl ?_ | (with_reducible refine ixJ _ rfl ?_ ?_; (focus ((first | decide | omega | (simp; done) | (simp; omega)); done))) | (with_reducible refine ixJ' _ rfl ?_ ?_; (focus ((first | decide | omega | (simp; done) | (simp; omega)); done))) | (refine ixJ (Int.toNat _) ?_ ?_ ?_; (focus ((first | rfl | decide | omega | (simp; done)); done)); (focus ((first | decide | omega | (simp; done) | (simp; omega)); done))) | (refine ixJ' (Int.toNat _) ?_ ?_ ?_; (focus ((first | rfl | decide | omega | (simp; done)); done)); (focus ((first | decide | omega | (simp; done) | (simp; omega)); done))) | with_reducible refine ixS _ rfl (by assumption) ?_ | (with_reducible refine shlI ?_ ?_; (focus (first | decide | omega))) | (refine exI (callZ rfl rfl (if_pos ?_)) ?_; (focus ((first | decide | omega | (simp; done) | (simp; omega)); done)))))
    all_goals (conv => whnf)
    all_goals rfl
  | true =>
    rw [if_neg (hsay.1 rfl)]
    repeat' ((conv => whnf); first | (refine exI q1 ?_) | (first | (with_reducible refine condT ?_ ?_; (focus (assumption))) | (with_reducible refine condF ?_ ?_; (focus (assumption))) | (with_reducible refine condT ?_ ?_; (focus (decide))) | (with_reducible refine condF ?_ ?_; (focus (decide))) | (with_reducible refine condT ?_ ?_; (focus ((first | assumption | decide | (simp; done) | (simp; omega)); done))) | (with_reducible refine condF ?_ ?_; (focus ((first | assumption | decide | (simp; done) | (simp; omega)); done))) | with_reducible refine condB (fun h => ?_) (fun h => ?_) | with_reducible refine exI rfl ?_ | with_reducible refine eqR rfl ?_ | (with_reducible refine exW (wrapN1 ?_) ?_; (focus (omega))) | (with_reducible refine exW (wrapN ?_) ?_; (focus (omega))) | (with_reducible refine exW (wrapB ?_ ?_) ?_; (focus (omega)); (focus (omega))) | with_reducible refine exW rfl ?_ | (with_reducible refine ixJ _ rfl ?_ ?_; (focus ((first | decide | omega | (simp; done) | (simp; omega)); done))) | (with_reducible refine ixJ' _ rfl ?_ ?_; (focus ((first | decide | omega | (simp; done) | (simp; omega)); done))) | (refine ixJ (Int.toNat _) ?_ ?_ ?_; (focus ((first | rfl | decide | omega | (simp; done)); done)); (focus ((first | decide | omega | (simp; done) | (simp; omega)); done))) | (refine ixJ' (Int.toNat _) ?_ ?_ ?_; (focus ((first | rfl | decide | omega | (simp; done)); done)); (focus ((first | decide | omega | (simp; done) | (simp; omega)); done))) | with_reducible refine ixS _ rfl (by assumption) ?_ | (with_reducible refine shlI ?_ ?_; (focus (first | decide | omega))) | (refine exI (callZ rfl rfl (if_pos ?_)) ?_; (focus ((first | decide | omega | (simp; done) | (simp; omega)); done)))))
    conv => whnf
    refine ⟨Nat, (fun i => i ≤ ds.length ∧ (ds.take i).all dcB = true), (fun i => [(1, .ptr 0 0), (16, .rs ds.length 3 (dcC ds)), (17, .int .i64 ds.length), (18, .int .i64 i)]), (fun _ => [⟨true, 0, 0, .cells [.rs ds.length 3 (dcC ds), .rs ts.length 1 (ts.map stA)] 25⟩]), (fun i => ds.length - i), ⟨0, ⟨Nat.zero_le _, rfl⟩, FgL.mk [0] rfl ?_ ⟨⟨rfl, rfl, rfl, rfl, BodyGe.pre (rest := []) rfl rfl⟩, trivial⟩ rfl⟩, ?_⟩
    · (repeat (first | exact trivial | (refine And.intro (Wk.int ?_) ?_; (focus (first | rfl | omega | (simp; done) | (simp; omega)))) | (refine And.intro (Wk.bool ?_) ?_; (focus (first | rfl | (simp; done)))) | refine And.intro (Wk.noref rfl) ?_ | refine And.intro (Wk.ptr rfl rfl) ?_ | (refine And.intro (Wk.slice rfl ?_ ?_ ?_ ?_ ?_) ?_; (focus (first | rfl | omega)); (focus (first | rfl | omega)); (focus (first | rfl | omega)); (focus (first | rfl | omega)); (focus rfl)) | refine And.intro Wk.nil ?_ | refine And.intro (Wk.func trivial ⟨Wk.ptr rfl rfl, trivial⟩) ?_ | refine And.intro (Wk.map rfl) ?_))
    rintro i ⟨hi, hall⟩
    dsimp only
    by_cases hlt : i < ds.length
    · have e1 : decide ((i : Int) < (ds.length : Int)) = true := by simpa using hlt
      have hat := all_take dcB ds i hlt
      rw [hall, Bool.true_and] at hat
      have hfalse : dcB ds[i] = false → ds.all dcB = false := all_get dcB hlt
      have hx3 := dc3 ds i hlt
      have qn := q3 ds[i].name (hd2 _ (get_mem hlt))
      generalize hd : ds[i] = d at *
      obtain ⟨nm, pl, vl⟩ := d
      simp only [dcB, Dc.cells] at hat hfalse hx3 qn
      generalize wordB nm = w at *
      by_cases hv : 0 ≤ vl
      · have e3 : decide (vl < 0) = false := by simpa using hv
        rw [show decide (0 ≤ vl) = true from by simpa using hv, Bool.and_true] at hat hfalse
        cases w with
        | true =>
          repeat' ((conv => whnf); first | (with_reducible refine exI (qn _) ?_) | (with_reducible refine ixJ i rfl ?_ ?_; (focus (omega))) | (refine exI hx3 ?_) | (first | (with_reducible refine condT ?_ ?_; (focus (assumption))) | (with_reducible refine condF ?_ ?_; (focus (assumption))) | (with_reducible refine condT ?_ ?_; (focus (decide))) | (with_reducible refine condF ?_ ?_; (focus (decide))) | (with_reducible refine condT ?_ ?_; (focus ((first | assumption | decide | (simp; done) | (simp; omega)); done))) | (with_reducible refine condF ?_ ?_; (focus ((first | assumption | decide | (simp; done) | (simp; omega)); done))) | with_reducible refine condB (fun h => ?_) (fun h => ?_) | with_reducible refine exI rfl ?_ | with_reducible refine eqR rfl ?_ | (with_reducible refine exW (wrapN1 ?_) ?_; (focus (omega))) | (with_reducible refine exW (wrapN ?_) ?_; (focus (omega))) | (with_reducible refine exW (wrapB ?_ ?_) ?_; (focus (omega)); (focus (omega))) | with_reducible refine exW rfl ?_ | (with_reducible refine ixJ _ rfl ?_ ?_; (focus ((first | decide | omega | (simp; done) | (simp; omega)); done))) | (with_reducible refine ixJ' _ rfl ?_ ?_; (focus ((first | decide | omega | (simp; done) | (simp; omega)); done))) | (refine ixJ (Int.toNat _) ?_ ?_ ?_; (focus ((first | rfl | decide | omega | (simp; done)); done)); (focus ((first | decide | omega | (simp; done) | (simp; omega)); done))) | (refine ixJ' (Int.toNat _) ?_ ?_ ?_; (focus ((first | rfl | decide | omega | (simp; done)); done)); (focus ((first | decide | omega | (simp; done) | (simp; omega)); done))) | with_reducible refine ixS _ rfl (by assumption) ?_ | (with_reducible refine shlI ?_ ?_; (focus (first | decide | omega))) | (refine exI (callZ rfl rfl (if_pos ?_)) ?_; (focus ((first | decide | omega | (simp; done) | (simp; omega)); done)))))
          conv => whnf
          refine ⟨i + 1, ⟨hlt, hat⟩, by show ds.length - (i + 1) < ds.length - i; omega, FgL.mk [0] rfl ?_ ⟨⟨rfl, rfl, rfl, rfl, BodyGe.pre (rest := []) rfl rfl⟩, trivial⟩ rfl⟩
          (repeat (first | exact trivial | (refine And.intro (Wk.int ?_) ?_; (focus (first | rfl | omega | (simp; done) | (simp; omega)))) | (refine And.intro (Wk.bool ?_) ?_; (focus (first | rfl | (simp; done)))) | refine And.intro (Wk.noref rfl) ?_ | refine And.intro (Wk.ptr rfl rfl) ?_ | (refine And.intro (Wk.slice rfl ?_ ?_ ?_ ?_ ?_) ?_; (focus (first | rfl | omega)); (focus (first | rfl | omega)); (focus (first | rfl | omega)); (focus (first | rfl | omega)); (focus rfl)) | refine And.intro Wk.nil ?_ | refine And.intro (Wk.func trivial ⟨Wk.ptr rfl rfl, trivial⟩) ?_ | refine And.intro (Wk.map rfl) ?_))
        | false =>
          rw [hfalse rfl]
          repeat' ((conv => whnf); first | (with_reducible refine exI (qn _) ?_) | (with_reducible refine ixJ i rfl ?_ ?_; (focus (omega))) | (refine exI hx3 ?_) | (first | (with_reducible refine condT ?_ ?_; (focus (assumption))) | (with_reducible refine condF ?_ ?_; (focus (assumption))) | (with_reducible refine condT ?_ ?_; (focus (decide))) | (with_reducible refine condF ?_ ?_; (focus (decide))) | (with_reducible refine condT ?_ ?_; (focus ((first | assumption | decide | (simp; done) | (simp; omega)); done))) | (with_reducible refine condF ?_ ?_; (focus ((first | assumption | decide | (simp; done) | (simp; omega)); done))) | with_reducible refine condB (fun h => ?_) (fun h => ?_) | with_reducible refine exI rfl ?_ | with_reducible refine eqR rfl ?_ | (with_reducible refine exW (wrapN1 ?_) ?_; (focus (omega))) | (with_reducible refine exW (wrapN ?_) ?_; (focus (omega))) | (with_reducible refine exW (wrapB ?_ ?_) ?_; (focus (omega)); (focus (omega))) | with_reducible refine exW rfl ?_ | (with_reducible refine ixJ _ rfl ?_ ?_; (focus ((first | decide | omega | (simp; done) | (simp; omega)); done))) | (with_reducible refine ixJ' _ rfl ?_ ?_; (focus ((first | decide | omega | (simp; done) | (simp; omega)); done))) | (refine ixJ (Int.toNat _) ?_ ?_ ?_; (focus ((first | rfl | decide | omega | (simp; done)); done)); (focus ((first | decide | omega | (simp; done) | (simp; omega)); done))) | (refine ixJ' (Int.toNat _) ?_ ?_ ?_; (focus ((first | rfl | decide | omega | (simp; done)); done)); (focus ((first | decide | omega | (simp; done) | (simp; omega)); done))) | with_reducible refine ixS _ rfl (by assumption) ?_ | (with_reducible refine shlI ?_ ?_; (focus (first | decide | omega))) | (refine exI (callZ rfl rfl (if_pos ?_)) ?_; (focus ((first | decide | omega | (simp; done) | (simp; omega)); done)))))
          all_goals rfl
      · have e3 : decide (vl < 0) = true := by simp only [decide_eq_true_eq]; omega
        rw [show decide (0 ≤ vl) = false from by simpa using hv, Bool.and_false] at hat hfalse
        rw [hfalse rfl]
        cases w
        all_goals (repeat' ((conv => whnf); first | (with_reducible refine exI (qn _) ?_) | (with_reducible refine ixJ i rfl ?_ ?_; (focus (omega))) | (refine exI hx3 ?_) | (first | (with_reducible refine condT ?_ ?_; (focus (assumption))) | (with_reducible refine condF ?_ ?_; (focus (assumption))) | (with_reducible refine condT ?_ ?_; (focus (decide))) | (with_reducible refine condF ?_ ?_; (focus (decide))) | (with_reducible refine condT ?_ ?_; (focus ((first | assumption | decide | (simp; done) | (simp; omega)); done))) | (with_reducible refine condF ?_ ?_; (focus ((first | assumption | decide | (simp; done) | (simp; omega)); done))) | with_reducible refine condB (fun h => ?_) (fun h => ?_) | with_reducible refine exI rfl ?_ | with_reducible refine eqR rfl ?_ | (with_reducible refine exW (wrapN1 ?_) ?_; (focus (omega))) | (with_reducible refine exW (wrapN ?_) ?_; (focus (omega))) | (with_reducible refine exW (wrapB ?_ ?_) ?_; (focus (omega)); (focus (omega))) | with_reducible refine exW rfl ?_ | (with_reducible refine ixJ _ rfl ?_ ?_; (focus ((first | decide | omega | (simp; done) | (simp; omega)); done))) | (with_reducible refine ixJ' _ rfl ?_ ?_; (focus ((first | decide | omega | (simp; done) | (simp; omega)); done))) | (refine ixJ (Int.toNat _) ?_ ?_ ?_; (focus ((first | rfl | decide | omega | (simp; done)); done)); (focus ((first | decide | omega | (simp; done) | (simp; omega)); done))) | (refine ixJ' (Int.toNat _) ?_ ?_ ?_; (focus ((first | rfl | decide | omega | (simp; done)); done)); (focus ((first | decide | omega | (simp; done) | (simp; omega)); done))) | with_reducible refine ixS _ rfl (by assumption) ?_ | (with_reducible refine shlI ?_ ?_; (focus (first | decide | omega))) | (refine exI (callZ rfl rfl (if_pos ?_)) ?_; (focus ((first | decide | omega | (simp; done) | (simp; omega)); done))))))
        all_goals rfl
    · have e1 : decide ((i : Int) < (ds.length : Int)) = false := by simpa using hlt
      have hi2 : i = ds.length := by have := hi; omega
      subst hi2
      rw [List.take_length] at hall
      rw [hall, Bool.true_and]
      repeat' ((conv => whnf); first | (with_reducible refine condT ?_ ?_; (focus (assumption))) | (with_reducible refine condF ?_ ?_; (focus (assumption))) | (with_reducible refine condT ?_ ?_; (focus (decide))) | (with_reducible refine condF ?_ ?_; (focus (decide))) | (with_reducible refine condT ?_ ?_; (focus ((first | assumption | decide | (simp; done) | (simp; omega)); done))) | (with_reducible refine condF ?_ ?_; (focus ((first | assumption | decide | (simp; done) | (simp; omega)); done))) | with_reducible refine condB (fun h => ?_) (fun h => ?_) | with_reducible refine exI rfl ?_ | with_reducible refine eqR rfl ?_ | (with_reducible refine exW (wrapN1 ?_) ?_; (focus (omega))) | (with_reducible refine exW (wrapN ?_) ?_; (focus (omega))) | (with_reducible refine exW (wrapB ?_ ?_) ?_; (focus (omega)); (focus (omega))) | with_reducible refine exW rfl ?_ | (with_reducible refine ixJ _ rfl ?_ ?_; (focus ((first | decide | omega | (simp; done) | (simp; omega)); done))) | (with_reducible refine ixJ' _ rfl ?_ ?_; (focus ((first | decide | omega | (simp; done) | (simp; omega)); done))) | (refine ixJ (Int.toNat _) ?_ ?_ ?_; (focus ((first | rfl | decide | omega | (simp; done)); done)); (focus ((first | decide | omega | (simp; done) | (simp; omega)); done))) | (refine ixJ' (Int.toNat _) ?_ ?_ ?_; (focus ((first | rfl | decide | omega | (simp; done)); done)); (focus ((first | decide | omega | (simp; done) | (simp; omega)); done))) | with_reducible refine ixS _ rfl (by assumption) ?_ | (with_reducible refine shlI ?_ ?_; (focus (first | decide | omega))) | (refine exI (callZ rfl rfl (if_pos ?_)) ?_; (focus ((first | decide | omega | (simp; done) | (simp; omega)); done))))
      conv => whnf
      refine ⟨Nat, (fun i => i ≤ ts.length ∧ rightTL (ts.take i) = true), (fun i => [(33, .rs ts.length 1 (ts.map stA)), (34, .int .i64 ts.length), (35, .int .i64 i)]), (fun _ => []), (fun i => ts.length - i), ⟨0, ⟨Nat.zero_le _, rfl⟩, FgL.mk0 rfl ?_⟩, ?_⟩
      · (repeat (first | exact trivial | (refine And.intro (Wk.int ?_) ?_; (focus (first | rfl | omega | (simp; done) | (simp; omega)))) | (refine And.intro (Wk.bool ?_) ?_; (focus (first | rfl | (simp; done)))) | refine And.intro (Wk.noref rfl) ?_ | refine And.intro (Wk.ptr rfl rfl) ?_ | (refine And.intro (Wk.slice rfl ?_ ?_ ?_ ?_ ?_) ?_; (focus (first | rfl | omega)); (focus (first | rfl | omega)); (focus (first | rfl | omega)); (focus (first | rfl | omega)); (focus rfl)) | refine And.intro Wk.nil ?_ | refine And.intro (Wk.func trivial ⟨Wk.ptr rfl rfl, trivial⟩) ?_ | refine And.intro (Wk.map rfl) ?_))
      rintro i ⟨hi, hrl⟩
      dsimp only
      by_cases hlt : i < ts.length
      · have e1 : decide ((i : Int) < (ts.length : Int)) = true := by simpa using hlt
        have hat := rightTL_take ts i hlt
        rw [hrl, Bool.true_and] at hat
        have hfalse : rightSL ts[i] = false → rightTL ts = false := rightTL_get hlt
        have hx := th1 ts i hlt
        have qr := q2 ts[i] (get_mem hlt)
        generalize ts[i] = l at *
        simp only [stA] at hx qr
        cases hr : rightSL l with
        | true =>
          rw [hr] at hat qr
          repeat' ((conv => whnf); first | (with_reducible refine exI (qr _) ?_) | (with_reducible refine ixJ i rfl ?_ ?_; (focus (omega))) | (refine exI hx ?_) | (refine exI (qr _) ?_) | (first | (with_reducible refine condT ?_ ?_; (focus (assumption))) | (with_reducible refine condF ?_ ?_; (focus (assumption))) | (with_reducible refine condT ?_ ?_; (focus (decide))) | (with_reducible refine condF ?_ ?_; (focus (decide))) | (with_reducible refine condT ?_ ?_; (focus ((first | assumption | decide | (simp; done) | (simp; omega)); done))) | (with_reducible refine condF ?_ ?_; (focus ((first | assumption | decide | (simp; done) | (simp; omega)); done))) | with_reducible refine condB (fun h => ?_) (fun h => ?_) | with_reducible refine exI rfl ?_ | with_reducible refine eqR rfl ?_ | (with_reducible refine exW (wrapN1 ?_) ?_; (focus (omega))) | (with_reducible refine exW (wrapN ?_) ?_; (focus (omega))) | (with_reducible refine exW (wrapB ?_ ?_) ?_; (focus (omega)); (focus (omega))) | with_reducible refine exW rfl ?_ | (with_reducible refine ixJ _ rfl ?_ ?_; (focus ((first | decide | omega | (simp; done) | (simp; omega)); done))) | (with_reducible refine ixJ' _ rfl ?_ ?_; (focus ((first | decide | omega | (simp; done) | (simp; omega)); done))) | (refine ixJ (Int.toNat _) ?_ ?_ ?_; (focus ((first | rfl | decide | omega | (simp; done)); done)); (focus ((first | decide | omega | (simp; done) | (simp; omega)); done))) | (refine ixJ' (Int.toNat _) ?_ ?_ ?_; (focus ((first | rfl | decide | omega | (simp; done)); done)); (focus ((first | decide | omega | (simp; done) | (simp; omega)); done))) | with_reducible refine ixS _ rfl (by assumption) ?_ | (with_reducible refine shlI ?_ ?_; (focus (first | decide | omega))) | (refine exI (callZ rfl rfl (if_pos ?_)) ?_; (focus ((first | decide | omega | (simp; done) | (simp; omega)); done)))))
          conv => whnf
          refine ⟨i + 1, ⟨hlt, hat⟩, by show ts.length - (i + 1) < ts.length - i; omega, FgL.mk0 rfl ?_⟩
          (repeat (first | exact trivial | (refine And.intro (Wk.int ?_) ?_; (focus (first | rfl | omega | (simp; done) | (simp; omega)))) | (refine And.intro (Wk.bool ?_) ?_; (focus (first | rfl | (simp; done)))) | refine And.intro (Wk.noref rfl) ?_ | refine And.intro (Wk.ptr rfl rfl) ?_ | (refine And.intro (Wk.slice rfl ?_ ?_ ?_ ?_ ?_) ?_; (focus (first | rfl | omega)); (focus (first | rfl | omega)); (focus (first | rfl | omega)); (focus (first | rfl | omega)); (focus rfl)) | refine And.intro Wk.nil ?_ | refine And.intro (Wk.func trivial ⟨Wk.ptr rfl rfl, trivial⟩) ?_ | refine And.intro (Wk.map rfl) ?_))
        | false =>
          rw [hr] at qr
          rw [hfalse hr]
          repeat' ((conv => whnf); first | (with_reducible refine exI (qr _) ?_) | (with_reducible refine ixJ i rfl ?_ ?_; (focus (omega))) | (refine exI hx ?_) | (refine exI (qr _) ?_) | (first | (with_reducible refine condT ?_ ?_; (focus (assumption))) | (with_reducible refine condF ?_ ?_; (focus (assumption))) | (with_reducible refine condT ?_ ?_; (focus (decide))) | (with_reducible refine condF ?_ ?_; (focus (decide))) | (with_reducible refine condT ?_ ?_; (focus ((first | assumption | decide | (simp; done) | (simp; omega)); done))) | (with_reducible refine condF ?_ ?_; (focus ((first | assumption | decide | (simp; done) | (simp; omega)); done))) | with_reducible refine condB (fun h => ?_) (fun h => ?_) | with_reducible refine exI rfl ?_ | with_reducible refine eqR rfl ?_ | (with_reducible refine exW (wrapN1 ?_) ?_; (focus (omega))) | (with_reducible refine exW (wrapN ?_) ?_; (focus (omega))) | (with_reducible refine exW (wrapB ?_ ?_) ?_; (focus (omega)); (focus (omega))) | with_reducible refine exW rfl ?_ | (with_reducible refine ixJ _ rfl ?_ ?_; (focus ((first | decide | omega | (simp; done) | (simp; omega)); done))) | (with_reducible refine ixJ' _ rfl ?_ ?_; (focus ((first | decide | omega | (simp; done) | (simp; omega)); done))) | (refine ixJ (Int.toNat _) ?_ ?_ ?_; (focus ((first | rfl | decide | omega | (simp; done)); done)); (focus ((first | decide | omega | (simp; done) | (simp; omega)); done))) | (refine ixJ' (Int.toNat _) ?_ ?_ ?_; (focus ((first | rfl | decide | omega | (simp; done)); done)); (focus ((first | decide | omega | (simp; done) | (simp; omega)); done))) | with_reducible refine ixS _ rfl (by assumption) ?_ | (with_reducible refine shlI ?_ ?_; (focus (first | decide | omega))) | (refine exI (callZ rfl rfl (if_pos ?_)) ?_; (focus ((first | decide | omega | (simp; done) | (simp; omega)); done)))))
          all_goals rfl
      · have e1 : decide ((i : Int) < (ts.length : Int)) = false := by simpa using hlt
        have hi2 : i = ts.length := by have := hi; omega
        subst hi2
        rw [List.take_length] at hrl
        rw [hrl]
        repeat' ((conv => whnf); first | (with_reducible refine condT ?_ ?_; (focus (assumption))) | (with_reducible refine condF ?_ ?_; (focus (assumption))) | (with_reducible refine condT ?_ ?_; (focus (decide))) | (with_reducible refine condF ?_ ?_; (focus (decide))) | (with_reducible refine condT ?_ ?_; (focus ((first | assumption | decide | (simp; done) | (simp; omega)); done))) | (with_reducible refine condF ?_ ?_; (focus ((first | assumption | decide | (simp; done) | (simp; omega)); done))) | with_reducible refine condB (fun h => ?_) (fun h => ?_) | with_reducible refine exI rfl ?_ | with_reducible refine eqR rfl ?_ | (with_reducible refine exW (wrapN1 ?_) ?_; (focus (omega))) | (with_reducible refine exW (wrapN ?_) ?_; (focus (omega))) | (with_reducible refine exW (wrapB ?_ ?_) ?_; (focus (omega)); (focus (omega))) | with_reducible refine exW rfl ?_ | (with_reducible refine ixJ _ rfl ?_ ?_; (focus ((first | decide | omega | (simp; done) | (simp; omega)); done))) | (with_reducible refine ixJ' _ rfl ?_ ?_; (focus ((first | decide | omega | (simp; done) | (simp; omega)); done))) | (refine ixJ (Int.toNat _) ?_ ?_ ?_; (focus ((first | rfl | decide | omega | (simp; done)); done)); (focus ((first | decide | omega | (simp; done) | (simp; omega)); done))) | (refine ixJ' (Int.toNat _) ?_ ?_ ?_; (focus ((first | rfl | decide | omega | (simp; done)); done)); (focus ((first | decide | omega | (simp; done) | (simp; omega)); done))) | with_reducible refine ixS _ rfl (by assumption) ?_ | (with_reducible refine shlI ?_ ?_; (focus (first | decide | omega))) | (refine exI (callZ rfl rfl (if_pos ?_)) ?_; (focus ((first | decide | omega | (simp; done) | (simp; omega)); done))))
        all_goals rfl
end Go.Proofs.YtajhailaofchlaaDoor.lex
end

/-
  Programs: are there few parts.
-/
section
set_option linter.unusedVariables false
set_option linter.unusedSimpArgs false
namespace Go.Proofs.YtajhailaofchlaaDoor.lex
open Go.Abs Go.RowKit
set_option maxRecDepth 100000
set_option maxHeartbeats 4000000
variable {gl : Glob}

/-- Go on only with what is not negative. -/
def ifp (l : Int) (f : Int → Int) : Int := if 0 ≤ l then f l else l
mutual
def heftS : St → Int → Int
  | .mk _ n lc _ x t e, l => ifp (ifp (heftL x (l - 1 - (n.length / 20 : Nat) - (lc.length / 20 : Nat))) (heftSL t)) (heftSL e)
def heftSL : List St → Int → Int
  | [], l => l
  | x :: k, l => if 0 ≤ l then heftSL k (heftS x l) else l
end
theorem heftS_eq : ∀ (x : St) (l : Int), heftS x l = ifp (ifp (heftL x.exprs (l - 1 - (x.name.length / 20 : Nat) - (x.loc.length / 20 : Nat))) (heftSL x.thn)) (heftSL x.els)
  | .mk _ _ _ _ _ _ _, l => by simp only [heftS, St.exprs, St.name, St.loc, St.thn, St.els]
mutual
theorem heftS_size : ∀ (x : St) (l : Int), 0 ≤ heftS x l → (sizeS x : Int) + heftS x l ≤ l
  | .mk _ n lc _ x t e, l, h => by
    simp only [heftS, sizeS, ifp] at *
    generalize hl1 : l - 1 - ((n.length / 20 : Nat) : Int) - ((lc.length / 20 : Nat) : Int) = l1 at *
    have hx := heftL_size x l1
    have ht := heftSL_size t (heftL x l1)
    by_cases h1 : 0 ≤ heftL x l1
    · simp only [if_pos h1] at *
      have he := heftSL_size e (heftSL t (heftL x l1))
      by_cases h2 : 0 ≤ heftSL t (heftL x l1)
      · simp only [if_pos h2] at *
        have := hx h1; have := ht h2; have := he h; omega
      · simp only [if_neg h2] at *; omega
    · simp only [if_neg h1] at *; omega
theorem heftSL_size : ∀ (k : List St) (l : Int), 0 ≤ heftSL k l → (sizeSL k : Int) + heftSL k l ≤ l
  | [], l, h => by simp only [heftSL, sizeSL] at *; omega
  | x :: k, l, h => by
    simp only [heftSL, sizeSL] at *
    split at h
    · rename_i hl
      rw [if_pos hl]
      have h1 := heftSL_size k _ h
      have h2 : 0 ≤ heftS x l := by omega
      have h3 := heftS_size x l h2
      omega
    · omega
end
theorem ifp_le {l : Int} {f : Int → Int} (h : ∀ m, f m ≤ m) : ifp l f ≤ l := by
  unfold ifp; split
  · exact h l
  · exact Int.le_refl _
mutual
theorem heftS_le : ∀ (x : St) (l : Int), heftS x l ≤ l
  | .mk _ n lc _ x t e, l => by
    simp only [heftS]
    have h1 := heftL_le x (l - 1 - ((n.length / 20 : Nat) : Int) - ((lc.length / 20 : Nat) : Int))
    have h2 := ifp_le (l := heftL x (l - 1 - ((n.length / 20 : Nat) : Int) - ((lc.length / 20 : Nat) : Int))) (heftSL_le t)
    have h3 := ifp_le (l := ifp (heftL x (l - 1 - ((n.length / 20 : Nat) : Int) - ((lc.length / 20 : Nat) : Int))) (heftSL t)) (heftSL_le e)
    omega
theorem heftSL_le : ∀ (k : List St) (l : Int), heftSL k l ≤ l
  | [], l => by simp only [heftSL]; omega
  | x :: k, l => by
    simp only [heftSL]
    split
    · have := heftSL_le k (heftS x l); have := heftS_le x l; omega
    · omega
end
theorem heftSL_at : ∀ (k : List St) (l : Int) (i : Nat) (h : i < k.length), heftSL (k.take (i + 1)) l = if 0 ≤ heftSL (k.take i) l then heftS k[i] (heftSL (k.take i) l) else heftSL (k.take i) l
  | e :: k, l, 0, h => by simp only [List.take_succ_cons, List.take_zero, heftSL, List.getElem_cons_zero]
  | e :: k, l, i + 1, h => by
    have ih := fun l => heftSL_at k l i (by simpa using h)
    simp only [List.take_succ_cons, heftSL, List.getElem_cons_succ] at ih ⊢
    split
    · exact ih _
    · rename_i h2; simp [h2]
theorem heftSL_stop : ∀ (k : List St) (l : Int) (i : Nat), heftSL (k.take i) l < 0 → heftSL k l = heftSL (k.take i) l
  | [], l, i, h => by simp [heftSL]
  | e :: k, l, 0, h => by
    simp only [List.take_zero, heftSL] at *
    rw [if_neg (by omega)]
  | e :: k, l, i + 1, h => by
    simp only [List.take_succ_cons, heftSL] at *
    split
    · rename_i hl
      rw [if_pos hl] at h
      exact heftSL_stop k _ i h
    · rfl
theorem cell_n (s : St) (rest : List AV) : tk 1 ((s.cells ++ rest).drop 1) = some [.str s.name] := by
  obtain ⟨k, n, l, o, x, t, e⟩ := s
  simp only [St.cells, St.name]; rfl
theorem cell_l (s : St) (rest : List AV) : tk 1 ((s.cells ++ rest).drop 2) = some [.str s.loc] := by
  obtain ⟨k, n, l, o, x, t, e⟩ := s
  simp only [St.cells, St.loc]; rfl
theorem hefts_ok : ∀ (n : Nat) (l : List St) (a : Int), sizeSL l ≤ n → okSL l → l.length ≤ 9223372036854775807 → 0 ≤ a → a ≤ 1048576 → ValOK Tryd.prog gl 44 [stA l, .int .i64 a] (.int .i64 (heftSL l a))
  | n, l, a, h, hok, hl, ha0, ha1 => by
    obtain ⟨O, hO, p1, p2, -⟩ := fams (P := Tryd.prog) (gl := gl) [{ I := List St × Int, f := 44, G := fun p => sizeSL p.1 < n ∧ okSL p.1 ∧ p.1.length ≤ 9223372036854775807 ∧ 0 ≤ p.2 ∧ p.2 ≤ 1048576, A := fun p => [stA p.1, .int .i64 p.2], R := fun p => .int .i64 (heftSL p.1 p.2), body := (by kernel_rfl), inj := (fun i j _ _ h => by simp only [List.cons.injEq, AV.int.injEq, and_true, true_and] at h; rw [stA_inj h.1, h.2]), ok := (fun p hp => ⟨rfl, match n, hp.1 with | n + 1, h => hefts_ok n p.1 p.2 (by omega) hp.2.1 hp.2.2.1 hp.2.2.2.1 hp.2.2.2.2⟩) },
      { I := Ex × Int, f := 45, G := fun p => okE p.1 ∧ 0 ≤ p.2 ∧ p.2 ≤ 1048576, A := fun p => [.agg p.1.cells, .int .i64 p.2], R := fun p => .int .i64 (heftE p.1 p.2), body := (by kernel_rfl), inj := (fun i j _ _ h => by simp only [List.cons.injEq, AV.agg.injEq, AV.int.injEq, and_true, true_and] at h; rw [cells_inj _ _ h.1, h.2]), ok := (fun p hp => ⟨by have := ex_refs p.1; simpa [refsL, refs] using this, heft_ok _ p.1 p.2 (Nat.le_refl _) hp.1 hp.2.1 hp.2.2⟩) }] rfl
    have q1 : ∀ x a, sizeSL x < n → okSL x → x.length ≤ 9223372036854775807 → 0 ≤ a → a ≤ 1048576 → ∀ H, acall Tryd.prog O H 44 [stA x, .int .i64 a] = some (.int .i64 (heftSL x a), H) := fun x a h1 h2 h3 h4 h5 => p1 (x, a) ⟨h1, h2, h3, h4, h5⟩
    have q2 : ∀ k a, okE k → 0 ≤ a → a ≤ 1048576 → ∀ H, acall Tryd.prog O H 45 [.agg k.cells, .int .i64 a] = some (.int .i64 (heftE k a), H) := fun k a h1 h2 h3 => p2 (k, a) ⟨h1, h2, h3⟩
    clear p1 p2
    simp only [stA] at q1 ⊢
    refine fn_val follows noNum hO Tryd.func44 rfl ?_
    repeat' ((conv => whnf); first | (with_reducible refine condT ?_ ?_; (focus (assumption))) | (with_reducible refine condF ?_ ?_; (focus (assumption))) | (with_reducible refine condT ?_ ?_; (focus (decide))) | (with_reducible refine condF ?_ ?_; (focus (decide))) | (with_reducible refine condT ?_ ?_; (focus ((first | assumption | decide | (simp; done) | (simp; omega)); done))) | (with_reducible refine condF ?_ ?_; (focus ((first | assumption | decide | (simp; done) | (simp; omega)); done))) | with_reducible refine condB (fun h => ?_) (fun h => ?_) | with_reducible refine exI rfl ?_ | with_reducible refine eqR rfl ?_ | (with_reducible refine exW (wrapN1 ?_) ?_; (focus (omega))) | (with_reducible refine exW (wrapN ?_) ?_; (focus (omega))) | (with_reducible refine exW (wrapB ?_ ?_) ?_; (focus (omega)); (focus (omega))) | with_reducible refine exW rfl ?_ | (with_reducible refine ixJ _ rfl ?_ ?_; (focus ((first | decide | omega | (simp; done) | (simp; omega)); done))) | (with_reducible refine ixJ' _ rfl ?_ ?_; (focus ((first | decide | omega | (simp; done) | (simp; omega)); done))) | (refine ixJ (Int.toNat _) ?_ ?_ ?_; (focus ((first | rfl | decide | omega | (simp; done)); done)); (focus ((first | decide | omega | (simp; done) | (simp; omega)); done))) | (refine ixJ' (Int.toNat _) ?_ ?_ ?_; (focus ((first | rfl | decide | omega | (simp; done)); done)); (focus ((first | decide | omega | (simp; done) | (simp; omega)); done))) | with_reducible refine ixS _ rfl (by assumption) ?_ | (with_reducible refine shlI ?_ ?_; (focus (first | decide | omega))) | (refine exI (callZ rfl rfl (if_pos ?_)) ?_; (focus ((first | decide | omega | (simp; done) | (simp; omega)); done))))
    conv => whnf
    refine ⟨Nat, (fun i => i ≤ l.length), (fun i => [(0, .rs l.length 7 (stC l)), (1, .int .i64 (heftSL (l.take i) a)), (5, .int .i64 i)]), (fun _ => []), (fun i => l.length - i), ⟨0, Nat.zero_le _, FgL.mk0 rfl ?_⟩, ?_⟩
    · simp only [List.take_zero, heftSL]; (repeat (first | exact trivial | (refine And.intro (Wk.int ?_) ?_; (focus (first | rfl | omega | (simp; done) | (simp; omega)))) | (refine And.intro (Wk.bool ?_) ?_; (focus (first | rfl | (simp; done)))) | refine And.intro (Wk.noref rfl) ?_ | refine And.intro (Wk.ptr rfl rfl) ?_ | (refine And.intro (Wk.slice rfl ?_ ?_ ?_ ?_ ?_) ?_; (focus (first | rfl | omega)); (focus (first | rfl | omega)); (focus (first | rfl | omega)); (focus (first | rfl | omega)); (focus rfl)) | refine And.intro Wk.nil ?_ | refine And.intro (Wk.func trivial ⟨Wk.ptr rfl rfl, trivial⟩) ?_ | refine And.intro (Wk.map rfl) ?_))
    intro i hi
    dsimp only
    have hle := heftSL_le (l.take i) a
    by_cases hlt : i < l.length
    · have e1 : decide ((i : Int) < (l.length : Int)) = true := by simpa using hlt
      by_cases hpos : 0 ≤ heftSL (l.take i) a
      · have e2 : decide (heftSL (l.take i) a ≥ 0) = true := by simpa using hpos
        have hs := heftSL_at l a i hlt
        rw [if_pos hpos, heftS_eq] at hs
        have hsz := sizeSL_mem _ _ (get_mem hlt)
        have hse := sizeS_eq l[i]
        have hx1 : tk 1 (((stC l).drop (i * 7)).drop 1) = some [.str l[i].name] := by rw [stC_at l i hlt]; exact cell_n _ _
        have hx2 : tk 1 (((stC l).drop (i * 7)).drop 2) = some [.str l[i].loc] := by rw [stC_at l i hlt]; exact cell_l _ _
        have hx4 : tk 1 (((stC l).drop (i * 7)).drop 4) = some [exA l[i].exprs] := by rw [stC_at l i hlt]; exact cell_x _ _
        have hx5 : tk 1 (((stC l).drop (i * 7)).drop 5) = some [stA l[i].thn] := by rw [stC_at l i hlt]; exact cell_t _ _
        have hx6 : tk 1 (((stC l).drop (i * 7)).drop 6) = some [stA l[i].els] := by rw [stC_at l i hlt]; exact cell_e _ _
        obtain ⟨k1, k2, k3, k4, k5, k6, k7, k8⟩ := okS_parts (okSL_get hok _ (get_mem hlt))
        have qt := fun a => q1 l[i].thn a (by omega) k7 k4
        have qe := fun a => q1 l[i].els a (by omega) k8 k5
        clear q1
        generalize (heftSL (l.take i) a) = b at *
        generalize l[i] = x at *
        obtain ⟨kind, name, loc, order, exprs, thn, els⟩ := x
        simp only [St.name, St.loc, St.exprs, St.thn, St.els, exA, stA] at *
        clear hsz hse
        have q20 : Int.tdiv (name.length : Int) 20 = ((name.length / 20 : Nat) : Int) := rfl
        have q21 : Int.tdiv (loc.length : Int) 20 = ((loc.length / 20 : Nat) : Int) := rfl
        have w1 : IntKind.i64.wrap (b - 1) = b - 1 := wrapB (by omega) (by omega)
        have w2 : IntKind.i64.wrap (Int.tdiv (name.length : Int) 20) = ((name.length / 20 : Nat) : Int) := by rw [q20]; exact wrapB (by omega) (by omega)
        have w2' : IntKind.i64.wrap (Int.tdiv (loc.length : Int) 20) = ((loc.length / 20 : Nat) : Int) := by rw [q21]; exact wrapB (by omega) (by omega)
        have w3 : IntKind.i64.wrap (b - 1 - ((name.length / 20 : Nat) : Int)) = b - 1 - ((name.length / 20 : Nat) : Int) := wrapB (by omega) (by omega)
        have w4 : IntKind.i64.wrap (b - 1 - ((name.length / 20 : Nat) : Int) - ((loc.length / 20 : Nat) : Int)) = b - 1 - ((name.length / 20 : Nat) : Int) - ((loc.length / 20 : Nat) : Int) := wrapB (by omega) (by omega)
        repeat' ((conv => whnf); first | (with_reducible refine exW w1 ?_) | (refine And.intro (show (20 : Int) ≠ 0 by decide) ?_) | (rw [w2]) | (rw [w2']) | (with_reducible refine exW w3 ?_) | (with_reducible refine exW w4 ?_) | (with_reducible refine ixJ i rfl ?_ ?_; (focus (omega))) | (refine exI hx1 ?_) | (refine exI hx2 ?_) | (first | (with_reducible refine condT ?_ ?_; (focus (assumption))) | (with_reducible refine condF ?_ ?_; (focus (assumption))) | (with_reducible refine condT ?_ ?_; (focus (decide))) | (with_reducible refine condF ?_ ?_; (focus (decide))) | (with_reducible refine condT ?_ ?_; (focus ((first | assumption | decide | (simp; done) | (simp; omega)); done))) | (with_reducible refine condF ?_ ?_; (focus ((first | assumption | decide | (simp; done) | (simp; omega)); done))) | with_reducible refine condB (fun h => ?_) (fun h => ?_) | with_reducible refine exI rfl ?_ | with_reducible refine eqR rfl ?_ | (with_reducible refine exW (wrapN1 ?_) ?_; (focus (omega))) | (with_reducible refine exW (wrapN ?_) ?_; (focus (omega))) | (with_reducible refine exW (wrapB ?_ ?_) ?_; (focus (omega)); (focus (omega))) | with_reducible refine exW rfl ?_ | (with_reducible refine ixJ _ rfl ?_ ?_; (focus ((first | decide | omega | (simp; done) | (simp; omega)); done))) | (with_reducible refine ixJ' _ rfl ?_ ?_; (focus ((first | decide | omega | (simp; done) | (simp; omega)); done))) | (refine ixJ (Int.toNat _) ?_ ?_ ?_; (focus ((first | rfl | decide | omega | (simp; done)); done)); (focus ((first | decide | omega | (simp; done) | (simp; omega)); done))) | (refine ixJ' (Int.toNat _) ?_ ?_ ?_; (focus ((first | rfl | decide | omega | (simp; done)); done)); (focus ((first | decide | omega | (simp; done) | (simp; omega)); done))) | with_reducible refine ixS _ rfl (by assumption) ?_ | (with_reducible refine shlI ?_ ?_; (focus (first | decide | omega))) | (refine exI (callZ rfl rfl (if_pos ?_)) ?_; (focus ((first | decide | omega | (simp; done) | (simp; omega)); done)))))
        conv => whnf
        have hb0 : b - 1 - ((name.length / 20 : Nat) : Int) - ((loc.length / 20 : Nat) : Int) ≤ 1048576 := by omega
        clear w1 w2 w2' w3 w4
        generalize hl0 : b - 1 - ((name.length / 20 : Nat) : Int) - ((loc.length / 20 : Nat) : Int) = l0 at *
        refine ⟨Nat, (fun k => k ≤ exprs.length), (fun k => [(0, .rs l.length 7 (stC l)), (1, .int .i64 (heftL (exprs.take k) l0)), (5, .int .i64 i), (6, .int .i64 k)]), (fun _ => []), (fun k => exprs.length - k), ⟨0, Nat.zero_le _, FgL.mk0 rfl ?_⟩, ?_⟩
        · simp only [List.take_zero, heftL]; (repeat (first | exact trivial | (refine And.intro (Wk.int ?_) ?_; (focus (first | rfl | omega | (simp; done) | (simp; omega)))) | (refine And.intro (Wk.bool ?_) ?_; (focus (first | rfl | (simp; done)))) | refine And.intro (Wk.noref rfl) ?_ | refine And.intro (Wk.ptr rfl rfl) ?_ | (refine And.intro (Wk.slice rfl ?_ ?_ ?_ ?_ ?_) ?_; (focus (first | rfl | omega)); (focus (first | rfl | omega)); (focus (first | rfl | omega)); (focus (first | rfl | omega)); (focus rfl)) | refine And.intro Wk.nil ?_ | refine And.intro (Wk.func trivial ⟨Wk.ptr rfl rfl, trivial⟩) ?_ | refine And.intro (Wk.map rfl) ?_))
        intro k hk
        dsimp only
        have hke := heftL_le (exprs.take k) l0
        have fin : ∀ v, heftL exprs l0 = v → ∃ w, True := fun _ _ => ⟨(), trivial⟩
        by_cases hkt : k < exprs.length
        · have e3 : decide ((k : Int) < (exprs.length : Int)) = true := by simpa using hkt
          by_cases hp2 : 0 ≤ heftL (exprs.take k) l0
          · have e4 : decide (heftL (exprs.take k) l0 ≥ 0) = true := by simpa using hp2
            have hy := ex4 exprs k hkt
            have hat := heftL_at exprs l0 k hkt
            rw [if_pos hp2] at hat
            have qk := q2 exprs[k] (heftL (exprs.take k) l0) (okL_get k6 _ (get_mem hkt)) hp2 (by omega)
            generalize exprs[k] = y at *
            repeat' ((conv => whnf); first | (with_reducible refine exI (qk _) ?_) | (with_reducible refine ixJ i rfl ?_ ?_; (focus (omega))) | (with_reducible refine ixJ k rfl ?_ ?_; (focus (omega))) | (refine exI hx4 ?_) | (refine exI hy ?_) | (refine exI (qk _) ?_) | (first | (with_reducible refine condT ?_ ?_; (focus (assumption))) | (with_reducible refine condF ?_ ?_; (focus (assumption))) | (with_reducible refine condT ?_ ?_; (focus (decide))) | (with_reducible refine condF ?_ ?_; (focus (decide))) | (with_reducible refine condT ?_ ?_; (focus ((first | assumption | decide | (simp; done) | (simp; omega)); done))) | (with_reducible refine condF ?_ ?_; (focus ((first | assumption | decide | (simp; done) | (simp; omega)); done))) | with_reducible refine condB (fun h => ?_) (fun h => ?_) | with_reducible refine exI rfl ?_ | with_reducible refine eqR rfl ?_ | (with_reducible refine exW (wrapN1 ?_) ?_; (focus (omega))) | (with_reducible refine exW (wrapN ?_) ?_; (focus (omega))) | (with_reducible refine exW (wrapB ?_ ?_) ?_; (focus (omega)); (focus (omega))) | with_reducible refine exW rfl ?_ | (with_reducible refine ixJ _ rfl ?_ ?_; (focus ((first | decide | omega | (simp; done) | (simp; omega)); done))) | (with_reducible refine ixJ' _ rfl ?_ ?_; (focus ((first | decide | omega | (simp; done) | (simp; omega)); done))) | (refine ixJ (Int.toNat _) ?_ ?_ ?_; (focus ((first | rfl | decide | omega | (simp; done)); done)); (focus ((first | decide | omega | (simp; done) | (simp; omega)); done))) | (refine ixJ' (Int.toNat _) ?_ ?_ ?_; (focus ((first | rfl | decide | omega | (simp; done)); done)); (focus ((first | decide | omega | (simp; done) | (simp; omega)); done))) | with_reducible refine ixS _ rfl (by assumption) ?_ | (with_reducible refine shlI ?_ ?_; (focus (first | decide | omega))) | (refine exI (callZ rfl rfl (if_pos ?_)) ?_; (focus ((first | decide | omega | (simp; done) | (simp; omega)); done)))))
            conv => whnf
            refine ⟨k + 1, hkt, by show exprs.length - (k + 1) < exprs.length - k; omega, FgL.mk0 rfl ?_⟩
            rw [hat]; (repeat (first | exact trivial | (refine And.intro (Wk.int ?_) ?_; (focus (first | rfl | omega | (simp; done) | (simp; omega)))) | (refine And.intro (Wk.bool ?_) ?_; (focus (first | rfl | (simp; done)))) | refine And.intro (Wk.noref rfl) ?_ | refine And.intro (Wk.ptr rfl rfl) ?_ | (refine And.intro (Wk.slice rfl ?_ ?_ ?_ ?_ ?_) ?_; (focus (first | rfl | omega)); (focus (first | rfl | omega)); (focus (first | rfl | omega)); (focus (first | rfl | omega)); (focus rfl)) | refine And.intro Wk.nil ?_ | refine And.intro (Wk.func trivial ⟨Wk.ptr rfl rfl, trivial⟩) ?_ | refine And.intro (Wk.map rfl) ?_))
          · have e4 : decide (heftL (exprs.take k) l0 ≥ 0) = false := by simpa using hp2
            have hst := heftL_stop exprs l0 k (by omega)
            rw [hst] at hs
            simp only [ifp, if_neg hp2] at hs
            repeat' ((conv => whnf); first | (with_reducible refine ixJ i rfl ?_ ?_; (focus (omega))) | (refine exI hx4 ?_) | (first | (with_reducible refine condT ?_ ?_; (focus (assumption))) | (with_reducible refine condF ?_ ?_; (focus (assumption))) | (with_reducible refine condT ?_ ?_; (focus (decide))) | (with_reducible refine condF ?_ ?_; (focus (decide))) | (with_reducible refine condT ?_ ?_; (focus ((first | assumption | decide | (simp; done) | (simp; omega)); done))) | (with_reducible refine condF ?_ ?_; (focus ((first | assumption | decide | (simp; done) | (simp; omega)); done))) | with_reducible refine condB (fun h => ?_) (fun h => ?_) | with_reducible refine exI rfl ?_ | with_reducible refine eqR rfl ?_ | (with_reducible refine exW (wrapN1 ?_) ?_; (focus (omega))) | (with_reducible refine exW (wrapN ?_) ?_; (focus (omega))) | (with_reducible refine exW (wrapB ?_ ?_) ?_; (focus (omega)); (focus (omega))) | with_reducible refine exW rfl ?_ | (with_reducible refine ixJ _ rfl ?_ ?_; (focus ((first | decide | omega | (simp; done) | (simp; omega)); done))) | (with_reducible refine ixJ' _ rfl ?_ ?_; (focus ((first | decide | omega | (simp; done) | (simp; omega)); done))) | (refine ixJ (Int.toNat _) ?_ ?_ ?_; (focus ((first | rfl | decide | omega | (simp; done)); done)); (focus ((first | decide | omega | (simp; done) | (simp; omega)); done))) | (refine ixJ' (Int.toNat _) ?_ ?_ ?_; (focus ((first | rfl | decide | omega | (simp; done)); done)); (focus ((first | decide | omega | (simp; done) | (simp; omega)); done))) | with_reducible refine ixS _ rfl (by assumption) ?_ | (with_reducible refine shlI ?_ ?_; (focus (first | decide | omega))) | (refine exI (callZ rfl rfl (if_pos ?_)) ?_; (focus ((first | decide | omega | (simp; done) | (simp; omega)); done)))))
            conv => whnf
            refine ⟨i + 1, hlt, by show l.length - (i + 1) < l.length - i; omega, FgL.mk0 rfl ?_⟩
            rw [hs]; (repeat (first | exact trivial | (refine And.intro (Wk.int ?_) ?_; (focus (first | rfl | omega | (simp; done) | (simp; omega)))) | (refine And.intro (Wk.bool ?_) ?_; (focus (first | rfl | (simp; done)))) | refine And.intro (Wk.noref rfl) ?_ | refine And.intro (Wk.ptr rfl rfl) ?_ | (refine And.intro (Wk.slice rfl ?_ ?_ ?_ ?_ ?_) ?_; (focus (first | rfl | omega)); (focus (first | rfl | omega)); (focus (first | rfl | omega)); (focus (first | rfl | omega)); (focus rfl)) | refine And.intro Wk.nil ?_ | refine And.intro (Wk.func trivial ⟨Wk.ptr rfl rfl, trivial⟩) ?_ | refine And.intro (Wk.map rfl) ?_))
        · have e3 : decide ((k : Int) < (exprs.length : Int)) = false := by simpa using hkt
          have hk2 : k = exprs.length := by have := hk; omega
          subst hk2
          rw [List.take_length] at hke ⊢
          generalize heftL exprs l0 = l1 at *
          by_cases hp2 : 0 ≤ l1
          · have e4 : decide (l1 ≥ 0) = true := by simpa using hp2
            simp only [ifp, if_pos hp2] at hs
            have qt1 := qt l1 hp2 (by omega)
            have ht1 := heftSL_le thn l1
            generalize heftSL thn l1 = l2 at *
            by_cases hp3 : 0 ≤ l2
            · have e5 : decide (l2 ≥ 0) = true := by simpa using hp3
              simp only [if_pos hp3] at hs
              have qe1 := qe l2 hp3 (by omega)
              generalize heftSL els l2 = l3 at *
              repeat' ((conv => whnf); first | (with_reducible refine ixJ i rfl ?_ ?_; (focus (omega))) | (refine exI hx4 ?_) | (refine exI hx5 ?_) | (refine exI hx6 ?_) | (refine exI (qt1 _) ?_) | (refine exI (qe1 _) ?_) | (first | (with_reducible refine condT ?_ ?_; (focus (assumption))) | (with_reducible refine condF ?_ ?_; (focus (assumption))) | (with_reducible refine condT ?_ ?_; (focus (decide))) | (with_reducible refine condF ?_ ?_; (focus (decide))) | (with_reducible refine condT ?_ ?_; (focus ((first | assumption | decide | (simp; done) | (simp; omega)); done))) | (with_reducible refine condF ?_ ?_; (focus ((first | assumption | decide | (simp; done) | (simp; omega)); done))) | with_reducible refine condB (fun h => ?_) (fun h => ?_) | with_reducible refine exI rfl ?_ | with_reducible refine eqR rfl ?_ | (with_reducible refine exW (wrapN1 ?_) ?_; (focus (omega))) | (with_reducible refine exW (wrapN ?_) ?_; (focus (omega))) | (with_reducible refine exW (wrapB ?_ ?_) ?_; (focus (omega)); (focus (omega))) | with_reducible refine exW rfl ?_ | (with_reducible refine ixJ _ rfl ?_ ?_; (focus ((first | decide | omega | (simp; done) | (simp; omega)); done))) | (with_reducible refine ixJ' _ rfl ?_ ?_; (focus ((first | decide | omega | (simp; done) | (simp; omega)); done))) | (refine ixJ (Int.toNat _) ?_ ?_ ?_; (focus ((first | rfl | decide | omega | (simp; done)); done)); (focus ((first | decide | omega | (simp; done) | (simp; omega)); done))) | (refine ixJ' (Int.toNat _) ?_ ?_ ?_; (focus ((first | rfl | decide | omega | (simp; done)); done)); (focus ((first | decide | omega | (simp; done) | (simp; omega)); done))) | with_reducible refine ixS _ rfl (by assumption) ?_ | (with_reducible refine shlI ?_ ?_; (focus (first | decide | omega))) | (refine exI (callZ rfl rfl (if_pos ?_)) ?_; (focus ((first | decide | omega | (simp; done) | (simp; omega)); done)))))
              conv => whnf
              refine ⟨i + 1, hlt, by show l.length - (i + 1) < l.length - i; omega, FgL.mk0 rfl ?_⟩
              rw [hs]; (repeat (first | exact trivial | (refine And.intro (Wk.int ?_) ?_; (focus (first | rfl | omega | (simp; done) | (simp; omega)))) | (refine And.intro (Wk.bool ?_) ?_; (focus (first | rfl | (simp; done)))) | refine And.intro (Wk.noref rfl) ?_ | refine And.intro (Wk.ptr rfl rfl) ?_ | (refine And.intro (Wk.slice rfl ?_ ?_ ?_ ?_ ?_) ?_; (focus (first | rfl | omega)); (focus (first | rfl | omega)); (focus (first | rfl | omega)); (focus (first | rfl | omega)); (focus rfl)) | refine And.intro Wk.nil ?_ | refine And.intro (Wk.func trivial ⟨Wk.ptr rfl rfl, trivial⟩) ?_ | refine And.intro (Wk.map rfl) ?_))
            · have e5 : decide (l2 ≥ 0) = false := by simpa using hp3
              simp only [if_neg hp3] at hs
              repeat' ((conv => whnf); first | (with_reducible refine ixJ i rfl ?_ ?_; (focus (omega))) | (refine exI hx4 ?_) | (refine exI hx5 ?_) | (refine exI hx6 ?_) | (refine exI (qt1 _) ?_) | (first | (with_reducible refine condT ?_ ?_; (focus (assumption))) | (with_reducible refine condF ?_ ?_; (focus (assumption))) | (with_reducible refine condT ?_ ?_; (focus (decide))) | (with_reducible refine condF ?_ ?_; (focus (decide))) | (with_reducible refine condT ?_ ?_; (focus ((first | assumption | decide | (simp; done) | (simp; omega)); done))) | (with_reducible refine condF ?_ ?_; (focus ((first | assumption | decide | (simp; done) | (simp; omega)); done))) | with_reducible refine condB (fun h => ?_) (fun h => ?_) | with_reducible refine exI rfl ?_ | with_reducible refine eqR rfl ?_ | (with_reducible refine exW (wrapN1 ?_) ?_; (focus (omega))) | (with_reducible refine exW (wrapN ?_) ?_; (focus (omega))) | (with_reducible refine exW (wrapB ?_ ?_) ?_; (focus (omega)); (focus (omega))) | with_reducible refine exW rfl ?_ | (with_reducible refine ixJ _ rfl ?_ ?_; (focus ((first | decide | omega | (simp; done) | (simp; omega)); done))) | (with_reducible refine ixJ' _ rfl ?_ ?_; (focus ((first | decide | omega | (simp; done) | (simp; omega)); done))) | (refine ixJ (Int.toNat _) ?_ ?_ ?_; (focus ((first | rfl | decide | omega | (simp; done)); done)); (focus ((first | decide | omega | (simp; done) | (simp; omega)); done))) | (refine ixJ' (Int.toNat _) ?_ ?_ ?_; (focus ((first | rfl | decide | omega | (simp; done)); done)); (focus ((first | decide | omega | (simp; done) | (simp; omega)); done))) | with_reducible refine ixS _ rfl (by assumption) ?_ | (with_reducible refine shlI ?_ ?_; (focus (first | decide | omega))) | (refine exI (callZ rfl rfl (if_pos ?_)) ?_; (focus ((first | decide | omega | (simp; done) | (simp; omega)); done)))))
              conv => whnf
              refine ⟨i + 1, hlt, by show l.length - (i + 1) < l.length - i; omega, FgL.mk0 rfl ?_⟩
              rw [hs]; (repeat (first | exact trivial | (refine And.intro (Wk.int ?_) ?_; (focus (first | rfl | omega | (simp; done) | (simp; omega)))) | (refine And.intro (Wk.bool ?_) ?_; (focus (first | rfl | (simp; done)))) | refine And.intro (Wk.noref rfl) ?_ | refine And.intro (Wk.ptr rfl rfl) ?_ | (refine And.intro (Wk.slice rfl ?_ ?_ ?_ ?_ ?_) ?_; (focus (first | rfl | omega)); (focus (first | rfl | omega)); (focus (first | rfl | omega)); (focus (first | rfl | omega)); (focus rfl)) | refine And.intro Wk.nil ?_ | refine And.intro (Wk.func trivial ⟨Wk.ptr rfl rfl, trivial⟩) ?_ | refine And.intro (Wk.map rfl) ?_))
          · have e4 : decide (l1 ≥ 0) = false := by simpa using hp2
            simp only [ifp, if_neg hp2] at hs
            repeat' ((conv => whnf); first | (with_reducible refine ixJ i rfl ?_ ?_; (focus (omega))) | (refine exI hx4 ?_) | (first | (with_reducible refine condT ?_ ?_; (focus (assumption))) | (with_reducible refine condF ?_ ?_; (focus (assumption))) | (with_reducible refine condT ?_ ?_; (focus (decide))) | (with_reducible refine condF ?_ ?_; (focus (decide))) | (with_reducible refine condT ?_ ?_; (focus ((first | assumption | decide | (simp; done) | (simp; omega)); done))) | (with_reducible refine condF ?_ ?_; (focus ((first | assumption | decide | (simp; done) | (simp; omega)); done))) | with_reducible refine condB (fun h => ?_) (fun h => ?_) | with_reducible refine exI rfl ?_ | with_reducible refine eqR rfl ?_ | (with_reducible refine exW (wrapN1 ?_) ?_; (focus (omega))) | (with_reducible refine exW (wrapN ?_) ?_; (focus (omega))) | (with_reducible refine exW (wrapB ?_ ?_) ?_; (focus (omega)); (focus (omega))) | with_reducible refine exW rfl ?_ | (with_reducible refine ixJ _ rfl ?_ ?_; (focus ((first | decide | omega | (simp; done) | (simp; omega)); done))) | (with_reducible refine ixJ' _ rfl ?_ ?_; (focus ((first | decide | omega | (simp; done) | (simp; omega)); done))) | (refine ixJ (Int.toNat _) ?_ ?_ ?_; (focus ((first | rfl | decide | omega | (simp; done)); done)); (focus ((first | decide | omega | (simp; done) | (simp; omega)); done))) | (refine ixJ' (Int.toNat _) ?_ ?_ ?_; (focus ((first | rfl | decide | omega | (simp; done)); done)); (focus ((first | decide | omega | (simp; done) | (simp; omega)); done))) | with_reducible refine ixS _ rfl (by assumption) ?_ | (with_reducible refine shlI ?_ ?_; (focus (first | decide | omega))) | (refine exI (callZ rfl rfl (if_pos ?_)) ?_; (focus ((first | decide | omega | (simp; done) | (simp; omega)); done)))))
            conv => whnf
            refine ⟨i + 1, hlt, by show l.length - (i + 1) < l.length - i; omega, FgL.mk0 rfl ?_⟩
            rw [hs]; (repeat (first | exact trivial | (refine And.intro (Wk.int ?_) ?_; (focus (first | rfl | omega | (simp; done) | (simp; omega)))) | (refine And.intro (Wk.bool ?_) ?_; (focus (first | rfl | (simp; done)))) | refine And.intro (Wk.noref rfl) ?_ | refine And.intro (Wk.ptr rfl rfl) ?_ | (refine And.intro (Wk.slice rfl ?_ ?_ ?_ ?_ ?_) ?_; (focus (first | rfl | omega)); (focus (first | rfl | omega)); (focus (first | rfl | omega)); (focus (first | rfl | omega)); (focus rfl)) | refine And.intro Wk.nil ?_ | refine And.intro (Wk.func trivial ⟨Wk.ptr rfl rfl, trivial⟩) ?_ | refine And.intro (Wk.map rfl) ?_))
      · have e2 : decide (heftSL (l.take i) a ≥ 0) = false := by simpa using hpos
        have hst := heftSL_stop l a i (by omega)
        rw [hst]
        repeat' ((conv => whnf); first | (with_reducible refine condT ?_ ?_; (focus (assumption))) | (with_reducible refine condF ?_ ?_; (focus (assumption))) | (with_reducible refine condT ?_ ?_; (focus (decide))) | (with_reducible refine condF ?_ ?_; (focus (decide))) | (with_reducible refine condT ?_ ?_; (focus ((first | assumption | decide | (simp; done) | (simp; omega)); done))) | (with_reducible refine condF ?_ ?_; (focus ((first | assumption | decide | (simp; done) | (simp; omega)); done))) | with_reducible refine condB (fun h => ?_) (fun h => ?_) | with_reducible refine exI rfl ?_ | with_reducible refine eqR rfl ?_ | (with_reducible refine exW (wrapN1 ?_) ?_; (focus (omega))) | (with_reducible refine exW (wrapN ?_) ?_; (focus (omega))) | (with_reducible refine exW (wrapB ?_ ?_) ?_; (focus (omega)); (focus (omega))) | with_reducible refine exW rfl ?_ | (with_reducible refine ixJ _ rfl ?_ ?_; (focus ((first | decide | omega | (simp; done) | (simp; omega)); done))) | (with_reducible refine ixJ' _ rfl ?_ ?_; (focus ((first | decide | omega | (simp; done) | (simp; omega)); done))) | (refine ixJ (Int.toNat _) ?_ ?_ ?_; (focus ((first | rfl | decide | omega | (simp; done)); done)); (focus ((first | decide | omega | (simp; done) | (simp; omega)); done))) | (refine ixJ' (Int.toNat _) ?_ ?_ ?_; (focus ((first | rfl | decide | omega | (simp; done)); done)); (focus ((first | decide | omega | (simp; done) | (simp; omega)); done))) | with_reducible refine ixS _ rfl (by assumption) ?_ | (with_reducible refine shlI ?_ ?_; (focus (first | decide | omega))) | (refine exI (callZ rfl rfl (if_pos ?_)) ?_; (focus ((first | decide | omega | (simp; done) | (simp; omega)); done))))
        all_goals rfl
    · have e1 : decide ((i : Int) < (l.length : Int)) = false := by simpa using hlt
      have hi2 : i = l.length := by have := hi; omega
      subst hi2
      rw [List.take_length]
      repeat' ((conv => whnf); first | (with_reducible refine condT ?_ ?_; (focus (assumption))) | (with_reducible refine condF ?_ ?_; (focus (assumption))) | (with_reducible refine condT ?_ ?_; (focus (decide))) | (with_reducible refine condF ?_ ?_; (focus (decide))) | (with_reducible refine condT ?_ ?_; (focus ((first | assumption | decide | (simp; done) | (simp; omega)); done))) | (with_reducible refine condF ?_ ?_; (focus ((first | assumption | decide | (simp; done) | (simp; omega)); done))) | with_reducible refine condB (fun h => ?_) (fun h => ?_) | with_reducible refine exI rfl ?_ | with_reducible refine eqR rfl ?_ | (with_reducible refine exW (wrapN1 ?_) ?_; (focus (omega))) | (with_reducible refine exW (wrapN ?_) ?_; (focus (omega))) | (with_reducible refine exW (wrapB ?_ ?_) ?_; (focus (omega)); (focus (omega))) | with_reducible refine exW rfl ?_ | (with_reducible refine ixJ _ rfl ?_ ?_; (focus ((first | decide | omega | (simp; done) | (simp; omega)); done))) | (with_reducible refine ixJ' _ rfl ?_ ?_; (focus ((first | decide | omega | (simp; done) | (simp; omega)); done))) | (refine ixJ (Int.toNat _) ?_ ?_ ?_; (focus ((first | rfl | decide | omega | (simp; done)); done)); (focus ((first | decide | omega | (simp; done) | (simp; omega)); done))) | (refine ixJ' (Int.toNat _) ?_ ?_ ?_; (focus ((first | rfl | decide | omega | (simp; done)); done)); (focus ((first | decide | omega | (simp; done) | (simp; omega)); done))) | with_reducible refine ixS _ rfl (by assumption) ?_ | (with_reducible refine shlI ?_ ?_; (focus (first | decide | omega))) | (refine exI (callZ rfl rfl (if_pos ?_)) ?_; (focus ((first | decide | omega | (simp; done) | (simp; omega)); done))))
      all_goals rfl
end Go.Proofs.YtajhailaofchlaaDoor.lex
end

/-
  Programs: LightProgram.
-/
section
set_option linter.unusedVariables false
set_option linter.unusedSimpArgs false
namespace Go.Proofs.YtajhailaofchlaaDoor.lex
open Go.Abs Go.RowKit
set_option maxRecDepth 100000
set_option maxHeartbeats 4000000
variable {gl : Glob}
def heftD : List Dc → Int → Int
  | [], l => l
  | x :: k, l => if 0 ≤ l then heftD k (l - (x.name.length / 20 : Nat)) else l
def heftTL : List (List St) → Int → Int
  | [], l => l
  | x :: k, l => if 0 ≤ l then heftTL k (heftSL x l) else l
def lightP (p : Pr) (m : Int) : Bool := decide (0 ≤ heftTL p.threads (heftD p.decls (m - min (m + 1) (p.decls.length : Int) - min (m + 1) (p.threads.length : Int))))
theorem heftD_le : ∀ (k : List Dc) (l : Int), heftD k l ≤ l
  | [], l => by simp only [heftD]; omega
  | x :: k, l => by
    simp only [heftD]
    split
    · have := heftD_le k (l - (x.name.length / 20 : Nat)); omega
    · omega
theorem heftTL_le : ∀ (k : List (List St)) (l : Int), heftTL k l ≤ l
  | [], l => by simp only [heftTL]; omega
  | x :: k, l => by
    simp only [heftTL]
    split
    · have := heftTL_le k (heftSL x l); have := heftSL_le x l; omega
    · omega
theorem heftTL_size : ∀ (k : List (List St)) (l : Int), 0 ≤ heftTL k l → (sizeTL k : Int) + heftTL k l ≤ l
  | [], l, h => by simp only [heftTL, sizeTL] at *; omega
  | x :: k, l, h => by
    simp only [heftTL, sizeTL] at *
    split at h
    · rename_i hl
      rw [if_pos hl]
      have h1 := heftTL_size k _ h
      have h2 : 0 ≤ heftSL x l := by omega
      have h3 := heftSL_size x l h2
      omega
    · omega
theorem lightP_size (p : Pr) (m : Nat) (h : lightP p m = true) : sizeTL p.threads ≤ m := by
  simp only [lightP, decide_eq_true_eq] at h
  have h1 := heftTL_size _ _ h
  have h2 := heftD_le p.decls ((m : Int) - min ((m : Int) + 1) (p.decls.length : Int) - min ((m : Int) + 1) (p.threads.length : Int))
  omega
theorem heftD_at : ∀ (k : List Dc) (l : Int) (i : Nat) (h : i < k.length), heftD (k.take (i + 1)) l = if 0 ≤ heftD (k.take i) l then heftD (k.take i) l - (k[i].name.length / 20 : Nat) else heftD (k.take i) l
  | e :: k, l, 0, h => by simp only [List.take_succ_cons, List.take_zero, heftD, List.getElem_cons_zero]
  | e :: k, l, i + 1, h => by
    have ih := fun l => heftD_at k l i (by simpa using h)
    simp only [List.take_succ_cons, heftD, List.getElem_cons_succ] at ih ⊢
    split
    · exact ih _
    · rename_i h2; simp [h2]
theorem heftD_stop : ∀ (k : List Dc) (l : Int) (i : Nat), heftD (k.take i) l < 0 → heftD k l = heftD (k.take i) l
  | [], l, i, h => by simp [heftD]
  | e :: k, l, 0, h => by
    simp only [List.take_zero, heftD] at *
    rw [if_neg (by omega)]
  | e :: k, l, i + 1, h => by
    simp only [List.take_succ_cons, heftD] at *
    split
    · rename_i hl
      rw [if_pos hl] at h
      exact heftD_stop k _ i h
    · rfl
theorem heftTL_at : ∀ (k : List (List St)) (l : Int) (i : Nat) (h : i < k.length), heftTL (k.take (i + 1)) l = if 0 ≤ heftTL (k.take i) l then heftSL k[i] (heftTL (k.take i) l) else heftTL (k.take i) l
  | e :: k, l, 0, h => by simp only [List.take_succ_cons, List.take_zero, heftTL, List.getElem_cons_zero]
  | e :: k, l, i + 1, h => by
    have ih := fun l => heftTL_at k l i (by simpa using h)
    simp only [List.take_succ_cons, heftTL, List.getElem_cons_succ] at ih ⊢
    split
    · exact ih _
    · rename_i h2; simp [h2]
theorem heftTL_stop : ∀ (k : List (List St)) (l : Int) (i : Nat), heftTL (k.take i) l < 0 → heftTL k l = heftTL (k.take i) l
  | [], l, i, h => by simp [heftTL]
  | e :: k, l, 0, h => by
    simp only [List.take_zero, heftTL] at *
    rw [if_neg (by omega)]
  | e :: k, l, i + 1, h => by
    simp only [List.take_succ_cons, heftTL] at *
    split
    · rename_i hl
      rw [if_pos hl] at h
      exact heftTL_stop k _ i h
    · rfl
theorem lightP_ok (p : Pr) (m : Int) (hok : okP p) (hm0 : 0 ≤ m) (hm1 : m ≤ 1048576) : ValOK Tryd.prog gl 13 [p.av, .int .i64 m] (.bool (lightP p m)) := by
  obtain ⟨⟨hd1, hd2⟩, ht1, ht2⟩ := hok
  obtain ⟨O, hO, p1, -⟩ := fams (P := Tryd.prog) (gl := gl) [{ I := List St × Int, f := 44, G := fun q => okSL q.1 ∧ q.1.length ≤ 9223372036854775807 ∧ 0 ≤ q.2 ∧ q.2 ≤ 1048576, A := fun q => [stA q.1, .int .i64 q.2], R := fun q => .int .i64 (heftSL q.1 q.2), body := (by kernel_rfl), inj := (fun i j _ _ h => by simp only [List.cons.injEq, AV.int.injEq, and_true, true_and] at h; rw [stA_inj h.1, h.2]), ok := (fun q hq => ⟨rfl, hefts_ok _ q.1 q.2 (Nat.le_refl _) hq.1 hq.2.1 hq.2.2.1 hq.2.2.2⟩) }] rfl
  have q1 : ∀ x a, okSL x → x.length ≤ 9223372036854775807 → 0 ≤ a → a ≤ 1048576 → ∀ H, acall Tryd.prog O H 44 [stA x, .int .i64 a] = some (.int .i64 (heftSL x a), H) := fun x a h1 h2 h3 h4 => p1 (x, a) ⟨h1, h2, h3, h4⟩
  clear p1
  obtain ⟨ds, ts⟩ := p
  simp only [Pr.av, lightP] at *
  have w1 : IntKind.i64.wrap (m + 1) = m + 1 := wrapB (by omega) (by omega)
  have hl0 : m - (if (ds.length : Int) < m + 1 then (ds.length : Int) else m + 1) - (if (ts.length : Int) < m + 1 then (ts.length : Int) else m + 1) = m - min (m + 1) (ds.length : Int) - min (m + 1) (ts.length : Int) := by
    rw [Int.min_def, Int.min_def]; split <;> split <;> split <;> split <;> omega
  generalize m - min (m + 1) (ds.length : Int) - min (m + 1) (ts.length : Int) = l0 at *
  have hlm : l0 ≤ 1048576 := by omega
  have hlm2 : -9000000000000000000 ≤ l0 := by omega
  refine fn_val follows noNum hO Tryd.func13 rfl ?_
  repeat' ((conv => whnf); first | (with_reducible refine exW w1 ?_) | (first | (with_reducible refine condT ?_ ?_; (focus (assumption))) | (with_reducible refine condF ?_ ?_; (focus (assumption))) | (with_reducible refine condT ?_ ?_; (focus (decide))) | (with_reducible refine condF ?_ ?_; (focus (decide))) | (with_reducible refine condT ?_ ?_; (focus ((first | assumption | decide | (simp; done) | (simp; omega)); done))) | (with_reducible refine condF ?_ ?_; (focus ((first | assumption | decide | (simp; done) | (simp; omega)); done))) | with_reducible refine condB (fun h => ?_) (fun h => ?_) | with_reducible refine exI rfl ?_ | with_reducible refine eqR rfl ?_ | (with_reducible refine exW (wrapN1 ?_) ?_; (focus (omega))) | (with_reducible refine exW (wrapN ?_) ?_; (focus (omega))) | (with_reducible refine exW (wrapB ?_ ?_) ?_; (focus (omega)); (focus (omega))) | with_reducible refine exW rfl ?_ | (with_reducible refine ixJ _ rfl ?_ ?_; (focus ((first | decide | omega | (simp; done) | (simp; omega)); done))) | (with_reducible refine ixJ' _ rfl ?_ ?_; (focus ((first | decide | omega | (simp; done) | (simp; omega)); done))) | (refine ixJ (Int.toNat _) ?_ ?_ ?_; (focus ((first | rfl | decide | omega | (simp; done)); done)); (focus ((first | decide | omega | (simp; done) | (simp; omega)); done))) | (refine ixJ' (Int.toNat _) ?_ ?_ ?_; (focus ((first | rfl | decide | omega | (simp; done)); done)); (focus ((first | decide | omega | (simp; done) | (simp; omega)); done))) | with_reducible refine ixS _ rfl (by assumption) ?_ | (with_reducible refine shlI ?_ ?_; (focus (first | decide | omega))) | (refine exI (callZ rfl rfl (if_pos ?_)) ?_; (focus ((first | decide | omega | (simp; done) | (simp; omega)); done)))))
  conv => whnf
  rw [hl0]
  refine ⟨Nat, (fun i => i ≤ ds.length), (fun i => [(2, .ptr 0 0), (5, .int .i64 (heftD (ds.take i) l0)), (6, .int .i64 i)]), (fun _ => [⟨true, 0, 0, .cells [.rs ds.length 3 (dcC ds), .rs ts.length 1 (ts.map stA)] 25⟩]), (fun i => ds.length - i), ⟨0, Nat.zero_le _, FgL.mk [0] rfl ?_ ⟨⟨rfl, rfl, rfl, rfl, BodyGe.pre (rest := []) rfl rfl⟩, trivial⟩ rfl⟩, ?_⟩
  · simp only [List.take_zero, heftD]; (repeat (first | exact trivial | (refine And.intro (Wk.int ?_) ?_; (focus (first | rfl | omega | (simp; done) | (simp; omega)))) | (refine And.intro (Wk.bool ?_) ?_; (focus (first | rfl | (simp; done)))) | refine And.intro (Wk.noref rfl) ?_ | refine And.intro (Wk.ptr rfl rfl) ?_ | (refine And.intro (Wk.slice rfl ?_ ?_ ?_ ?_ ?_) ?_; (focus (first | rfl | omega)); (focus (first | rfl | omega)); (focus (first | rfl | omega)); (focus (first | rfl | omega)); (focus rfl)) | refine And.intro Wk.nil ?_ | refine And.intro (Wk.func trivial ⟨Wk.ptr rfl rfl, trivial⟩) ?_ | refine And.intro (Wk.map rfl) ?_))
  intro i hi
  dsimp only
  have hle := heftD_le (ds.take i) l0
  by_cases hc : i < ds.length ∧ 0 ≤ heftD (ds.take i) l0
  · obtain ⟨hlt, hpos⟩ := hc
    have e1 : decide ((i : Int) < (ds.length : Int)) = true := by simpa using hlt
    have e2 : decide (heftD (ds.take i) l0 ≥ 0) = true := by simpa using hpos
    have hs := heftD_at ds l0 i hlt
    rw [if_pos hpos] at hs
    have hxn := dcn ds i hlt
    have hln := hd2 _ (get_mem hlt)
    generalize heftD (ds.take i) l0 = b at *
    generalize ds[i] = d at *
    obtain ⟨name, pl, vl⟩ := d
    simp only at *
    have q20 : Int.tdiv (name.length : Int) 20 = ((name.length / 20 : Nat) : Int) := rfl
    have w2 : IntKind.i64.wrap (Int.tdiv (name.length : Int) 20) = ((name.length / 20 : Nat) : Int) := by rw [q20]; exact wrapB (by omega) (by omega)
    have w3 : IntKind.i64.wrap (b - ((name.length / 20 : Nat) : Int)) = b - ((name.length / 20 : Nat) : Int) := wrapB (by omega) (by omega)
    repeat' ((conv => whnf); first | (refine And.intro (show (20 : Int) ≠ 0 by decide) ?_) | (rw [w2]) | (with_reducible refine exW w3 ?_) | (with_reducible refine ixJ i rfl ?_ ?_; (focus (omega))) | (refine exI hxn ?_) | (first | (with_reducible refine condT ?_ ?_; (focus (assumption))) | (with_reducible refine condF ?_ ?_; (focus (assumption))) | (with_reducible refine condT ?_ ?_; (focus (decide))) | (with_reducible refine condF ?_ ?_; (focus (decide))) | (with_reducible refine condT ?_ ?_; (focus ((first | assumption | decide | (simp; done) | (simp; omega)); done))) | (with_reducible refine condF ?_ ?_; (focus ((first | assumption | decide | (simp; done) | (simp; omega)); done))) | with_reducible refine condB (fun h => ?_) (fun h => ?_) | with_reducible refine exI rfl ?_ | with_reducible refine eqR rfl ?_ | (with_reducible refine exW (wrapN1 ?_) ?_; (focus (omega))) | (with_reducible refine exW (wrapN ?_) ?_; (focus (omega))) | (with_reducible refine exW (wrapB ?_ ?_) ?_; (focus (omega)); (focus (omega))) | with_reducible refine exW rfl ?_ | (with_reducible refine ixJ _ rfl ?_ ?_; (focus ((first | decide | omega | (simp; done) | (simp; omega)); done))) | (with_reducible refine ixJ' _ rfl ?_ ?_; (focus ((first | decide | omega | (simp; done) | (simp; omega)); done))) | (refine ixJ (Int.toNat _) ?_ ?_ ?_; (focus ((first | rfl | decide | omega | (simp; done)); done)); (focus ((first | decide | omega | (simp; done) | (simp; omega)); done))) | (refine ixJ' (Int.toNat _) ?_ ?_ ?_; (focus ((first | rfl | decide | omega | (simp; done)); done)); (focus ((first | decide | omega | (simp; done) | (simp; omega)); done))) | with_reducible refine ixS _ rfl (by assumption) ?_ | (with_reducible refine shlI ?_ ?_; (focus (first | decide | omega))) | (refine exI (callZ rfl rfl (if_pos ?_)) ?_; (focus ((first | decide | omega | (simp; done) | (simp; omega)); done)))))
    conv => whnf
    refine ⟨i + 1, hlt, by show ds.length - (i + 1) < ds.length - i; omega, FgL.mk [0] rfl ?_ ⟨⟨rfl, rfl, rfl, rfl, BodyGe.pre (rest := []) rfl rfl⟩, trivial⟩ rfl⟩
    rw [hs]; (repeat (first | exact trivial | (refine And.intro (Wk.int ?_) ?_; (focus (first | rfl | omega | (simp; done) | (simp; omega)))) | (refine And.intro (Wk.bool ?_) ?_; (focus (first | rfl | (simp; done)))) | refine And.intro (Wk.noref rfl) ?_ | refine And.intro (Wk.ptr rfl rfl) ?_ | (refine And.intro (Wk.slice rfl ?_ ?_ ?_ ?_ ?_) ?_; (focus (first | rfl | omega)); (focus (first | rfl | omega)); (focus (first | rfl | omega)); (focus (first | rfl | omega)); (focus rfl)) | refine And.intro Wk.nil ?_ | refine And.intro (Wk.func trivial ⟨Wk.ptr rfl rfl, trivial⟩) ?_ | refine And.intro (Wk.map rfl) ?_))
  · have hfin : heftD (ds.take i) l0 = heftD ds l0 := by
      by_cases hlt : i < ds.length
      · exact (heftD_stop ds l0 i (by omega)).symm
      · rw [List.take_of_length_le (by omega)]
    rw [hfin] at hc hle ⊢
    generalize heftD ds l0 = l1 at *
    obtain ⟨b1, e1, hb⟩ : ∃ b1, decide ((i : Int) < (ds.length : Int)) = b1 ∧ (b1 = true → decide (l1 ≥ 0) = false) := ⟨_, rfl, fun h => by simp only [decide_eq_true_eq, decide_eq_false_iff_not] at *; omega⟩
    have hb2 : b1 = false ∨ b1 = true ∧ decide (l1 ≥ 0) = false := by cases b1 <;> simp_all
    clear hb
    rcases hb2 with rfl | ⟨rfl, e2⟩
    all_goals
      repeat' ((conv => whnf); first | (with_reducible refine condT ?_ ?_; (focus (assumption))) | (with_reducible refine condF ?_ ?_; (focus (assumption))) | (with_reducible refine condT ?_ ?_; (focus (decide))) | (with_reducible refine condF ?_ ?_; (focus (decide))) | (with_reducible refine condT ?_ ?_; (focus ((first | assumption | decide | (simp; done) | (simp; omega)); done))) | (with_reducible refine condF ?_ ?_; (focus ((first | assumption | decide | (simp; done) | (simp; omega)); done))) | with_reducible refine condB (fun h => ?_) (fun h => ?_) | with_reducible refine exI rfl ?_ | with_reducible refine eqR rfl ?_ | (with_reducible refine exW (wrapN1 ?_) ?_; (focus (omega))) | (with_reducible refine exW (wrapN ?_) ?_; (focus (omega))) | (with_reducible refine exW (wrapB ?_ ?_) ?_; (focus (omega)); (focus (omega))) | with_reducible refine exW rfl ?_ | (with_reducible refine ixJ _ rfl ?_ ?_; (focus ((first | decide | omega | (simp; done) | (simp; omega)); done))) | (with_reducible refine ixJ' _ rfl ?_ ?_; (focus ((first | decide | omega | (simp; done) | (simp; omega)); done))) | (refine ixJ (Int.toNat _) ?_ ?_ ?_; (focus ((first | rfl | decide | omega | (simp; done)); done)); (focus ((first | decide | omega | (simp; done) | (simp; omega)); done))) | (refine ixJ' (Int.toNat _) ?_ ?_ ?_; (focus ((first | rfl | decide | omega | (simp; done)); done)); (focus ((first | decide | omega | (simp; done) | (simp; omega)); done))) | with_reducible refine ixS _ rfl (by assumption) ?_ | (with_reducible refine shlI ?_ ?_; (focus (first | decide | omega))) | (refine exI (callZ rfl rfl (if_pos ?_)) ?_; (focus ((first | decide | omega | (simp; done) | (simp; omega)); done))))
      conv => whnf
      refine ⟨Nat, (fun i => i ≤ ts.length), (fun i => [(2, .ptr 0 0), (5, .int .i64 (heftTL (ts.take i) l1)), (7, .int .i64 i)]), (fun _ => [⟨true, 0, 0, .cells [.rs ds.length 3 (dcC ds), .rs ts.length 1 (ts.map stA)] 25⟩]), (fun i => ts.length - i), ⟨0, Nat.zero_le _, FgL.mk [0] rfl ?_ ⟨⟨rfl, rfl, rfl, rfl, BodyGe.pre (rest := []) rfl rfl⟩, trivial⟩ rfl⟩, ?_⟩
      · simp only [List.take_zero, heftTL]; (repeat (first | exact trivial | (refine And.intro (Wk.int ?_) ?_; (focus (first | rfl | omega | (simp; done) | (simp; omega)))) | (refine And.intro (Wk.bool ?_) ?_; (focus (first | rfl | (simp; done)))) | refine And.intro (Wk.noref rfl) ?_ | refine And.intro (Wk.ptr rfl rfl) ?_ | (refine And.intro (Wk.slice rfl ?_ ?_ ?_ ?_ ?_) ?_; (focus (first | rfl | omega)); (focus (first | rfl | omega)); (focus (first | rfl | omega)); (focus (first | rfl | omega)); (focus rfl)) | refine And.intro Wk.nil ?_ | refine And.intro (Wk.func trivial ⟨Wk.ptr rfl rfl, trivial⟩) ?_ | refine And.intro (Wk.map rfl) ?_))
      clear e1
      try clear e2
      intro k hk
      dsimp only
      have hlk := heftTL_le (ts.take k) l1
      by_cases hkt : k < ts.length
      · have e1 : decide ((k : Int) < (ts.length : Int)) = true := by simpa using hkt
        by_cases hpos : 0 ≤ heftTL (ts.take k) l1
        · have e2 : decide (heftTL (ts.take k) l1 ≥ 0) = true := by simpa using hpos
          have hs := heftTL_at ts l1 k hkt
          rw [if_pos hpos] at hs
          have hx := th1 ts k hkt
          have hok := okTL_get ht1 _ (get_mem hkt)
          have q2 := q1 ts[k] (heftTL (ts.take k) l1) hok.1 hok.2 hpos (by omega)
          generalize heftTL (ts.take k) l1 = b at *
          generalize ts[k] = t at *
          simp only [stA] at hx q2
          repeat' ((conv => whnf); first | (with_reducible refine exI (q2 _) ?_) | (with_reducible refine ixJ k rfl ?_ ?_; (focus (omega))) | (refine exI hx ?_) | (first | (with_reducible refine condT ?_ ?_; (focus (assumption))) | (with_reducible refine condF ?_ ?_; (focus (assumption))) | (with_reducible refine condT ?_ ?_; (focus (decide))) | (with_reducible refine condF ?_ ?_; (focus (decide))) | (with_reducible refine condT ?_ ?_; (focus ((first | assumption | decide | (simp; done) | (simp; omega)); done))) | (with_reducible refine condF ?_ ?_; (focus ((first | assumption | decide | (simp; done) | (simp; omega)); done))) | with_reducible refine condB (fun h => ?_) (fun h => ?_) | with_reducible refine exI rfl ?_ | with_reducible refine eqR rfl ?_ | (with_reducible refine exW (wrapN1 ?_) ?_; (focus (omega))) | (with_reducible refine exW (wrapN ?_) ?_; (focus (omega))) | (with_reducible refine exW (wrapB ?_ ?_) ?_; (focus (omega)); (focus (omega))) | with_reducible refine exW rfl ?_ | (with_reducible refine ixJ _ rfl ?_ ?_; (focus ((first | decide | omega | (simp; done) | (simp; omega)); done))) | (with_reducible refine ixJ' _ rfl ?_ ?_; (focus ((first | decide | omega | (simp; done) | (simp; omega)); done))) | (refine ixJ (Int.toNat _) ?_ ?_ ?_; (focus ((first | rfl | decide | omega | (simp; done)); done)); (focus ((first | decide | omega | (simp; done) | (simp; omega)); done))) | (refine ixJ' (Int.toNat _) ?_ ?_ ?_; (focus ((first | rfl | decide | omega | (simp; done)); done)); (focus ((first | decide | omega | (simp; done) | (simp; omega)); done))) | with_reducible refine ixS _ rfl (by assumption) ?_ | (with_reducible refine shlI ?_ ?_; (focus (first | decide | omega))) | (refine exI (callZ rfl rfl (if_pos ?_)) ?_; (focus ((first | decide | omega | (simp; done) | (simp; omega)); done)))))
          conv => whnf
          refine ⟨k + 1, hkt, by show ts.length - (k + 1) < ts.length - k; omega, FgL.mk [0] rfl ?_ ⟨⟨rfl, rfl, rfl, rfl, BodyGe.pre (rest := []) rfl rfl⟩, trivial⟩ rfl⟩
          rw [hs]; (repeat (first | exact trivial | (refine And.intro (Wk.int ?_) ?_; (focus (first | rfl | omega | (simp; done) | (simp; omega)))) | (refine And.intro (Wk.bool ?_) ?_; (focus (first | rfl | (simp; done)))) | refine And.intro (Wk.noref rfl) ?_ | refine And.intro (Wk.ptr rfl rfl) ?_ | (refine And.intro (Wk.slice rfl ?_ ?_ ?_ ?_ ?_) ?_; (focus (first | rfl | omega)); (focus (first | rfl | omega)); (focus (first | rfl | omega)); (focus (first | rfl | omega)); (focus rfl)) | refine And.intro Wk.nil ?_ | refine And.intro (Wk.func trivial ⟨Wk.ptr rfl rfl, trivial⟩) ?_ | refine And.intro (Wk.map rfl) ?_))
        · have e2 : decide (heftTL (ts.take k) l1 ≥ 0) = false := by simpa using hpos
          have hst := heftTL_stop ts l1 k (by omega)
          rw [hst]
          repeat' ((conv => whnf); first | (with_reducible refine condT ?_ ?_; (focus (assumption))) | (with_reducible refine condF ?_ ?_; (focus (assumption))) | (with_reducible refine condT ?_ ?_; (focus (decide))) | (with_reducible refine condF ?_ ?_; (focus (decide))) | (with_reducible refine condT ?_ ?_; (focus ((first | assumption | decide | (simp; done) | (simp; omega)); done))) | (with_reducible refine condF ?_ ?_; (focus ((first | assumption | decide | (simp; done) | (simp; omega)); done))) | with_reducible refine condB (fun h => ?_) (fun h => ?_) | with_reducible refine exI rfl ?_ | with_reducible refine eqR rfl ?_ | (with_reducible refine exW (wrapN1 ?_) ?_; (focus (omega))) | (with_reducible refine exW (wrapN ?_) ?_; (focus (omega))) | (with_reducible refine exW (wrapB ?_ ?_) ?_; (focus (omega)); (focus (omega))) | with_reducible refine exW rfl ?_ | (with_reducible refine ixJ _ rfl ?_ ?_; (focus ((first | decide | omega | (simp; done) | (simp; omega)); done))) | (with_reducible refine ixJ' _ rfl ?_ ?_; (focus ((first | decide | omega | (simp; done) | (simp; omega)); done))) | (refine ixJ (Int.toNat _) ?_ ?_ ?_; (focus ((first | rfl | decide | omega | (simp; done)); done)); (focus ((first | decide | omega | (simp; done) | (simp; omega)); done))) | (refine ixJ' (Int.toNat _) ?_ ?_ ?_; (focus ((first | rfl | decide | omega | (simp; done)); done)); (focus ((first | decide | omega | (simp; done) | (simp; omega)); done))) | with_reducible refine ixS _ rfl (by assumption) ?_ | (with_reducible refine shlI ?_ ?_; (focus (first | decide | omega))) | (refine exI (callZ rfl rfl (if_pos ?_)) ?_; (focus ((first | decide | omega | (simp; done) | (simp; omega)); done))))
          all_goals rfl
      · have e1 : decide ((k : Int) < (ts.length : Int)) = false := by simpa using hkt
        have hk2 : k = ts.length := by have := hk; omega
        subst hk2
        rw [List.take_length]
        repeat' ((conv => whnf); first | (with_reducible refine condT ?_ ?_; (focus (assumption))) | (with_reducible refine condF ?_ ?_; (focus (assumption))) | (with_reducible refine condT ?_ ?_; (focus (decide))) | (with_reducible refine condF ?_ ?_; (focus (decide))) | (with_reducible refine condT ?_ ?_; (focus ((first | assumption | decide | (simp; done) | (simp; omega)); done))) | (with_reducible refine condF ?_ ?_; (focus ((first | assumption | decide | (simp; done) | (simp; omega)); done))) | with_reducible refine condB (fun h => ?_) (fun h => ?_) | with_reducible refine exI rfl ?_ | with_reducible refine eqR rfl ?_ | (with_reducible refine exW (wrapN1 ?_) ?_; (focus (omega))) | (with_reducible refine exW (wrapN ?_) ?_; (focus (omega))) | (with_reducible refine exW (wrapB ?_ ?_) ?_; (focus (omega)); (focus (omega))) | with_reducible refine exW rfl ?_ | (with_reducible refine ixJ _ rfl ?_ ?_; (focus ((first | decide | omega | (simp; done) | (simp; omega)); done))) | (with_reducible refine ixJ' _ rfl ?_ ?_; (focus ((first | decide | omega | (simp; done) | (simp; omega)); done))) | (refine ixJ (Int.toNat _) ?_ ?_ ?_; (focus ((first | rfl | decide | omega | (simp; done)); done)); (focus ((first | decide | omega | (simp; done) | (simp; omega)); done))) | (refine ixJ' (Int.toNat _) ?_ ?_ ?_; (focus ((first | rfl | decide | omega | (simp; done)); done)); (focus ((first | decide | omega | (simp; done) | (simp; omega)); done))) | with_reducible refine ixS _ rfl (by assumption) ?_ | (with_reducible refine shlI ?_ ?_; (focus (first | decide | omega))) | (refine exI (callZ rfl rfl (if_pos ?_)) ?_; (focus ((first | decide | omega | (simp; done) | (simp; omega)); done))))
        all_goals rfl
end Go.Proofs.YtajhailaofchlaaDoor.lex
end

/-
  A verified abstract interpreter, part 46: what is read of types that hold themselves.
-/
section
set_option linter.unusedSimpArgs false
set_option linter.unusedVariables false
namespace Go.Abs
open Go.RowKit Go.ChangeShapes Go.WideShapes Go.ChangeAt

/-- Read with at most so much fuel. -/
def OpensB (P : Program) (N : Nat) (t : TypeId) (Q : List AV → Prop) : Prop :=
  ∀ (H : Type) (enc : TypeId × Value → H) (W : World) (fuel : Nat) (cs : List Value) (x : DataW H × List MemPlace), fuel ≤ N → DataW.trod enc P W 0 (fun _ => true) true fuel t cs = some x → ∃ us, Q us ∧ LR (snap0 W) noI us cs

section opens
variable {P : Program}
theorem OpensB.mono {N : Nat} {t : TypeId} {Q Q' : List AV → Prop} (h : OpensB P N t Q) (hq : ∀ u, Q u → Q' u) : OpensB P N t Q' := fun H enc W fuel cs x hN hx => let ⟨u, h1, h2⟩ := h H enc W fuel cs x hN hx; ⟨u, hq _ h1, h2⟩
theorem OpensB.of {N : Nat} {t : TypeId} {Q : List AV → Prop} (h : Opens P t Q) : OpensB P N t Q := fun H enc W fuel cs x _ hx => h H enc W fuel cs x hx
theorem OpensB.all {t : TypeId} {Q : List AV → Prop} (h : ∀ N, OpensB P N t Q) : Opens P t Q := fun H enc W fuel cs x hx => h fuel H enc W fuel cs x (Nat.le_refl _) hx
theorem opensB_zero {t : TypeId} {Q : List AV → Prop} : OpensB P 0 t Q := fun H enc W fuel cs x hN hx => by
  obtain rfl : fuel = 0 := by omega
  simp [DataW.trod] at hx
/-- A slice: none, or one with such elements. -/
theorem opensB_slice {N : Nat} {t e : TypeId} {z : Nat} {Q : List AV → Prop} (ht : P.underlying t = some (.slice e)) (hz : P.cellsOf e = z) (hz0 : z ≠ 0) (he : OpensB P N e Q) :
    OpensB P (N + 1) t fun us => ∃ l : List (List AV), (∀ u ∈ l, Q u ∧ u.length = z) ∧ us = [.rs l.length z l.flatten] ∧ l.length ≤ maxLen := by
  intro H enc W fuel cs x hN h
  rcases DataW.trod_slice ht h with ⟨rfl, _⟩ | ⟨a, len, cap, els, rest, n, hfu, rfl, _, _, hlc, hcm, hl, hel, hrest⟩
  · exact ⟨_, ⟨[], by simp, rfl, by simp⟩, by simp [LR, VR]⟩
  · rw [hz] at hel
    have each : ∀ i, i < len → ∃ (vs : List Value) (u : List AV), W.cells? 0 (a.add (i * z)) z = some vs ∧ Q u ∧ LR (snap0 W) noI u vs := by
      intro i hi
      have h1 := hel i hi
      have h2 : els[i]? = some els[i] := List.getElem?_eq_getElem (by omega)
      rw [h2] at h1
      simp only [Option.bind_eq_some_iff] at h1
      obtain ⟨vs, h3, h4⟩ := h1
      obtain ⟨u, h5, h6⟩ := he H enc W n vs _ (by omega) h4
      exact ⟨vs, u, h3, h5, h6⟩
    have hex : ∃ (l : List (List AV)) (vss : List (List Value)), l.length = len ∧ vss.length = len ∧ ∀ i, i < len → ∃ vs u, l[i]? = some u ∧ vss[i]? = some vs ∧ W.cells? 0 (a.add (i * z)) z = some vs ∧ Q u ∧ LR (snap0 W) noI u vs := by
      clear hel hl h hlc hcm hrest
      induction len with
      | zero => exact ⟨[], [], rfl, rfl, fun i hi => by omega⟩
      | succ m ih =>
        obtain ⟨l, vss, h1, h2, h3⟩ := ih fun i hi => each i (by omega)
        obtain ⟨vs, u, g1, g2, g3⟩ := each m (by omega)
        refine ⟨l ++ [u], vss ++ [vs], by simp [h1], by simp [h2], fun i hi => ?_⟩
        by_cases e : i = m
        · subst e
          exact ⟨vs, u, by simp [← h1], by simp [← h2], g1, g2, g3⟩
        · obtain ⟨vs', u', k1, k2, k3⟩ := h3 i (by omega)
          exact ⟨vs', u', by rw [List.getElem?_append_left (by omega)]; exact k1, by rw [List.getElem?_append_left (by omega)]; exact k2, k3⟩
    obtain ⟨l, vss, h1, h2, h3⟩ := hex
    have hll : ∀ u ∈ l, Q u ∧ u.length = z := by
      intro u hu
      obtain ⟨i, hi, rfl⟩ := List.mem_iff_getElem.1 hu
      obtain ⟨vs, u', k1, k2, k3, k4, k5⟩ := h3 i (by omega)
      rw [List.getElem?_eq_getElem hi] at k1; simp at k1
      rw [k1]
      exact ⟨k4, by rw [← k5.length, (cells?_get k3).1]⟩
    refine ⟨_, ⟨l, hll, rfl, by omega⟩, ?_⟩
    simp only [LR]
    refine ⟨_, _, rfl, ?_, rfl⟩
    simp only [VR]
    have hfl : l.flatten.length = l.length * z := by
      clear h1 h3
      induction l with
      | nil => simp
      | cons u l ih => simp only [List.flatten_cons, List.length_append, List.length_cons, (hll u (by simp)).2, ih fun v hv => hll v (by simp [hv])]; rw [Nat.add_mul]; omega
    have hspot : len ≠ 0 → a.spot = none := by
      intro h0
      obtain ⟨vs, u, k1, k2, k3, k4, k5⟩ := h3 0 (by omega)
      obtain ⟨g1, g2⟩ := cells?_get k3
      have : W.cell? ((a.add (0 * z)).add 0) = some vs[0] := g2 0 _ (List.getElem?_eq_getElem (by omega))
      rw [Nat.zero_mul] at this
      simpa [Addr.add] using World.cell?_spot this
    refine .inr ⟨a, cap, by rw [h1], by omega, hfl, mr_of_get fun k u hu => ?_, fun h0 => hspot (by rw [← h1]; exact h0)⟩
    obtain ⟨x', g1, g2⟩ := flatten_at hz0 (fun u hu => (hll u hu).2) hu
    have hklt : k / z < len := by rw [← h1]; exact (List.getElem?_eq_some_iff.1 g1).1
    obtain ⟨vs, u', k1, k2, k3, k4, k5⟩ := h3 (k / z) hklt
    rw [g1] at k1; simp at k1; subst k1
    obtain ⟨v, e1, e2⟩ := k5.get g2
    refine ⟨v, ?_, e2⟩
    have hc := (cells?_get k3).2 _ _ e1
    rw [addr_addadd a (hspot (Nat.ne_of_gt (Nat.lt_of_le_of_lt (Nat.zero_le _) hklt)))] at hc
    have hk : a.off + k / z * z + k % z = a.off + k := by rw [Nat.add_assoc, Nat.mul_comm, Nat.div_add_mod]
    rw [hk] at hc
    unfold snap0
    have hlt : a.block < W.heap.size := by
      cases hq : W.heap[a.block]? with
      | none => unfold World.cell? at hc; simp only [hq] at hc; cases hc
      | some ob => exact (Array.getElem?_eq_some_iff.1 hq).1
    rw [if_pos (by exact hlt)]; exact hc

def FsOpensB (P : Program) (N : Nat) : List Field → List (List AV → Prop) → Nat → Nat → Prop
  | [], [], off, tot => off = tot
  | f :: fs, Q :: Qs, off, tot => f.offset = off ∧ OpensB P N f.type Q ∧ FsOpensB P N fs Qs (off + P.cellsOf f.type) tot
  | _, _, _, _ => False

theorem opensB_fs {N : Nat} {H : Type} {enc : TypeId × Value → H} {W : World} {n tot : Nat} {cs : List Value} (hcs : cs.length = tot) (hN : n ≤ N) : ∀ {fs : List Field} {Qs : List (List AV → Prop)} {xs : List (DataW H × List MemPlace)} {off : Nat}, FsOpensB P N fs Qs off tot → xs.length = fs.length → off ≤ tot →
    (∀ (i : Nat) (f : Field), fs[i]? = some f → DataW.trod enc P W 0 (fun _ => true) true n f.type ((cs.drop f.offset).take (P.cellsOf f.type)) = xs[i]?) → ∃ us, FsQ Qs us ∧ LR (snap0 W) noI us (cs.drop off)
  | [], [], xs, off, h, hl, ho, hx => by
    have : off = tot := h
    subst this
    exact ⟨[], rfl, by simp [LR, ← hcs]⟩
  | f :: fs, Q :: Qs, xs, off, h, hl, ho, hx => by
    obtain ⟨h1, h2, h3⟩ := h
    cases xs with
    | nil => simp at hl
    | cons x xs =>
      have h0 := hx 0 f rfl
      simp only [List.getElem?_cons_zero] at h0
      obtain ⟨u, q1, q2⟩ := h2 H enc W n _ _ hN h0
      have hle : ∀ (fs : List Field) (Qs : List (List AV → Prop)) (o : Nat), FsOpensB P N fs Qs o tot → o ≤ tot := by
        intro fs
        induction fs with
        | nil => intro Qs o h; cases Qs with | nil => exact Nat.le_of_eq h | cons _ _ => exact h.elim
        | cons g gs ih => intro Qs o h; cases Qs with | nil => exact h.elim | cons _ _ => have := ih _ _ h.2.2; omega
      obtain ⟨us, q3, q4⟩ := opensB_fs hcs hN h3 (by simpa using hl) (hle _ _ _ h3) fun i g hg => by simpa using hx (i + 1) g (by simpa using hg)
      refine ⟨u ++ us, ⟨u, us, rfl, q1, q3⟩, ?_⟩
      rw [h1] at q2
      have := q2.append q4
      rwa [← List.drop_drop, List.take_append_drop] at this
  | [], _ :: _, xs, off, h, hl, ho, hx => h.elim
  | _ :: _, [], xs, off, h, hl, ho, hx => h.elim

theorem opensB_struct {N : Nat} {t : TypeId} {fs : Array Field} {Qs : List (List AV → Prop)} (ht : P.underlying t = some (.struct fs)) (h : FsOpensB P N fs.toList Qs 0 (P.cellsOf t)) : OpensB P (N + 1) t (FsQ Qs) := by
  intro H enc W fuel cs x hN hx
  obtain ⟨xs, n, hfu, _, hl, hlen, hf⟩ := DataW.trod_struct ht hx
  obtain ⟨us, h1, h2⟩ := opensB_fs hl (by omega) h (by simpa using hlen) (Nat.zero_le _) fun i f hi => hf i f (by simpa using hi)
  exact ⟨us, h1, by simpa using h2⟩
end opens

end Go.Abs
end

/-
  Expressions, statements, programs: what is read of them.
-/
section
set_option linter.unusedVariables false
set_option linter.unusedSimpArgs false
namespace Go.Proofs.YtajhailaofchlaaDoor.lex
open Go.Abs Go.RowKit
set_option maxRecDepth 100000
set_option maxHeartbeats 4000000
def QE (us : List AV) : Prop := ∃ e : Ex, us = e.cells ∧ okE e
def QEL (us : List AV) : Prop := ∃ l : List Ex, us = [exA l] ∧ okL l ∧ l.length ≤ maxLen
def QI (us : List AV) : Prop := ∃ n, us = [.int .i64 n] ∧ (Lit.int .i64 n).wf = true
def QB (us : List AV) : Prop := ∃ b, us = [.bool b]
def QT (us : List AV) : Prop := ∃ s : List UInt8, us = [.str s] ∧ s.length ≤ maxLen
def QS (us : List AV) : Prop := ∃ e : St, us = e.cells ∧ okS e
def QSL (us : List AV) : Prop := ∃ l : List St, us = [stA l] ∧ okSL l ∧ l.length ≤ maxLen
def QTL (us : List AV) : Prop := ∃ l : List (List St), us = [.rs l.length 1 (l.map stA)] ∧ okTL l ∧ l.length ≤ maxLen
def QD (us : List AV) : Prop := ∃ d : Dc, us = d.cells ∧ d.name.length ≤ 9223372036854775807
def QDL (us : List AV) : Prop := ∃ l : List Dc, us = [.rs l.length 3 (dcC l)] ∧ okD l
theorem max_eq : maxLen = 9223372036854775807 := rfl
theorem ex_list : ∀ l : List (List AV), (∀ u ∈ l, QE u ∧ u.length = 4) → ∃ m : List Ex, l.flatten = exC m ∧ l.length = m.length ∧ okL m
  | [], _ => ⟨[], by simp only [exC, List.flatten_nil], rfl, trivial⟩
  | u :: l, h => by
    obtain ⟨m, h1, h2, h3⟩ := ex_list l fun v hv => h v (by simp [hv])
    obtain ⟨⟨e, rfl, h4⟩, _⟩ := h u (by simp)
    exact ⟨e :: m, by simp only [List.flatten_cons, exC, h1], by simp [h2], by simp only [okL]; exact ⟨h4, h3⟩⟩
theorem st_list : ∀ l : List (List AV), (∀ u ∈ l, QS u ∧ u.length = 7) → ∃ m : List St, l.flatten = stC m ∧ l.length = m.length ∧ okSL m
  | [], _ => ⟨[], by simp only [stC, List.flatten_nil], rfl, trivial⟩
  | u :: l, h => by
    obtain ⟨m, h1, h2, h3⟩ := st_list l fun v hv => h v (by simp [hv])
    obtain ⟨⟨e, rfl, h4⟩, _⟩ := h u (by simp)
    exact ⟨e :: m, by simp only [List.flatten_cons, stC, h1], by simp [h2], by simp only [okSL]; exact ⟨h4, h3⟩⟩
theorem dc_list : ∀ l : List (List AV), (∀ u ∈ l, QD u ∧ u.length = 3) → ∃ m : List Dc, l.flatten = dcC m ∧ l.length = m.length ∧ ∀ d ∈ m, d.name.length ≤ 9223372036854775807
  | [], _ => ⟨[], by simp only [dcC, List.flatten_nil], rfl, by simp⟩
  | u :: l, h => by
    obtain ⟨m, h1, h2, h3⟩ := dc_list l fun v hv => h v (by simp [hv])
    obtain ⟨⟨e, rfl, h4⟩, _⟩ := h u (by simp)
    exact ⟨e :: m, by simp only [List.flatten_cons, dcC, h1], by simp [h2], fun d hd => by rcases List.mem_cons.1 hd with rfl | hd; exact h4; exact h3 d hd⟩
theorem th_list : ∀ l : List (List AV), (∀ u ∈ l, QSL u ∧ u.length = 1) → ∃ m : List (List St), l.flatten = m.map stA ∧ l.length = m.length ∧ okTL m
  | [], _ => ⟨[], by simp only [List.map_nil, List.flatten_nil], rfl, trivial⟩
  | u :: l, h => by
    obtain ⟨m, h1, h2, h3⟩ := th_list l fun v hv => h v (by simp [hv])
    obtain ⟨⟨e, rfl, h4, h5⟩, _⟩ := h u (by simp)
    exact ⟨e :: m, by simp only [List.flatten_cons, List.map_cons, h1]; rfl, by simp [h2], by simp only [okTL]; exact ⟨h4, h5, h3⟩⟩
theorem fsE (N : Nat) (h : OpensB Tryd.prog N 27 QEL) : FsOpensB Tryd.prog N (match Tryd.prog.underlying 36 with | some (.struct fs) => fs.toList | _ => []) [QI, QI, QT, QEL] 0 (Tryd.prog.cellsOf 36) := by
  rw [Tryd.underlying36]
  refine ⟨rfl, .of (opens_int Tryd.underlying3), ?_⟩
  refine ⟨by kernel_rfl, .of (opens_int Tryd.underlying2), ?_⟩
  refine ⟨by kernel_rfl, .of (opens_str Tryd.underlying9), ?_⟩
  refine ⟨by kernel_rfl, h, ?_⟩
  unfold FsOpensB; kernel_rfl
theorem q_e {us : List AV} (h : FsQ [QI, QI, QT, QEL] us) : QE us := by
  obtain ⟨a, u1, rfl, ⟨n1, rfl, _⟩, b, u2, rfl, ⟨n2, rfl, _⟩, c, u3, rfl, ⟨s, rfl, hs⟩, d, u4, rfl, ⟨k, rfl, hk, hkl⟩, h3⟩ := h
  have h3 : u4 = [] := h3
  subst h3
  exact ⟨.mk n1 n2 s k, by simp only [Ex.cells]; rfl, by simp only [okE, okN]; exact ⟨⟨hs, hkl⟩, hk⟩⟩
theorem opensE : ∀ N, OpensB Tryd.prog N 36 QE ∧ OpensB Tryd.prog N 27 QEL
  | 0 => ⟨opensB_zero, opensB_zero⟩
  | N + 1 => by
    obtain ⟨h1, h2⟩ := opensE N
    have h3 := fsE N h2
    rw [Tryd.underlying36] at h3
    refine ⟨(opensB_struct Tryd.underlying36 h3).mono fun u hu => q_e hu, (opensB_slice Tryd.underlying27 (by kernel_rfl) (show (4 : Nat) ≠ 0 by decide) h1).mono ?_⟩
    rintro u ⟨l, hl, rfl, hll⟩
    obtain ⟨m, e1, e2, e3⟩ := ex_list l hl
    exact ⟨m, by rw [e1, e2]; rfl, e3, by rw [← e2]; exact hll⟩
theorem fsS (N : Nat) (h : OpensB Tryd.prog N 28 QSL) : FsOpensB Tryd.prog N (match Tryd.prog.underlying 30 with | some (.struct fs) => fs.toList | _ => []) [QI, QT, QT, QI, QEL, QSL, QSL] 0 (Tryd.prog.cellsOf 30) := by
  rw [Tryd.underlying30]
  refine ⟨rfl, .of (opens_int Tryd.underlying3), ?_⟩
  refine ⟨by kernel_rfl, .of (opens_str Tryd.underlying9), ?_⟩
  refine ⟨by kernel_rfl, .of (opens_str Tryd.underlying9), ?_⟩
  refine ⟨by kernel_rfl, .of (opens_int Tryd.underlying3), ?_⟩
  refine ⟨by kernel_rfl, (opensE N).2, ?_⟩
  refine ⟨by kernel_rfl, h, ?_⟩
  refine ⟨by kernel_rfl, h, ?_⟩
  unfold FsOpensB; kernel_rfl
theorem q_s {us : List AV} (h : FsQ [QI, QT, QT, QI, QEL, QSL, QSL] us) : QS us := by
  obtain ⟨a, u1, rfl, ⟨n1, rfl, _⟩, b, u2, rfl, ⟨s1, rfl, hs1⟩, c, u3, rfl, ⟨s2, rfl, hs2⟩, d, u4, rfl, ⟨n2, rfl, _⟩, e, u5, rfl, ⟨x, rfl, hx, hxl⟩, f, u6, rfl, ⟨t, rfl, ht, htl⟩, g, u7, rfl, ⟨k, rfl, hk, hkl⟩, h3⟩ := h
  have h3 : u7 = [] := h3
  subst h3
  exact ⟨.mk n1 s1 s2 n2 x t k, by simp only [St.cells, stA]; rfl, by simp only [okS, okN]; exact ⟨⟨hs1, hxl⟩, ⟨hs2, htl⟩, hkl, hx, ht, hk⟩⟩
theorem opensS : ∀ N, OpensB Tryd.prog N 30 QS ∧ OpensB Tryd.prog N 28 QSL
  | 0 => ⟨opensB_zero, opensB_zero⟩
  | N + 1 => by
    obtain ⟨h1, h2⟩ := opensS N
    have h3 := fsS N h2
    rw [Tryd.underlying30] at h3
    refine ⟨(opensB_struct Tryd.underlying30 h3).mono fun u hu => q_s hu, (opensB_slice Tryd.underlying28 (by kernel_rfl) (show (7 : Nat) ≠ 0 by decide) h1).mono ?_⟩
    rintro u ⟨l, hl, rfl, hll⟩
    obtain ⟨m, e1, e2, e3⟩ := st_list l hl
    exact ⟨m, by rw [e1, e2]; rfl, e3, by rw [← e2]; exact hll⟩
theorem fsD : FsOpens Tryd.prog (match Tryd.prog.underlying 53 with | some (.struct fs) => fs.toList | _ => []) [QT, QB, QI] 0 (Tryd.prog.cellsOf 53) := by
  rw [Tryd.underlying53]
  refine ⟨rfl, opens_str Tryd.underlying9, ?_⟩
  refine ⟨by kernel_rfl, opens_bool Tryd.underlying4, ?_⟩
  refine ⟨by kernel_rfl, opens_int Tryd.underlying2, ?_⟩
  unfold FsOpens; kernel_rfl
theorem q_d {us : List AV} (h : FsQ [QT, QB, QI] us) : QD us := by
  obtain ⟨a, u1, rfl, ⟨s, rfl, hs⟩, b, u2, rfl, ⟨n1, rfl⟩, c, u3, rfl, ⟨n2, rfl, _⟩, h3⟩ := h
  have h3 : u3 = [] := h3
  subst h3
  exact ⟨⟨s, n1, n2⟩, rfl, hs⟩
theorem opensDL : Opens Tryd.prog 22 QDL := by
  have h3 := fsD
  rw [Tryd.underlying53] at h3
  refine opens_mono (opens_slice Tryd.underlying22 (by kernel_rfl) (show (3 : Nat) ≠ 0 by decide) (opens_mono (opens_struct Tryd.underlying53 h3) fun u hu => q_d hu)) ?_
  rintro u ⟨l, hl, rfl, hll⟩
  obtain ⟨m, e1, e2, e3⟩ := dc_list l hl
  exact ⟨m, by rw [e1, e2], by rw [← e2]; exact hll, e3⟩
theorem opensTL : Opens Tryd.prog 23 QTL := by
  refine opens_mono (opens_slice Tryd.underlying23 (by kernel_rfl) (show (1 : Nat) ≠ 0 by decide) (OpensB.all fun N => (opensS N).2)) ?_
  rintro u ⟨l, hl, rfl, hll⟩
  obtain ⟨m, e1, e2, e3⟩ := th_list l hl
  exact ⟨m, by rw [e1, e2], e3, by rw [← e2]; exact hll⟩
theorem fsP : FsOpens Tryd.prog (match Tryd.prog.underlying 25 with | some (.struct fs) => fs.toList | _ => []) [QDL, QTL] 0 (Tryd.prog.cellsOf 25) := by
  rw [Tryd.underlying25]
  refine ⟨rfl, opensDL, ?_⟩
  refine ⟨by kernel_rfl, opensTL, ?_⟩
  unfold FsOpens; kernel_rfl
theorem opensP : OpensV Tryd.prog 25 fun u => ∃ p : Pr, u = p.av ∧ okP p := by
  have h3 := fsP
  rw [Tryd.underlying25] at h3
  refine opensV_mono (opensV_struct Tryd.underlying25 h3) ?_
  rintro u ⟨us, rfl, a, u1, rfl, ⟨ds, rfl, hd⟩, b, u2, rfl, ⟨ts, rfl, ht, htl⟩, h4⟩
  have h4 : u2 = [] := h4
  subst h4
  exact ⟨⟨ds, ts⟩, rfl, hd, ht, htl⟩
theorem opensX : OpensV Tryd.prog 36 fun u => ∃ e : Ex, u = .agg e.cells ∧ okE e := by
  have h3 : FsOpens Tryd.prog (match Tryd.prog.underlying 36 with | some (.struct fs) => fs.toList | _ => []) [QI, QI, QT, QEL] 0 (Tryd.prog.cellsOf 36) := by
    rw [Tryd.underlying36]
    refine ⟨rfl, opens_int Tryd.underlying3, ?_⟩
    refine ⟨by kernel_rfl, opens_int Tryd.underlying2, ?_⟩
    refine ⟨by kernel_rfl, opens_str Tryd.underlying9, ?_⟩
    refine ⟨by kernel_rfl, OpensB.all fun N => (opensE N).2, ?_⟩
    unfold FsOpens; kernel_rfl
  rw [Tryd.underlying36] at h3
  refine opensV_mono (opensV_struct Tryd.underlying36 h3) ?_
  rintro u ⟨us, rfl, hu⟩
  obtain ⟨e, rfl, he⟩ := q_e hu
  exact ⟨e, rfl, he⟩
end Go.Proofs.YtajhailaofchlaaDoor.lex
end

/-
  slices.Sorted(maps.Keys(m)) at this program: the keys, rising. Conditions: the map holds texts as keys, at most maxLen of them. The layings were written by the kit's tools lay-iter and lay-plain; the rest is own work.
-/
section
namespace Go.Proofs.YtajhailaofchlaaDoor.shelf
open Go.Shelf Go.RowKit Go.Maps Go.Sort
def keys65_ren : Go.Shelf.Ren := ⟨fun | 7 => 65 | 10 => 84 | n => n, fun | 23 => 78 | 26 => 9 | 3 => 79 | 28 => 83 | 0 => 0 | 27 => 82 | 33 => 68 | 4 => 4 | n => n, fun | n => n⟩
theorem keys65 : Go.Proofs.SlLaysZ.n7 Tryd.prog keys65_ren := {
  mixed := by kernel_rfl
  f7 := ⟨Tryd.f65.name, by decide, Tryd.func65.trans (congrArg some (by kernel_rfl))⟩
  f10 := ⟨Tryd.f84.name, by decide, Tryd.func84.trans (congrArg some (by kernel_rfl))⟩
  t0 := Tryd.underlying0
  a0 := Tryd.isAgg0
  z0 := Tryd.sizeOf0
  v0 := Tryd.zeroValue0
  t4 := Tryd.underlying4
  a4 := Tryd.isAgg4
  z4 := Tryd.sizeOf4
  v4 := Tryd.zeroValue4
  t23 := Tryd.underlying78
  a23 := Tryd.isAgg78
  z23 := Tryd.sizeOf78
  v23 := Tryd.zeroValue78
  t26 := Tryd.underlying9
  a26 := Tryd.isAgg9
  z26 := Tryd.sizeOf9
  v26 := Tryd.zeroValue9
  t27 := Tryd.underlying82
  a27 := Tryd.isAgg82
  z27 := Tryd.sizeOf82
  v27 := Tryd.zeroValue82
  t28 := Tryd.underlying83
  a28 := Tryd.isAgg83
  z28 := Tryd.sizeOf83
  v28 := Tryd.zeroValue83
  t33 := Tryd.underlying68
  a33 := Tryd.isAgg68
  z33 := Tryd.sizeOf68
  v33 := Tryd.zeroValue68 }
def sorted64_ren : Go.Shelf.Ren := ⟨fun | 6 => 64 | 8 => 82 | 9 => 83 | 11 => 92 | 13 => 94 | 12 => 93 | 23 => 109 | 24 => 110 | 14 => 100 | 15 => 101 | 16 => 102 | 17 => 103 | 18 => 104 | 19 => 105 | 20 => 106 | 21 => 107 | 22 => 108 | 25 => 111 | 26 => 112 | 27 => 113 | 28 => 114 | 29 => 115 | 30 => 116 | 31 => 117 | n => n, fun | 26 => 9 | 28 => 83 | 24 => 46 | 0 => 0 | 3 => 3 | 37 => 114 | 48 => 126 | 50 => 128 | 4 => 4 | 40 => 119 | 39 => 118 | 45 => 86 | 5 => 5 | 9 => 9 | 51 => 129 | 55 => 133 | 57 => 135 | 58 => 136 | 33 => 68 | n => n, fun | n => n⟩
theorem sorted64 : Go.Proofs.SlLaysZ.n6 Tryd.prog sorted64_ren := {
  mixed := by kernel_rfl
  f6 := ⟨Tryd.f64.name, by decide, Tryd.func64.trans (congrArg some (by kernel_rfl))⟩
  f8 := ⟨Tryd.f82.name, by decide, Tryd.func82.trans (congrArg some (by kernel_rfl))⟩
  f11 := ⟨Tryd.f92.name, by decide, Tryd.func92.trans (congrArg some (by kernel_rfl))⟩
  t0 := Tryd.underlying0
  a0 := Tryd.isAgg0
  z0 := Tryd.sizeOf0
  v0 := Tryd.zeroValue0
  t24 := Tryd.underlying46
  a24 := Tryd.isAgg46
  z24 := Tryd.sizeOf46
  v24 := Tryd.zeroValue46
  t26 := Tryd.underlying9
  a26 := Tryd.isAgg9
  z26 := Tryd.sizeOf9
  v26 := Tryd.zeroValue9
  t28 := Tryd.underlying83
  a28 := Tryd.isAgg83
  z28 := Tryd.sizeOf83
  v28 := Tryd.zeroValue83
  i26 := by kernel_rfl }
def sort83_ren : Go.Shelf.Ren := ⟨fun | 6 => 83 | 8 => 94 | 9 => 93 | 19 => 109 | 20 => 110 | 21 => 100 | 22 => 101 | 23 => 102 | 24 => 103 | 25 => 104 | 26 => 105 | 27 => 106 | 28 => 107 | 29 => 108 | 36 => 111 | 31 => 112 | 32 => 113 | 37 => 114 | 38 => 115 | 39 => 116 | 41 => 117 | n => n, fun | 27 => 46 | 29 => 9 | 3 => 3 | 32 => 114 | 26 => 46 | 0 => 0 | 44 => 126 | 46 => 128 | 4 => 4 | 36 => 119 | 35 => 118 | 41 => 86 | 5 => 5 | 9 => 9 | 53 => 129 | 57 => 133 | 63 => 135 | 64 => 136 | n => n, fun | n => n⟩
theorem sort83 : Go.Proofs.SlLaysM.n6 Tryd.prog sort83_ren := {
  mixed := by kernel_rfl
  f6 := ⟨Tryd.f83.name, by decide, Tryd.func83.trans (congrArg some (by kernel_rfl))⟩
  f8 := Tryd.func94.trans (congrArg some (by kernel_rfl))
  f9 := ⟨Tryd.f93.name, by decide, Tryd.func93.trans (congrArg some (by kernel_rfl))⟩
  f19 := Tryd.func109.trans (congrArg some (by kernel_rfl))
  f20 := Tryd.func110.trans (congrArg some (by kernel_rfl))
  f21 := ⟨Tryd.f100.name, by decide, Tryd.func100.trans (congrArg some (by kernel_rfl))⟩
  f22 := ⟨Tryd.f101.name, by decide, Tryd.func101.trans (congrArg some (by kernel_rfl))⟩
  f23 := ⟨Tryd.f102.name, by decide, Tryd.func102.trans (congrArg some (by kernel_rfl))⟩
  f24 := ⟨Tryd.f103.name, by decide, Tryd.func103.trans (congrArg some (by kernel_rfl))⟩
  f25 := ⟨Tryd.f104.name, by decide, Tryd.func104.trans (congrArg some (by kernel_rfl))⟩
  f26 := ⟨Tryd.f105.name, by decide, Tryd.func105.trans (congrArg some (by kernel_rfl))⟩
  f27 := ⟨Tryd.f106.name, by decide, Tryd.func106.trans (congrArg some (by kernel_rfl))⟩
  f28 := ⟨Tryd.f107.name, by decide, Tryd.func107.trans (congrArg some (by kernel_rfl))⟩
  f29 := ⟨Tryd.f108.name, by decide, Tryd.func108.trans (congrArg some (by kernel_rfl))⟩
  f31 := Tryd.func112.trans (congrArg some (by kernel_rfl))
  f32 := Tryd.func113.trans (congrArg some (by kernel_rfl))
  f36 := ⟨Tryd.f111.name, by decide, Tryd.func111.trans (congrArg some (by kernel_rfl))⟩
  f37 := ⟨Tryd.f114.name, by decide, Tryd.func114.trans (congrArg some (by kernel_rfl))⟩
  f38 := ⟨Tryd.f115.name, by decide, Tryd.func115.trans (congrArg some (by kernel_rfl))⟩
  f39 := ⟨Tryd.f116.name, by decide, Tryd.func116.trans (congrArg some (by kernel_rfl))⟩
  f41 := ⟨Tryd.f117.name, by decide, Tryd.func117.trans (congrArg some (by kernel_rfl))⟩
  t0 := Tryd.underlying0
  a0 := Tryd.isAgg0
  z0 := Tryd.sizeOf0
  v0 := Tryd.zeroValue0
  t3 := Tryd.underlying3
  a3 := Tryd.isAgg3
  z3 := Tryd.sizeOf3
  v3 := Tryd.zeroValue3
  t4 := Tryd.underlying4
  a4 := Tryd.isAgg4
  z4 := Tryd.sizeOf4
  v4 := Tryd.zeroValue4
  t5 := Tryd.underlying5
  a5 := Tryd.isAgg5
  z5 := Tryd.sizeOf5
  v5 := Tryd.zeroValue5
  t9 := Tryd.underlying9
  a9 := Tryd.isAgg9
  z9 := Tryd.sizeOf9
  v9 := Tryd.zeroValue9
  t26 := Tryd.underlying46
  a26 := Tryd.isAgg46
  z26 := Tryd.sizeOf46
  v26 := Tryd.zeroValue46
  t27 := Tryd.underlying46
  a27 := Tryd.isAgg46
  z27 := Tryd.sizeOf46
  v27 := Tryd.zeroValue46
  t29 := Tryd.underlying9
  a29 := Tryd.isAgg9
  z29 := Tryd.sizeOf9
  v29 := Tryd.zeroValue9
  t32 := Tryd.underlying114
  a32 := Tryd.isAgg114
  z32 := Tryd.sizeOf114
  v32 := Tryd.zeroValue114
  t35 := Tryd.underlying118
  a35 := Tryd.isAgg118
  z35 := Tryd.sizeOf118
  v35 := Tryd.zeroValue118
  t36 := Tryd.underlying119
  a36 := Tryd.isAgg119
  z36 := Tryd.sizeOf119
  v36 := Tryd.zeroValue119
  t41 := Tryd.underlying86
  a41 := Tryd.isAgg86
  z41 := Tryd.sizeOf86
  v41 := Tryd.zeroValue86
  t44 := Tryd.underlying126
  a44 := Tryd.isAgg126
  z44 := Tryd.sizeOf126
  v44 := Tryd.zeroValue126
  t46 := Tryd.underlying128
  a46 := Tryd.isAgg128
  z46 := Tryd.sizeOf128
  v46 := Tryd.zeroValue128
  t53 := Tryd.underlying129
  a53 := Tryd.isAgg129
  z53 := Tryd.sizeOf129
  v53 := Tryd.zeroValue129
  t57 := Tryd.underlying133
  a57 := Tryd.isAgg133
  z57 := Tryd.sizeOf133
  v57 := Tryd.zeroValue133
  t63 := Tryd.underlying135
  a63 := Tryd.isAgg135
  z63 := Tryd.sizeOf135
  v63 := Tryd.zeroValue135
  t64 := Tryd.underlying136
  a64 := Tryd.isAgg136
  z64 := Tryd.sizeOf136
  v64 := Tryd.zeroValue136 }

/-- slices.Sort's two contracts at this dump. -/
theorem sorts (m : Nat) : AnyZ.SortsIn Tryd.prog sorted64_ren Fence.wide m :=
  ⟨fun blk off cap ss W hH hblk hsz => callsIn_wide.2 (AnyM.slices_Sort_string sort83 blk off cap ss W hH hblk hsz),
   fun p cap W => callsIn_wide.2 (AnyM.slices_Sort_string_none sort83 p cap W)⟩

set_option maxHeartbeats 1000000 in
theorem sortsKeys : Go.Abs.SortsKeys Tryd.prog 64 84 9 := by
  intro Bm b nn D0 R W hcell hown hmax hbytes
  have hBm : Bm < W.heap.size := by
    by_cases h : Bm < W.heap.size
    · exact h
    · have h2 : W.heap[Bm]? = none := Array.getElem?_eq_none (by omega)
      simp [World.cell?, h2] at hcell
  have hseq : SeqGives Fence.wide 2 Tryd.prog 84 #[.pointer (some ⟨Bm, 0, none⟩)] encStr (fun ss => ss.Perm (strKeys D0)) (Maps.size D0) W :=
    AnyZ.keys_gives (ρ := keys65_ren) { keys65 with } Fence.wide _ trivial rfl (by omega) Bm b nn D0 W hBm hcell hown
  exact callsIn_wide.1 (AnyZ.sorted_in sorted64 Fence.wide 5 trivial trivial trivial trivial rfl (by omega) (sorts _) (enters_of Tryd.func83 (by kernel_rfl) rfl) 84 #[.pointer (some ⟨Bm, 0, none⟩)] trivial (enters_of Tryd.func84 (by kernel_rfl) rfl) _ _ hmax hbytes W hseq)
theorem keyT : Tryd.prog.underlying 9 = some .string := by kernel_rfl
/-- The contract, for runs. -/
theorem sound {gl : Go.Abs.Glob} : Go.Abs.OrcSound Tryd.prog gl (Go.Abs.sortO 64 84) := Go.Abs.sortO_sound sortsKeys keyT
end Go.Proofs.YtajhailaofchlaaDoor.shelf
end


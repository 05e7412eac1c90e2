/-
  Texts of this proof, one behind the other (part 8).
-/
import Derived.Test.YtajhailaofchlaaDoorPack7

/-
  Registers: the document's lists of them.
-/
section
set_option linter.unusedVariables false
set_option linter.unusedSimpArgs false
namespace Go.Proofs.YtajhailaofchlaaDoor.lex
open Go.Abs Go.RowKit
set_option maxRecDepth 100000
set_option maxHeartbeats 4000000
variable {gl : Glob}
def strC (l : List (List UInt8)) : List AV := l.map AV.str
theorem strC_len (l : List (List UInt8)) : (strC l).length = l.length * 1 := by simp [strC]
theorem strC_cons (x : List UInt8) (l : List (List UInt8)) : (strC (x :: l)).length = (l.length + 1) * 1 := by simp [strC]
theorem strC_app (a b : List (List UInt8)) : strC (a ++ b) = strC a ++ strC b := by simp [strC]
theorem strC_lit : ∀ l : List (List UInt8), (strC l).all lit = true
  | [] => rfl
  | x :: l => strC_lit l
theorem strC_refs (l : List (List UInt8)) : refsL (strC l) [] = [] := strs_refs l []
theorem nmL_take : ∀ (l : List Ex) (i : Nat) (h : i < l.length), nmL (l.take (i + 1)) = nmL (l.take i) ++ nmE l[i]
  | e :: l, 0, h => by simp [nmL]
  | e :: l, i + 1, h => by
    have := nmL_take l i (by simpa using h)
    simp only [List.take_succ_cons, nmL, List.getElem_cons_succ] at this ⊢
    rw [this, List.append_assoc]
theorem nmL_take_len (l : List Ex) (i : Nat) : (nmL (l.take i)).length ≤ (nmL l).length := by
  have h : nmL l = nmL (l.take i) ++ nmL (l.drop i) := by
    have hg : ∀ a b : List Ex, nmL (a ++ b) = nmL a ++ nmL b := by
      intro a b
      induction a with
      | nil => rfl
      | cons x a ih => simp only [List.cons_append, nmL, ih, List.append_assoc]
    rw [← hg, List.take_append_drop]
  rw [h, List.length_append]; omega
theorem regsR_ok : ∀ (n : Nat) (e : Ex), sizeE e ≤ n → okE e → sizeE e ≤ 1048576 → ValOK Tryd.prog gl 85 [.agg e.cells] (rsK (nmE e))
  | n, e, h, hok, hs => by
    obtain ⟨O, hO, p1, -⟩ := fams (P := Tryd.prog) (gl := gl) [{ I := Ex, f := 85, G := fun x => sizeE x < n ∧ okE x ∧ sizeE x ≤ 1048576, A := fun x => [.agg x.cells], R := fun x => rsK (nmE x), body := (by kernel_rfl), inj := (fun i j _ _ h => by rw [agg_inj h]), ok := (fun x hx => ⟨ex_refs x, match n, hx.1 with | n + 1, h => regsR_ok n x (by omega) hx.2.1 hx.2.2⟩) }] rfl
    have q1 : ∀ x, sizeE x < n → okE x → sizeE x ≤ 1048576 → ∀ H, acall Tryd.prog O H 85 [.agg x.cells] = some (.rs (nmE x).length 1 (strC (nmE x)), H) := fun x h1 h2 h3 => p1 x ⟨h1, h2, h3⟩
    clear p1
    have hT : appT Tryd.prog 46 46 = some (9, 1, 16) := by kernel_rfl
    obtain ⟨op, num, name, kids⟩ := e
    have hk := okE_kids hok
    simp only [Ex.kids, Ex.name, okN] at hk
    have hnl := nmE_len (.mk op num name kids)
    simp only [sizeE] at h hs hnl
    simp only [nmE, List.length_append] at hnl ⊢
    simp only [Ex.cells, exA, rsK]
    refine fn_valN follows noNum hO Tryd.func85 rfl ?_
    generalize hpre : (cond (op == 2 && !(name == [])) [name] []) = pre at *
    cases ho : (op == 2) with
    | false =>
      rw [ho] at hpre
      simp only [Bool.false_and, cond_false] at hpre
      repeat' ((conv => whnf); first | refine stp ?_ | with_reducible refine condB (fun h => ?_) (fun h => ?_))
      conv => whnf
      refine ⟨Nat, (fun i => i ≤ kids.length), (fun i => [(1, .ptr 0 0), (3, grA 1 1 (pre ++ nmL (kids.take i))), (4, .int .i64 i)]), (fun i => ⟨true, 0, 0, .cells [.int .i64 op, .int .i64 num, .str name, .rs kids.length 4 (exC kids)] 36⟩ :: grB 1 strC 9 (pre ++ nmL (kids.take i))), (fun i => kids.length - i), ⟨0, Nat.zero_le _, ?_⟩, ?_⟩
      · subst hpre
        exact FgL.mk [0] rfl ⟨Wk.ptr rfl rfl, Wk.noref rfl, Wk.int rfl, trivial⟩ ⟨⟨rfl, rfl, rfl, rfl, BodyGe.pre (rest := []) rfl rfl⟩, trivial⟩ rfl
      intro i hi
      dsimp only
      have hle := nmL_take_len kids i
      by_cases hlt : i < kids.length
      · have e1 : decide ((i : Int) < (kids.length : Int)) = true := by simpa using hlt
        have hx := ex4 kids i hlt
        have hsz := sizeL_mem _ _ (get_mem hlt)
        have hlr := nmE_len kids[i]
        have q2 := q1 kids[i] (by omega) (okL_get hk.2 _ (get_mem hlt)) (by omega)
        have hnx : pre ++ nmL (kids.take (i + 1)) = (pre ++ nmL (kids.take i)) ++ nmE kids[i] := by rw [nmL_take kids i hlt, List.append_assoc]
        have hlo : (pre ++ nmL (kids.take i)).length ≤ 2097152 := by rw [List.length_append]; omega
        generalize pre ++ nmL (kids.take i) = o at *
        generalize hr : nmE kids[i] = r at *
        generalize kids[i] = x at *
        obtain ⟨xo, xn, xs, xk⟩ := x
        simp only [Ex.cells] at hx q2
        cases o with
        | nil =>
          cases r with
          | nil =>
            repeat' ((conv => whnf); first | (with_reducible refine exI (q2 _) ?_) | (with_reducible refine ixJ i rfl ?_ ?_; (focus (omega))) | (refine exI hx ?_) | (refine apS ?_) | (first | refine stp ?_ | with_reducible refine condB (fun h => ?_) (fun h => ?_)))
            conv => whnf
            refine ⟨i + 1, hlt, by show kids.length - (i + 1) < kids.length - i; omega, ?_⟩
            rw [hnx]
            exact FgL.mk [0] rfl ⟨Wk.ptr rfl rfl, Wk.noref rfl, Wk.int rfl, trivial⟩ ⟨⟨rfl, rfl, rfl, rfl, BodyGe.pre (rest := []) rfl rfl⟩, trivial⟩ rfl
          | cons y r =>
            simp only [List.length_cons] at hlr
            repeat' ((conv => whnf); first | (with_reducible refine exI (q2 _) ?_) | (with_reducible refine ixJ i rfl ?_ ?_; (focus (omega))) | (refine exI hx ?_) | (refine apS ?_) | (first | refine stp ?_ | with_reducible refine condB (fun h => ?_) (fun h => ?_)))
            conv => whnf
            refine ⟨i + 1, hlt, by show kids.length - (i + 1) < kids.length - i; omega, ?_⟩
            rw [hnx]
            exact FgL.mk [0, 1] rfl ⟨Wk.ptr rfl rfl, Wk.slice rfl rfl rfl (Nat.le_refl _) (Nat.le_refl _) rfl, Wk.int rfl, trivial⟩ ⟨⟨rfl, rfl, rfl, rfl, BodyGe.pre (rest := []) rfl rfl⟩, ⟨rfl, rfl, rfl, rfl, BodyGe.pre (rest := []) (by simp [strC]) (strC_refs _)⟩, trivial⟩ rfl
        | cons z o =>
          have hcl := strC_cons z o
          simp only [List.length_cons] at hlo
          cases r with
          | nil =>
            repeat' ((conv => whnf); first | (with_reducible refine exI (q2 _) ?_) | (with_reducible refine ixJ i rfl ?_ ?_; (focus (omega))) | (refine exI hx ?_) | (refine apS ?_) | (first | refine stp ?_ | with_reducible refine condB (fun h => ?_) (fun h => ?_)))
            conv => whnf
            refine ⟨i + 1, hlt, by show kids.length - (i + 1) < kids.length - i; omega, ?_⟩
            rw [hnx, List.append_nil]
            exact FgL.mk [0, 1] rfl ⟨Wk.ptr rfl rfl, Wk.slice rfl rfl rfl (Nat.le_refl _) (Nat.le_refl _) rfl, Wk.int rfl, trivial⟩ ⟨⟨rfl, rfl, rfl, rfl, BodyGe.pre (rest := []) rfl rfl⟩, ⟨rfl, rfl, rfl, rfl, BodyGe.pre (rest := []) (by simp) (strC_refs _)⟩, trivial⟩ rfl
          | cons y r =>
            have hon := strs_one (y :: r)
            simp only [List.length_cons] at hlr
            repeat' ((conv => whnf); first | (with_reducible refine exI (q2 _) ?_) | (with_reducible refine ixJ i rfl ?_ ?_; (focus (omega))) | (refine exI hx ?_) | (refine apS ?_) | (first | refine stp ?_ | with_reducible refine condB (fun h => ?_) (fun h => ?_)))
            conv => whnf
            refine ⟨i + 1, hlt, by show kids.length - (i + 1) < kids.length - i; omega, ?_⟩
            rw [hnx]
            exact FgL.mk [0, 2] rfl ⟨Wk.ptr rfl rfl, Wk.slice rfl rfl (by simp; omega) (Nat.le_refl _) (by simp; omega) rfl, Wk.int rfl, trivial⟩ ⟨⟨rfl, rfl, rfl, rfl, BodyGe.pre (rest := []) rfl rfl⟩, ⟨rfl, rfl, rfl, rfl, BodyGe.pre (rest := []) (by simp [strC]) (strC_refs _)⟩, trivial⟩ rfl
      · have e1 : decide ((i : Int) < (kids.length : Int)) = false := by simpa using hlt
        have hi2 : i = kids.length := by have := hi; omega
        subst hi2
        rw [List.take_length] at hle ⊢
        generalize pre ++ nmL kids = o at *
        cases o with
        | nil =>
          repeat' ((conv => whnf); first | refine stp ?_ | with_reducible refine condB (fun h => ?_) (fun h => ?_))
          all_goals exact .inr ⟨rfl, _, rfl⟩
        | cons z o =>
          repeat' ((conv => whnf); first | refine stp ?_ | with_reducible refine condB (fun h => ?_) (fun h => ?_))
          conv => whnf
          exact ⟨_, frz_slice (b := 1) rfl (strC_cons z o) (strC_lit (z :: o)), .inl rfl⟩
    | true =>
      rw [ho] at hpre
      cases hs2 : (name == []) with
      | true =>
        rw [hs2] at hpre
        simp only [Bool.not_true, Bool.and_false, cond_false] at hpre
        have e2 : (!(name == [])) = false := by rw [hs2]; rfl
        repeat' ((conv => whnf); first | refine stp ?_ | with_reducible refine condB (fun h => ?_) (fun h => ?_))
        conv => whnf
        refine ⟨Nat, (fun i => i ≤ kids.length), (fun i => [(1, .ptr 0 0), (3, grA 1 1 (pre ++ nmL (kids.take i))), (4, .int .i64 i)]), (fun i => ⟨true, 0, 0, .cells [.int .i64 op, .int .i64 num, .str name, .rs kids.length 4 (exC kids)] 36⟩ :: grB 1 strC 9 (pre ++ nmL (kids.take i))), (fun i => kids.length - i), ⟨0, Nat.zero_le _, ?_⟩, ?_⟩
        · subst hpre
          exact FgL.mk [0] rfl ⟨Wk.ptr rfl rfl, Wk.noref rfl, Wk.int rfl, trivial⟩ ⟨⟨rfl, rfl, rfl, rfl, BodyGe.pre (rest := []) rfl rfl⟩, trivial⟩ rfl
        intro i hi
        dsimp only
        have hle := nmL_take_len kids i
        by_cases hlt : i < kids.length
        · have e1 : decide ((i : Int) < (kids.length : Int)) = true := by simpa using hlt
          have hx := ex4 kids i hlt
          have hsz := sizeL_mem _ _ (get_mem hlt)
          have hlr := nmE_len kids[i]
          have q2 := q1 kids[i] (by omega) (okL_get hk.2 _ (get_mem hlt)) (by omega)
          have hnx : pre ++ nmL (kids.take (i + 1)) = (pre ++ nmL (kids.take i)) ++ nmE kids[i] := by rw [nmL_take kids i hlt, List.append_assoc]
          have hlo : (pre ++ nmL (kids.take i)).length ≤ 2097152 := by rw [List.length_append]; omega
          generalize pre ++ nmL (kids.take i) = o at *
          generalize hr : nmE kids[i] = r at *
          generalize kids[i] = x at *
          obtain ⟨xo, xn, xs, xk⟩ := x
          simp only [Ex.cells] at hx q2
          cases o with
          | nil =>
            cases r with
            | nil =>
              repeat' ((conv => whnf); first | (with_reducible refine exI (q2 _) ?_) | (with_reducible refine ixJ i rfl ?_ ?_; (focus (omega))) | (refine exI hx ?_) | (refine apS ?_) | (first | refine stp ?_ | with_reducible refine condB (fun h => ?_) (fun h => ?_)))
              conv => whnf
              refine ⟨i + 1, hlt, by show kids.length - (i + 1) < kids.length - i; omega, ?_⟩
              rw [hnx]
              exact FgL.mk [0] rfl ⟨Wk.ptr rfl rfl, Wk.noref rfl, Wk.int rfl, trivial⟩ ⟨⟨rfl, rfl, rfl, rfl, BodyGe.pre (rest := []) rfl rfl⟩, trivial⟩ rfl
            | cons y r =>
              simp only [List.length_cons] at hlr
              repeat' ((conv => whnf); first | (with_reducible refine exI (q2 _) ?_) | (with_reducible refine ixJ i rfl ?_ ?_; (focus (omega))) | (refine exI hx ?_) | (refine apS ?_) | (first | refine stp ?_ | with_reducible refine condB (fun h => ?_) (fun h => ?_)))
              conv => whnf
              refine ⟨i + 1, hlt, by show kids.length - (i + 1) < kids.length - i; omega, ?_⟩
              rw [hnx]
              exact FgL.mk [0, 1] rfl ⟨Wk.ptr rfl rfl, Wk.slice rfl rfl rfl (Nat.le_refl _) (Nat.le_refl _) rfl, Wk.int rfl, trivial⟩ ⟨⟨rfl, rfl, rfl, rfl, BodyGe.pre (rest := []) rfl rfl⟩, ⟨rfl, rfl, rfl, rfl, BodyGe.pre (rest := []) (by simp [strC]) (strC_refs _)⟩, trivial⟩ rfl
          | cons z o =>
            have hcl := strC_cons z o
            simp only [List.length_cons] at hlo
            cases r with
            | nil =>
              repeat' ((conv => whnf); first | (with_reducible refine exI (q2 _) ?_) | (with_reducible refine ixJ i rfl ?_ ?_; (focus (omega))) | (refine exI hx ?_) | (refine apS ?_) | (first | refine stp ?_ | with_reducible refine condB (fun h => ?_) (fun h => ?_)))
              conv => whnf
              refine ⟨i + 1, hlt, by show kids.length - (i + 1) < kids.length - i; omega, ?_⟩
              rw [hnx, List.append_nil]
              exact FgL.mk [0, 1] rfl ⟨Wk.ptr rfl rfl, Wk.slice rfl rfl rfl (Nat.le_refl _) (Nat.le_refl _) rfl, Wk.int rfl, trivial⟩ ⟨⟨rfl, rfl, rfl, rfl, BodyGe.pre (rest := []) rfl rfl⟩, ⟨rfl, rfl, rfl, rfl, BodyGe.pre (rest := []) (by simp) (strC_refs _)⟩, trivial⟩ rfl
            | cons y r =>
              have hon := strs_one (y :: r)
              simp only [List.length_cons] at hlr
              repeat' ((conv => whnf); first | (with_reducible refine exI (q2 _) ?_) | (with_reducible refine ixJ i rfl ?_ ?_; (focus (omega))) | (refine exI hx ?_) | (refine apS ?_) | (first | refine stp ?_ | with_reducible refine condB (fun h => ?_) (fun h => ?_)))
              conv => whnf
              refine ⟨i + 1, hlt, by show kids.length - (i + 1) < kids.length - i; omega, ?_⟩
              rw [hnx]
              exact FgL.mk [0, 2] rfl ⟨Wk.ptr rfl rfl, Wk.slice rfl rfl (by simp; omega) (Nat.le_refl _) (by simp; omega) rfl, Wk.int rfl, trivial⟩ ⟨⟨rfl, rfl, rfl, rfl, BodyGe.pre (rest := []) rfl rfl⟩, ⟨rfl, rfl, rfl, rfl, BodyGe.pre (rest := []) (by simp [strC]) (strC_refs _)⟩, trivial⟩ rfl
        · have e1 : decide ((i : Int) < (kids.length : Int)) = false := by simpa using hlt
          have hi2 : i = kids.length := by have := hi; omega
          subst hi2
          rw [List.take_length] at hle ⊢
          generalize pre ++ nmL kids = o at *
          cases o with
          | nil =>
            repeat' ((conv => whnf); first | refine stp ?_ | with_reducible refine condB (fun h => ?_) (fun h => ?_))
            all_goals exact .inr ⟨rfl, _, rfl⟩
          | cons z o =>
            repeat' ((conv => whnf); first | refine stp ?_ | with_reducible refine condB (fun h => ?_) (fun h => ?_))
            conv => whnf
            exact ⟨_, frz_slice (b := 1) rfl (strC_cons z o) (strC_lit (z :: o)), .inl rfl⟩
      | false =>
        rw [hs2] at hpre
        simp only [Bool.not_false, Bool.and_true, cond_true] at hpre
        have e2 : (!(name == [])) = true := by rw [hs2]; rfl
        repeat' ((conv => whnf); first | (refine apS ?_) | (first | refine stp ?_ | with_reducible refine condB (fun h => ?_) (fun h => ?_)))
        conv => whnf
        refine ⟨Nat, (fun i => i ≤ kids.length), (fun i => [(1, .ptr 0 0), (3, grA 1 1 (pre ++ nmL (kids.take i))), (4, .int .i64 i)]), (fun i => ⟨true, 0, 0, .cells [.int .i64 op, .int .i64 num, .str name, .rs kids.length 4 (exC kids)] 36⟩ :: grB 1 strC 9 (pre ++ nmL (kids.take i))), (fun i => kids.length - i), ⟨0, Nat.zero_le _, ?_⟩, ?_⟩
        · subst hpre
          exact FgL.mk [0, 2] rfl ⟨Wk.ptr rfl rfl, Wk.slice rfl rfl rfl (Nat.le_refl _) (Nat.le_refl _) rfl, Wk.int rfl, trivial⟩ ⟨⟨rfl, rfl, rfl, rfl, BodyGe.pre (rest := []) rfl rfl⟩, ⟨rfl, rfl, rfl, rfl, BodyGe.pre (rest := []) rfl rfl⟩, trivial⟩ rfl
        intro i hi
        dsimp only
        have hle := nmL_take_len kids i
        by_cases hlt : i < kids.length
        · have e1 : decide ((i : Int) < (kids.length : Int)) = true := by simpa using hlt
          have hx := ex4 kids i hlt
          have hsz := sizeL_mem _ _ (get_mem hlt)
          have hlr := nmE_len kids[i]
          have q2 := q1 kids[i] (by omega) (okL_get hk.2 _ (get_mem hlt)) (by omega)
          have hnx : pre ++ nmL (kids.take (i + 1)) = (pre ++ nmL (kids.take i)) ++ nmE kids[i] := by rw [nmL_take kids i hlt, List.append_assoc]
          have hlo : (pre ++ nmL (kids.take i)).length ≤ 2097152 := by rw [List.length_append]; omega
          generalize pre ++ nmL (kids.take i) = o at *
          generalize hr : nmE kids[i] = r at *
          generalize kids[i] = x at *
          obtain ⟨xo, xn, xs, xk⟩ := x
          simp only [Ex.cells] at hx q2
          cases o with
          | nil =>
            cases r with
            | nil =>
              repeat' ((conv => whnf); first | (with_reducible refine exI (q2 _) ?_) | (with_reducible refine ixJ i rfl ?_ ?_; (focus (omega))) | (refine exI hx ?_) | (refine apS ?_) | (first | refine stp ?_ | with_reducible refine condB (fun h => ?_) (fun h => ?_)))
              conv => whnf
              refine ⟨i + 1, hlt, by show kids.length - (i + 1) < kids.length - i; omega, ?_⟩
              rw [hnx]
              exact FgL.mk [0] rfl ⟨Wk.ptr rfl rfl, Wk.noref rfl, Wk.int rfl, trivial⟩ ⟨⟨rfl, rfl, rfl, rfl, BodyGe.pre (rest := []) rfl rfl⟩, trivial⟩ rfl
            | cons y r =>
              simp only [List.length_cons] at hlr
              repeat' ((conv => whnf); first | (with_reducible refine exI (q2 _) ?_) | (with_reducible refine ixJ i rfl ?_ ?_; (focus (omega))) | (refine exI hx ?_) | (refine apS ?_) | (first | refine stp ?_ | with_reducible refine condB (fun h => ?_) (fun h => ?_)))
              conv => whnf
              refine ⟨i + 1, hlt, by show kids.length - (i + 1) < kids.length - i; omega, ?_⟩
              rw [hnx]
              exact FgL.mk [0, 1] rfl ⟨Wk.ptr rfl rfl, Wk.slice rfl rfl rfl (Nat.le_refl _) (Nat.le_refl _) rfl, Wk.int rfl, trivial⟩ ⟨⟨rfl, rfl, rfl, rfl, BodyGe.pre (rest := []) rfl rfl⟩, ⟨rfl, rfl, rfl, rfl, BodyGe.pre (rest := []) (by simp [strC]) (strC_refs _)⟩, trivial⟩ rfl
          | cons z o =>
            have hcl := strC_cons z o
            simp only [List.length_cons] at hlo
            cases r with
            | nil =>
              repeat' ((conv => whnf); first | (with_reducible refine exI (q2 _) ?_) | (with_reducible refine ixJ i rfl ?_ ?_; (focus (omega))) | (refine exI hx ?_) | (refine apS ?_) | (first | refine stp ?_ | with_reducible refine condB (fun h => ?_) (fun h => ?_)))
              conv => whnf
              refine ⟨i + 1, hlt, by show kids.length - (i + 1) < kids.length - i; omega, ?_⟩
              rw [hnx, List.append_nil]
              exact FgL.mk [0, 1] rfl ⟨Wk.ptr rfl rfl, Wk.slice rfl rfl rfl (Nat.le_refl _) (Nat.le_refl _) rfl, Wk.int rfl, trivial⟩ ⟨⟨rfl, rfl, rfl, rfl, BodyGe.pre (rest := []) rfl rfl⟩, ⟨rfl, rfl, rfl, rfl, BodyGe.pre (rest := []) (by simp) (strC_refs _)⟩, trivial⟩ rfl
            | cons y r =>
              have hon := strs_one (y :: r)
              simp only [List.length_cons] at hlr
              repeat' ((conv => whnf); first | (with_reducible refine exI (q2 _) ?_) | (with_reducible refine ixJ i rfl ?_ ?_; (focus (omega))) | (refine exI hx ?_) | (refine apS ?_) | (first | refine stp ?_ | with_reducible refine condB (fun h => ?_) (fun h => ?_)))
              conv => whnf
              refine ⟨i + 1, hlt, by show kids.length - (i + 1) < kids.length - i; omega, ?_⟩
              rw [hnx]
              exact FgL.mk [0, 2] rfl ⟨Wk.ptr rfl rfl, Wk.slice rfl rfl (by simp; omega) (Nat.le_refl _) (by simp; omega) rfl, Wk.int rfl, trivial⟩ ⟨⟨rfl, rfl, rfl, rfl, BodyGe.pre (rest := []) rfl rfl⟩, ⟨rfl, rfl, rfl, rfl, BodyGe.pre (rest := []) (by simp [strC]) (strC_refs _)⟩, trivial⟩ rfl
        · have e1 : decide ((i : Int) < (kids.length : Int)) = false := by simpa using hlt
          have hi2 : i = kids.length := by have := hi; omega
          subst hi2
          rw [List.take_length] at hle ⊢
          generalize pre ++ nmL kids = o at *
          cases o with
          | nil =>
            repeat' ((conv => whnf); first | refine stp ?_ | with_reducible refine condB (fun h => ?_) (fun h => ?_))
            all_goals exact .inr ⟨rfl, _, rfl⟩
          | cons z o =>
            repeat' ((conv => whnf); first | refine stp ?_ | with_reducible refine condB (fun h => ?_) (fun h => ?_))
            conv => whnf
            exact ⟨_, frz_slice (b := 1) rfl (strC_cons z o) (strC_lit (z :: o)), .inl rfl⟩
end Go.Proofs.YtajhailaofchlaaDoor.lex
end

/-
  Registers of statements: the document's list of them.
-/
section
set_option linter.unusedVariables false
set_option linter.unusedSimpArgs false
namespace Go.Proofs.YtajhailaofchlaaDoor.lex
open Go.Abs Go.RowKit
set_option maxRecDepth 100000
set_option maxHeartbeats 4000000
variable {gl : Glob}
theorem nmSL_take : ∀ (l : List St) (i : Nat) (h : i < l.length), nmSL (l.take (i + 1)) = nmSL (l.take i) ++ nmS l[i]
  | e :: l, 0, h => by simp [nmSL]
  | e :: l, i + 1, h => by
    have := nmSL_take l i (by simpa using h)
    simp only [List.take_succ_cons, nmSL, List.getElem_cons_succ] at this ⊢
    rw [this, List.append_assoc]
theorem sizeSL_take_le : ∀ (l : List St) (i : Nat), sizeSL (l.take i) ≤ sizeSL l
  | [], i => by simp
  | e :: l, 0 => by simp [sizeSL]
  | e :: l, i + 1 => by have := sizeSL_take_le l i; simp only [List.take_succ_cons, sizeSL]; omega
theorem nmSL_take_len (l : List St) (i : Nat) : (nmSL (l.take i)).length ≤ sizeSL l := by
  have h1 := nmSL_len (l.take i)
  have h2 := sizeSL_take_le l i
  omega
theorem nmS_eq (x : St) : nmS x = (cond (!(x.name == [])) [x.name] []) ++ (nmL x.exprs ++ (nmSL x.thn ++ nmSL x.els)) := by
  obtain ⟨k, n, lc, o, x, t, e⟩ := x
  rfl
theorem rsK_nil : rsK [] = .rs 0 1 [] := rfl
theorem rsK_cons (y : List UInt8) (r : List (List UInt8)) : rsK (y :: r) = .rs (r.length + 1) 1 (strC (y :: r)) := rfl
theorem allR_ok : ∀ (n : Nat) (l : List St), sizeSL l ≤ n → okSL l → l.length ≤ 9223372036854775807 → sizeSL l ≤ 1048576 → ValOK Tryd.prog gl 67 [stA l] (rsK (nmSL l))
  | n, l, h, hok, hl, hs => by
    obtain ⟨O, hO, p1, p2, -⟩ := fams (P := Tryd.prog) (gl := gl) [{ I := List St, f := 67, G := fun l => sizeSL l < n ∧ okSL l ∧ l.length ≤ 9223372036854775807 ∧ sizeSL l ≤ 1048576, A := fun l => [stA l], R := fun l => rsK (nmSL l), body := (by kernel_rfl), inj := (fun i j _ _ h => by simp only [List.cons.injEq, and_true] at h; rw [stA_inj h]), ok := (fun l hl => ⟨rfl, match n, hl.1 with | n + 1, h => allR_ok n l (by omega) hl.2.1 hl.2.2.1 hl.2.2.2⟩) },
      { I := Ex, f := 85, G := fun x => okE x ∧ sizeE x ≤ 1048576, A := fun x => [.agg x.cells], R := fun x => rsK (nmE x), body := (by kernel_rfl), inj := (fun i j _ _ h => by rw [agg_inj h]), ok := (fun x hx => ⟨ex_refs x, regsR_ok _ x (Nat.le_refl _) hx.1 hx.2⟩) }] rfl
    have q1 : ∀ l, sizeSL l < n → okSL l → l.length ≤ 9223372036854775807 → sizeSL l ≤ 1048576 → ∀ H, acall Tryd.prog O H 67 [stA l] = some (rsK (nmSL l), H) := fun l h1 h2 h3 h4 => p1 l ⟨h1, h2, h3, h4⟩
    have q2 : ∀ x, okE x → sizeE x ≤ 1048576 → ∀ H, acall Tryd.prog O H 85 [.agg x.cells] = some (rsK (nmE x), H) := fun x h1 h2 => p2 x ⟨h1, h2⟩
    clear p1 p2
    have hT : appT Tryd.prog 46 46 = some (9, 1, 16) := by kernel_rfl
    simp only [stA] at q1 ⊢
    rw [show rsK (nmSL l) = .rs (nmSL l).length 1 (strC (nmSL l)) from rfl]
    refine fn_valN follows noNum hO Tryd.func67 rfl ?_
    repeat' ((conv => whnf); first | refine stp ?_ | with_reducible refine condB (fun h => ?_) (fun h => ?_))
    conv => whnf
    refine ⟨Nat, (fun i => i ≤ l.length), (fun i => [(0, .rs l.length 7 (stC l)), (3, grA 0 1 (nmSL (l.take i))), (4, .int .i64 i)]), (fun i => grB 0 strC 9 (nmSL (l.take i))), (fun i => l.length - i), ⟨0, Nat.zero_le _, ?_⟩, ?_⟩
    · exact FgL.mk [] rfl ⟨Wk.noref rfl, Wk.noref rfl, Wk.int rfl, trivial⟩ trivial rfl
    intro i hi
    dsimp only
    have hle := nmSL_take_len l i
    by_cases hlt : i < l.length
    · have e1 : decide ((i : Int) < (l.length : Int)) = true := by simpa using hlt
      have hsz := sizeSL_mem _ _ (get_mem hlt)
      have hse := sizeS_eq l[i]
      have hx1 : tk 1 (((stC l).drop (i * 7)).drop 1) = some [.str l[i].name] := by rw [stC_at l i hlt]; exact cell_n _ _
      have hx4 : tk 1 (((stC l).drop (i * 7)).drop 4) = some [exA l[i].exprs] := by rw [stC_at l i hlt]; exact cell_x _ _
      have hx5 : tk 1 (((stC l).drop (i * 7)).drop 5) = some [stA l[i].thn] := by rw [stC_at l i hlt]; exact cell_t _ _
      have hx6 : tk 1 (((stC l).drop (i * 7)).drop 6) = some [stA l[i].els] := by rw [stC_at l i hlt]; exact cell_e _ _
      obtain ⟨k1, k2, k3, k4, k5, k6, k7, k8⟩ := okS_parts (okSL_get hok _ (get_mem hlt))
      have qt := q1 l[i].thn (by omega) k7 k4 (by omega)
      have qe := q1 l[i].els (by omega) k8 k5 (by omega)
      have hnt := nmSL_len l[i].thn
      have hne := nmSL_len l[i].els
      have hnx : nmSL (l.take (i + 1)) = ((nmSL (l.take i) ++ cond (!(l[i].name == [])) [l[i].name] []) ++ nmL l[i].exprs) ++ (nmSL l[i].thn ++ nmSL l[i].els) := by
        rw [nmSL_take l i hlt, nmS_eq]; simp only [List.append_assoc]
      clear q1
      generalize nmSL (l.take i) = o at *
      generalize l[i] = x at *
      obtain ⟨kind, name, loc, order, exprs, thn, els⟩ := x
      simp only [St.name, St.exprs, St.thn, St.els, stA, exA] at *
      generalize nmSL thn = nt at *
      generalize nmSL els = ne at *
      obtain ⟨base, hbase⟩ : ∃ b, o ++ cond (!(name == [])) [name] [] = b := ⟨_, rfl⟩
      have hbl : base.length ≤ o.length + 1 := by
        rw [← hbase, List.length_append]
        cases (!(name == [])) <;> simp
      rw [hbase] at hnx
      have hlx := sizeL_len exprs
      have hin : ∀ k (hk : k < exprs.length), nmL (exprs.take (k + 1)) = nmL (exprs.take k) ++ nmE exprs[k] := nmL_take exprs
      have hil := nmL_take_len exprs
      have hnl := nmL_len exprs
      have hfull : nmL (exprs.take exprs.length) = nmL exprs := by rw [List.take_length]
      have hen : (name == []) = true ∨ (name == []) = false := by cases (name == []) <;> simp
      rcases hen with hen | hen
      · rw [hen] at hbase
        simp only [Bool.not_true, cond_false, List.append_nil] at hbase
        have e2 : (!(name == [])) = false := by rw [hen]; rfl
        rcases o with _ | ⟨z, o⟩
        · skip
          repeat' ((conv => whnf); first | (with_reducible refine ixJ i rfl ?_ ?_; (focus (omega))) | (refine exI hx1 ?_) | (refine exI hx4 ?_) | (refine apS ?_) | (first | refine stp ?_ | with_reducible refine condB (fun h => ?_) (fun h => ?_)))
          conv => whnf
          refine ⟨Nat, (fun k => k ≤ exprs.length), (fun k => [(0, .rs l.length 7 (stC l)), (3, grA 0 1 (base ++ nmL (exprs.take k))), (4, .int .i64 i), (5, .int .i64 k)]), (fun k => grB 0 strC 9 (base ++ nmL (exprs.take k))), (fun k => exprs.length - k), ⟨0, Nat.zero_le _, ?_⟩, ?_⟩
          · subst hbase
            simp only [List.take_zero, nmL, List.append_nil]
            exact FgL.mk [] rfl ⟨Wk.noref rfl, Wk.noref rfl, Wk.int rfl, Wk.int rfl, trivial⟩ trivial rfl
          intro k hk
          dsimp only
          have hlk2 := hil k
          by_cases hlk : k < exprs.length
          · have e3 : decide ((k : Int) < (exprs.length : Int)) = true := by simpa using hlk
            have hxk := ex4 exprs k hlk
            have hlr := nmE_len exprs[k]
            have hsk := sizeL_mem _ _ (get_mem hlk)
            have q3 := q2 exprs[k] (okL_get k6 _ (get_mem hlk)) (by omega)
            have hnk : base ++ nmL (exprs.take (k + 1)) = (base ++ nmL (exprs.take k)) ++ nmE exprs[k] := by rw [hin k hlk, List.append_assoc]
            have hlp : (base ++ nmL (exprs.take k)).length ≤ 4194304 := by rw [List.length_append]; omega
            generalize base ++ nmL (exprs.take k) = p at *
            generalize nmE exprs[k] = r at *
            generalize exprs[k] = y at *
            obtain ⟨yo, yn, ys, yk⟩ := y
            simp only [Ex.cells] at hxk q3
            rcases p with _ | ⟨z2, p⟩
            · rcases r with _ | ⟨z3, r⟩
              · simp only [rsK_nil] at q3
                repeat' ((conv => whnf); first | (with_reducible refine exI (q3 _) ?_) | (with_reducible refine ixJ i rfl ?_ ?_; (focus (omega))) | (with_reducible refine ixJ k rfl ?_ ?_; (focus (omega))) | (refine exI hx4 ?_) | (refine exI hxk ?_) | (refine apS ?_) | (first | refine stp ?_ | with_reducible refine condB (fun h => ?_) (fun h => ?_)))
                conv => whnf
                refine ⟨k + 1, hlk, by show exprs.length - (k + 1) < exprs.length - k; omega, ?_⟩
                rw [hnk]
                exact FgL.mk [] rfl ⟨Wk.noref rfl, Wk.noref rfl, Wk.int rfl, Wk.int rfl, trivial⟩ trivial rfl
              · simp only [rsK_cons] at q3
                have hon := strs_one (z3 :: r)
                simp only [List.length_cons] at hlr
                repeat' ((conv => whnf); first | (with_reducible refine exI (q3 _) ?_) | (with_reducible refine ixJ i rfl ?_ ?_; (focus (omega))) | (with_reducible refine ixJ k rfl ?_ ?_; (focus (omega))) | (refine exI hx4 ?_) | (refine exI hxk ?_) | (refine apS ?_) | (first | refine stp ?_ | with_reducible refine condB (fun h => ?_) (fun h => ?_)))
                conv => whnf
                refine ⟨k + 1, hlk, by show exprs.length - (k + 1) < exprs.length - k; omega, ?_⟩
                rw [hnk]
                exact FgL.mk [0] rfl ⟨Wk.noref rfl, Wk.slice rfl rfl (by first | rfl | (simp; done) | (simp; omega)) (Nat.le_refl _) (by first | rfl | (simp; done) | (simp; omega)) rfl, Wk.int rfl, Wk.int rfl, trivial⟩ ⟨⟨rfl, rfl, rfl, rfl, BodyGe.pre (rest := []) (by first | rfl | (simp [strC]; done)) (strC_refs _)⟩, trivial⟩ rfl
            · have hcl := strC_cons z2 p
              simp only [List.length_cons] at hlp
              rcases r with _ | ⟨z3, r⟩
              · simp only [rsK_nil] at q3
                repeat' ((conv => whnf); first | (with_reducible refine exI (q3 _) ?_) | (with_reducible refine ixJ i rfl ?_ ?_; (focus (omega))) | (with_reducible refine ixJ k rfl ?_ ?_; (focus (omega))) | (refine exI hx4 ?_) | (refine exI hxk ?_) | (refine apS ?_) | (first | refine stp ?_ | with_reducible refine condB (fun h => ?_) (fun h => ?_)))
                conv => whnf
                refine ⟨k + 1, hlk, by show exprs.length - (k + 1) < exprs.length - k; omega, ?_⟩
                rw [hnk, List.append_nil]
                exact FgL.mk [0] rfl ⟨Wk.noref rfl, Wk.slice rfl rfl (by first | rfl | (simp; done) | (simp; omega)) (Nat.le_refl _) (by first | rfl | (simp; done) | (simp; omega)) rfl, Wk.int rfl, Wk.int rfl, trivial⟩ ⟨⟨rfl, rfl, rfl, rfl, BodyGe.pre (rest := []) (by first | rfl | (simp [strC]; done)) (strC_refs _)⟩, trivial⟩ rfl
              · simp only [rsK_cons] at q3
                have hon := strs_one (z3 :: r)
                simp only [List.length_cons] at hlr
                repeat' ((conv => whnf); first | (with_reducible refine exI (q3 _) ?_) | (with_reducible refine ixJ i rfl ?_ ?_; (focus (omega))) | (with_reducible refine ixJ k rfl ?_ ?_; (focus (omega))) | (refine exI hx4 ?_) | (refine exI hxk ?_) | (refine apS ?_) | (first | refine stp ?_ | with_reducible refine condB (fun h => ?_) (fun h => ?_)))
                conv => whnf
                refine ⟨k + 1, hlk, by show exprs.length - (k + 1) < exprs.length - k; omega, ?_⟩
                rw [hnk]
                exact FgL.mk [1] rfl ⟨Wk.noref rfl, Wk.slice rfl rfl (by first | rfl | (simp; done) | (simp; omega)) (Nat.le_refl _) (by first | rfl | (simp; done) | (simp; omega)) rfl, Wk.int rfl, Wk.int rfl, trivial⟩ ⟨⟨rfl, rfl, rfl, rfl, BodyGe.pre (rest := []) (by first | rfl | (simp [strC]; done)) (strC_refs _)⟩, trivial⟩ rfl
          · have e3 : decide ((k : Int) < (exprs.length : Int)) = false := by simpa using hlk
            have hk2 : k = exprs.length := by have := hk; omega
            subst hk2
            rw [hfull] at hlk2 ⊢
            have hlp : (base ++ nmL exprs).length ≤ 4194304 := by rw [List.length_append]; omega
            generalize base ++ nmL exprs = p at *
            have hnn := strs_one nt
            have hne2 := strs_one ne
            rcases p with _ | ⟨z2, p⟩
            · skip
              rcases nt with _ | ⟨z3, nt⟩
              · simp only [rsK_nil] at qt
                rcases ne with _ | ⟨z4, ne⟩
                · simp only [rsK_nil] at qe
                  repeat' ((conv => whnf); first | (with_reducible refine exI (qt _) ?_) | (with_reducible refine exI (qe _) ?_) | (with_reducible refine ixJ i rfl ?_ ?_; (focus (omega))) | (refine exI hx4 ?_) | (refine exI hx5 ?_) | (refine exI hx6 ?_) | (refine apS ?_) | (first | refine stp ?_ | with_reducible refine condB (fun h => ?_) (fun h => ?_)))
                  conv => whnf
                  refine ⟨i + 1, hlt, by show l.length - (i + 1) < l.length - i; omega, ?_⟩
                  rw [hnx]
                  simp only [List.append_nil]
                  exact FgL.mk [] rfl ⟨Wk.noref rfl, Wk.noref rfl, Wk.int rfl, trivial⟩ trivial rfl
                · simp only [rsK_cons] at qe
                  simp only [List.length_cons] at hne
                  repeat' ((conv => whnf); first | (with_reducible refine exI (qt _) ?_) | (with_reducible refine exI (qe _) ?_) | (with_reducible refine ixJ i rfl ?_ ?_; (focus (omega))) | (refine exI hx4 ?_) | (refine exI hx5 ?_) | (refine exI hx6 ?_) | (refine apS ?_) | (first | refine stp ?_ | with_reducible refine condB (fun h => ?_) (fun h => ?_)))
                  conv => whnf
                  refine ⟨i + 1, hlt, by show l.length - (i + 1) < l.length - i; omega, ?_⟩
                  rw [hnx]
                  simp only [List.nil_append]
                  exact FgL.mk [0] rfl ⟨Wk.noref rfl, Wk.slice rfl rfl (by first | rfl | (simp; done) | (simp; omega)) (Nat.le_refl _) (by first | rfl | (simp; done) | (simp; omega)) rfl, Wk.int rfl, trivial⟩ ⟨⟨rfl, rfl, rfl, rfl, BodyGe.pre (rest := []) (by first | rfl | (simp [strC]; done)) (strC_refs _)⟩, trivial⟩ rfl
              · simp only [rsK_cons] at qt
                simp only [List.length_cons] at hnt
                have hcl2 := strC_cons z3 nt
                rcases ne with _ | ⟨z4, ne⟩
                · simp only [rsK_nil] at qe
                  repeat' ((conv => whnf); first | (with_reducible refine exI (qt _) ?_) | (with_reducible refine exI (qe _) ?_) | (with_reducible refine ixJ i rfl ?_ ?_; (focus (omega))) | (refine exI hx4 ?_) | (refine exI hx5 ?_) | (refine exI hx6 ?_) | (refine apS ?_) | (first | refine stp ?_ | with_reducible refine condB (fun h => ?_) (fun h => ?_)))
                  conv => whnf
                  refine ⟨i + 1, hlt, by show l.length - (i + 1) < l.length - i; omega, ?_⟩
                  rw [hnx]
                  simp only [List.append_nil, List.nil_append]
                  exact FgL.mk [0] rfl ⟨Wk.noref rfl, Wk.slice rfl rfl (by first | rfl | (simp; done) | (simp; omega)) (Nat.le_refl _) (by first | rfl | (simp; done) | (simp; omega)) rfl, Wk.int rfl, trivial⟩ ⟨⟨rfl, rfl, rfl, rfl, BodyGe.pre (rest := []) (by first | rfl | (simp [strC]; done)) (strC_refs _)⟩, trivial⟩ rfl
                · simp only [rsK_cons] at qe
                  simp only [List.length_cons] at hne
                  repeat' ((conv => whnf); first | (with_reducible refine exI (qt _) ?_) | (with_reducible refine exI (qe _) ?_) | (with_reducible refine ixJ i rfl ?_ ?_; (focus (omega))) | (refine exI hx4 ?_) | (refine exI hx5 ?_) | (refine exI hx6 ?_) | (refine apS ?_) | (first | refine stp ?_ | with_reducible refine condB (fun h => ?_) (fun h => ?_)))
                  conv => whnf
                  refine ⟨i + 1, hlt, by show l.length - (i + 1) < l.length - i; omega, ?_⟩
                  rw [hnx]
                  simp only [List.nil_append]
                  exact FgL.mk [1] rfl ⟨Wk.noref rfl, Wk.slice rfl rfl (by first | rfl | (simp; done) | (simp; omega)) (Nat.le_refl _) (by first | rfl | (simp; done) | (simp; omega)) rfl, Wk.int rfl, trivial⟩ ⟨⟨rfl, rfl, rfl, rfl, BodyGe.pre (rest := []) (by first | rfl | (simp [strC]; done)) (strC_refs _)⟩, trivial⟩ rfl
            · have hcl := strC_cons z2 p
              simp only [List.length_cons] at hlp
              rcases nt with _ | ⟨z3, nt⟩
              · simp only [rsK_nil] at qt
                rcases ne with _ | ⟨z4, ne⟩
                · simp only [rsK_nil] at qe
                  repeat' ((conv => whnf); first | (with_reducible refine exI (qt _) ?_) | (with_reducible refine exI (qe _) ?_) | (with_reducible refine ixJ i rfl ?_ ?_; (focus (omega))) | (refine exI hx4 ?_) | (refine exI hx5 ?_) | (refine exI hx6 ?_) | (refine apS ?_) | (first | refine stp ?_ | with_reducible refine condB (fun h => ?_) (fun h => ?_)))
                  conv => whnf
                  refine ⟨i + 1, hlt, by show l.length - (i + 1) < l.length - i; omega, ?_⟩
                  rw [hnx]
                  simp only [List.append_nil, List.nil_append]
                  exact FgL.mk [0] rfl ⟨Wk.noref rfl, Wk.slice rfl rfl (by first | rfl | (simp; done) | (simp; omega)) (Nat.le_refl _) (by first | rfl | (simp; done) | (simp; omega)) rfl, Wk.int rfl, trivial⟩ ⟨⟨rfl, rfl, rfl, rfl, BodyGe.pre (rest := []) (by first | rfl | (simp [strC]; done)) (strC_refs _)⟩, trivial⟩ rfl
                · simp only [rsK_cons] at qe
                  simp only [List.length_cons] at hne
                  repeat' ((conv => whnf); first | (with_reducible refine exI (qt _) ?_) | (with_reducible refine exI (qe _) ?_) | (with_reducible refine ixJ i rfl ?_ ?_; (focus (omega))) | (refine exI hx4 ?_) | (refine exI hx5 ?_) | (refine exI hx6 ?_) | (refine apS ?_) | (first | refine stp ?_ | with_reducible refine condB (fun h => ?_) (fun h => ?_)))
                  conv => whnf
                  refine ⟨i + 1, hlt, by show l.length - (i + 1) < l.length - i; omega, ?_⟩
                  rw [hnx]
                  simp only [List.nil_append]
                  exact FgL.mk [1] rfl ⟨Wk.noref rfl, Wk.slice rfl rfl (by first | rfl | (simp; done) | (simp; omega)) (Nat.le_refl _) (by first | rfl | (simp; done) | (simp; omega)) rfl, Wk.int rfl, trivial⟩ ⟨⟨rfl, rfl, rfl, rfl, BodyGe.pre (rest := []) (by first | rfl | (simp [strC]; done)) (strC_refs _)⟩, trivial⟩ rfl
              · simp only [rsK_cons] at qt
                simp only [List.length_cons] at hnt
                have hcl2 : (strC (z2 :: p) ++ strC (z3 :: nt)).length = (p.length + 1 + (nt.length + 1)) * 1 := by simp [strC]; omega
                rcases ne with _ | ⟨z4, ne⟩
                · simp only [rsK_nil] at qe
                  repeat' ((conv => whnf); first | (with_reducible refine exI (qt _) ?_) | (with_reducible refine exI (qe _) ?_) | (with_reducible refine ixJ i rfl ?_ ?_; (focus (omega))) | (refine exI hx4 ?_) | (refine exI hx5 ?_) | (refine exI hx6 ?_) | (refine apS ?_) | (first | refine stp ?_ | with_reducible refine condB (fun h => ?_) (fun h => ?_)))
                  conv => whnf
                  refine ⟨i + 1, hlt, by show l.length - (i + 1) < l.length - i; omega, ?_⟩
                  rw [hnx]
                  simp only [List.append_nil, List.nil_append]
                  exact FgL.mk [1] rfl ⟨Wk.noref rfl, Wk.slice rfl rfl (by first | rfl | (simp; done) | (simp; omega)) (Nat.le_refl _) (by first | rfl | (simp; done) | (simp; omega)) rfl, Wk.int rfl, trivial⟩ ⟨⟨rfl, rfl, rfl, rfl, BodyGe.pre (rest := []) (by first | rfl | (simp [strC]; done)) (strC_refs _)⟩, trivial⟩ rfl
                · simp only [rsK_cons] at qe
                  simp only [List.length_cons] at hne
                  repeat' ((conv => whnf); first | (with_reducible refine exI (qt _) ?_) | (with_reducible refine exI (qe _) ?_) | (with_reducible refine ixJ i rfl ?_ ?_; (focus (omega))) | (refine exI hx4 ?_) | (refine exI hx5 ?_) | (refine exI hx6 ?_) | (refine apS ?_) | (first | refine stp ?_ | with_reducible refine condB (fun h => ?_) (fun h => ?_)))
                  conv => whnf
                  refine ⟨i + 1, hlt, by show l.length - (i + 1) < l.length - i; omega, ?_⟩
                  rw [hnx]
                  exact FgL.mk [2] rfl ⟨Wk.noref rfl, Wk.slice rfl rfl (by first | rfl | (simp; done) | (simp; omega)) (Nat.le_refl _) (by first | rfl | (simp; done) | (simp; omega)) rfl, Wk.int rfl, trivial⟩ ⟨⟨rfl, rfl, rfl, rfl, BodyGe.pre (rest := []) (by first | rfl | (simp [strC]; done)) (strC_refs _)⟩, trivial⟩ rfl
        · have hclo := strC_cons z o
          have hlo := hle
          simp only [List.length_cons] at hlo
          repeat' ((conv => whnf); first | (with_reducible refine ixJ i rfl ?_ ?_; (focus (omega))) | (refine exI hx1 ?_) | (refine exI hx4 ?_) | (refine apS ?_) | (first | refine stp ?_ | with_reducible refine condB (fun h => ?_) (fun h => ?_)))
          conv => whnf
          refine ⟨Nat, (fun k => k ≤ exprs.length), (fun k => [(0, .rs l.length 7 (stC l)), (3, grA 0 1 (base ++ nmL (exprs.take k))), (4, .int .i64 i), (5, .int .i64 k)]), (fun k => grB 0 strC 9 (base ++ nmL (exprs.take k))), (fun k => exprs.length - k), ⟨0, Nat.zero_le _, ?_⟩, ?_⟩
          · subst hbase
            simp only [List.take_zero, nmL, List.append_nil]
            exact FgL.mk [0] rfl ⟨Wk.noref rfl, Wk.slice rfl rfl (by first | rfl | (simp; done) | (simp; omega)) (Nat.le_refl _) (by first | rfl | (simp; done) | (simp; omega)) rfl, Wk.int rfl, Wk.int rfl, trivial⟩ ⟨⟨rfl, rfl, rfl, rfl, BodyGe.pre (rest := []) (by first | rfl | (simp [strC]; done)) (strC_refs _)⟩, trivial⟩ rfl
          intro k hk
          dsimp only
          have hlk2 := hil k
          by_cases hlk : k < exprs.length
          · have e3 : decide ((k : Int) < (exprs.length : Int)) = true := by simpa using hlk
            have hxk := ex4 exprs k hlk
            have hlr := nmE_len exprs[k]
            have hsk := sizeL_mem _ _ (get_mem hlk)
            have q3 := q2 exprs[k] (okL_get k6 _ (get_mem hlk)) (by omega)
            have hnk : base ++ nmL (exprs.take (k + 1)) = (base ++ nmL (exprs.take k)) ++ nmE exprs[k] := by rw [hin k hlk, List.append_assoc]
            have hlp : (base ++ nmL (exprs.take k)).length ≤ 4194304 := by rw [List.length_append]; omega
            generalize base ++ nmL (exprs.take k) = p at *
            generalize nmE exprs[k] = r at *
            generalize exprs[k] = y at *
            obtain ⟨yo, yn, ys, yk⟩ := y
            simp only [Ex.cells] at hxk q3
            rcases p with _ | ⟨z2, p⟩
            · rcases r with _ | ⟨z3, r⟩
              · simp only [rsK_nil] at q3
                repeat' ((conv => whnf); first | (with_reducible refine exI (q3 _) ?_) | (with_reducible refine ixJ i rfl ?_ ?_; (focus (omega))) | (with_reducible refine ixJ k rfl ?_ ?_; (focus (omega))) | (refine exI hx4 ?_) | (refine exI hxk ?_) | (refine apS ?_) | (first | refine stp ?_ | with_reducible refine condB (fun h => ?_) (fun h => ?_)))
                conv => whnf
                refine ⟨k + 1, hlk, by show exprs.length - (k + 1) < exprs.length - k; omega, ?_⟩
                rw [hnk]
                exact FgL.mk [] rfl ⟨Wk.noref rfl, Wk.noref rfl, Wk.int rfl, Wk.int rfl, trivial⟩ trivial rfl
              · simp only [rsK_cons] at q3
                have hon := strs_one (z3 :: r)
                simp only [List.length_cons] at hlr
                repeat' ((conv => whnf); first | (with_reducible refine exI (q3 _) ?_) | (with_reducible refine ixJ i rfl ?_ ?_; (focus (omega))) | (with_reducible refine ixJ k rfl ?_ ?_; (focus (omega))) | (refine exI hx4 ?_) | (refine exI hxk ?_) | (refine apS ?_) | (first | refine stp ?_ | with_reducible refine condB (fun h => ?_) (fun h => ?_)))
                conv => whnf
                refine ⟨k + 1, hlk, by show exprs.length - (k + 1) < exprs.length - k; omega, ?_⟩
                rw [hnk]
                exact FgL.mk [0] rfl ⟨Wk.noref rfl, Wk.slice rfl rfl (by first | rfl | (simp; done) | (simp; omega)) (Nat.le_refl _) (by first | rfl | (simp; done) | (simp; omega)) rfl, Wk.int rfl, Wk.int rfl, trivial⟩ ⟨⟨rfl, rfl, rfl, rfl, BodyGe.pre (rest := []) (by first | rfl | (simp [strC]; done)) (strC_refs _)⟩, trivial⟩ rfl
            · have hcl := strC_cons z2 p
              simp only [List.length_cons] at hlp
              rcases r with _ | ⟨z3, r⟩
              · simp only [rsK_nil] at q3
                repeat' ((conv => whnf); first | (with_reducible refine exI (q3 _) ?_) | (with_reducible refine ixJ i rfl ?_ ?_; (focus (omega))) | (with_reducible refine ixJ k rfl ?_ ?_; (focus (omega))) | (refine exI hx4 ?_) | (refine exI hxk ?_) | (refine apS ?_) | (first | refine stp ?_ | with_reducible refine condB (fun h => ?_) (fun h => ?_)))
                conv => whnf
                refine ⟨k + 1, hlk, by show exprs.length - (k + 1) < exprs.length - k; omega, ?_⟩
                rw [hnk, List.append_nil]
                exact FgL.mk [0] rfl ⟨Wk.noref rfl, Wk.slice rfl rfl (by first | rfl | (simp; done) | (simp; omega)) (Nat.le_refl _) (by first | rfl | (simp; done) | (simp; omega)) rfl, Wk.int rfl, Wk.int rfl, trivial⟩ ⟨⟨rfl, rfl, rfl, rfl, BodyGe.pre (rest := []) (by first | rfl | (simp [strC]; done)) (strC_refs _)⟩, trivial⟩ rfl
              · simp only [rsK_cons] at q3
                have hon := strs_one (z3 :: r)
                simp only [List.length_cons] at hlr
                repeat' ((conv => whnf); first | (with_reducible refine exI (q3 _) ?_) | (with_reducible refine ixJ i rfl ?_ ?_; (focus (omega))) | (with_reducible refine ixJ k rfl ?_ ?_; (focus (omega))) | (refine exI hx4 ?_) | (refine exI hxk ?_) | (refine apS ?_) | (first | refine stp ?_ | with_reducible refine condB (fun h => ?_) (fun h => ?_)))
                conv => whnf
                refine ⟨k + 1, hlk, by show exprs.length - (k + 1) < exprs.length - k; omega, ?_⟩
                rw [hnk]
                exact FgL.mk [1] rfl ⟨Wk.noref rfl, Wk.slice rfl rfl (by first | rfl | (simp; done) | (simp; omega)) (Nat.le_refl _) (by first | rfl | (simp; done) | (simp; omega)) rfl, Wk.int rfl, Wk.int rfl, trivial⟩ ⟨⟨rfl, rfl, rfl, rfl, BodyGe.pre (rest := []) (by first | rfl | (simp [strC]; done)) (strC_refs _)⟩, trivial⟩ rfl
          · have e3 : decide ((k : Int) < (exprs.length : Int)) = false := by simpa using hlk
            have hk2 : k = exprs.length := by have := hk; omega
            subst hk2
            rw [hfull] at hlk2 ⊢
            have hlp : (base ++ nmL exprs).length ≤ 4194304 := by rw [List.length_append]; omega
            generalize base ++ nmL exprs = p at *
            have hnn := strs_one nt
            have hne2 := strs_one ne
            rcases p with _ | ⟨z2, p⟩
            · skip
              rcases nt with _ | ⟨z3, nt⟩
              · simp only [rsK_nil] at qt
                rcases ne with _ | ⟨z4, ne⟩
                · simp only [rsK_nil] at qe
                  repeat' ((conv => whnf); first | (with_reducible refine exI (qt _) ?_) | (with_reducible refine exI (qe _) ?_) | (with_reducible refine ixJ i rfl ?_ ?_; (focus (omega))) | (refine exI hx4 ?_) | (refine exI hx5 ?_) | (refine exI hx6 ?_) | (refine apS ?_) | (first | refine stp ?_ | with_reducible refine condB (fun h => ?_) (fun h => ?_)))
                  conv => whnf
                  refine ⟨i + 1, hlt, by show l.length - (i + 1) < l.length - i; omega, ?_⟩
                  rw [hnx]
                  simp only [List.append_nil]
                  exact FgL.mk [] rfl ⟨Wk.noref rfl, Wk.noref rfl, Wk.int rfl, trivial⟩ trivial rfl
                · simp only [rsK_cons] at qe
                  simp only [List.length_cons] at hne
                  repeat' ((conv => whnf); first | (with_reducible refine exI (qt _) ?_) | (with_reducible refine exI (qe _) ?_) | (with_reducible refine ixJ i rfl ?_ ?_; (focus (omega))) | (refine exI hx4 ?_) | (refine exI hx5 ?_) | (refine exI hx6 ?_) | (refine apS ?_) | (first | refine stp ?_ | with_reducible refine condB (fun h => ?_) (fun h => ?_)))
                  conv => whnf
                  refine ⟨i + 1, hlt, by show l.length - (i + 1) < l.length - i; omega, ?_⟩
                  rw [hnx]
                  simp only [List.nil_append]
                  exact FgL.mk [0] rfl ⟨Wk.noref rfl, Wk.slice rfl rfl (by first | rfl | (simp; done) | (simp; omega)) (Nat.le_refl _) (by first | rfl | (simp; done) | (simp; omega)) rfl, Wk.int rfl, trivial⟩ ⟨⟨rfl, rfl, rfl, rfl, BodyGe.pre (rest := []) (by first | rfl | (simp [strC]; done)) (strC_refs _)⟩, trivial⟩ rfl
              · simp only [rsK_cons] at qt
                simp only [List.length_cons] at hnt
                have hcl2 := strC_cons z3 nt
                rcases ne with _ | ⟨z4, ne⟩
                · simp only [rsK_nil] at qe
                  repeat' ((conv => whnf); first | (with_reducible refine exI (qt _) ?_) | (with_reducible refine exI (qe _) ?_) | (with_reducible refine ixJ i rfl ?_ ?_; (focus (omega))) | (refine exI hx4 ?_) | (refine exI hx5 ?_) | (refine exI hx6 ?_) | (refine apS ?_) | (first | refine stp ?_ | with_reducible refine condB (fun h => ?_) (fun h => ?_)))
                  conv => whnf
                  refine ⟨i + 1, hlt, by show l.length - (i + 1) < l.length - i; omega, ?_⟩
                  rw [hnx]
                  simp only [List.append_nil, List.nil_append]
                  exact FgL.mk [0] rfl ⟨Wk.noref rfl, Wk.slice rfl rfl (by first | rfl | (simp; done) | (simp; omega)) (Nat.le_refl _) (by first | rfl | (simp; done) | (simp; omega)) rfl, Wk.int rfl, trivial⟩ ⟨⟨rfl, rfl, rfl, rfl, BodyGe.pre (rest := []) (by first | rfl | (simp [strC]; done)) (strC_refs _)⟩, trivial⟩ rfl
                · simp only [rsK_cons] at qe
                  simp only [List.length_cons] at hne
                  repeat' ((conv => whnf); first | (with_reducible refine exI (qt _) ?_) | (with_reducible refine exI (qe _) ?_) | (with_reducible refine ixJ i rfl ?_ ?_; (focus (omega))) | (refine exI hx4 ?_) | (refine exI hx5 ?_) | (refine exI hx6 ?_) | (refine apS ?_) | (first | refine stp ?_ | with_reducible refine condB (fun h => ?_) (fun h => ?_)))
                  conv => whnf
                  refine ⟨i + 1, hlt, by show l.length - (i + 1) < l.length - i; omega, ?_⟩
                  rw [hnx]
                  simp only [List.nil_append]
                  exact FgL.mk [1] rfl ⟨Wk.noref rfl, Wk.slice rfl rfl (by first | rfl | (simp; done) | (simp; omega)) (Nat.le_refl _) (by first | rfl | (simp; done) | (simp; omega)) rfl, Wk.int rfl, trivial⟩ ⟨⟨rfl, rfl, rfl, rfl, BodyGe.pre (rest := []) (by first | rfl | (simp [strC]; done)) (strC_refs _)⟩, trivial⟩ rfl
            · have hcl := strC_cons z2 p
              simp only [List.length_cons] at hlp
              rcases nt with _ | ⟨z3, nt⟩
              · simp only [rsK_nil] at qt
                rcases ne with _ | ⟨z4, ne⟩
                · simp only [rsK_nil] at qe
                  repeat' ((conv => whnf); first | (with_reducible refine exI (qt _) ?_) | (with_reducible refine exI (qe _) ?_) | (with_reducible refine ixJ i rfl ?_ ?_; (focus (omega))) | (refine exI hx4 ?_) | (refine exI hx5 ?_) | (refine exI hx6 ?_) | (refine apS ?_) | (first | refine stp ?_ | with_reducible refine condB (fun h => ?_) (fun h => ?_)))
                  conv => whnf
                  refine ⟨i + 1, hlt, by show l.length - (i + 1) < l.length - i; omega, ?_⟩
                  rw [hnx]
                  simp only [List.append_nil, List.nil_append]
                  exact FgL.mk [0] rfl ⟨Wk.noref rfl, Wk.slice rfl rfl (by first | rfl | (simp; done) | (simp; omega)) (Nat.le_refl _) (by first | rfl | (simp; done) | (simp; omega)) rfl, Wk.int rfl, trivial⟩ ⟨⟨rfl, rfl, rfl, rfl, BodyGe.pre (rest := []) (by first | rfl | (simp [strC]; done)) (strC_refs _)⟩, trivial⟩ rfl
                · simp only [rsK_cons] at qe
                  simp only [List.length_cons] at hne
                  repeat' ((conv => whnf); first | (with_reducible refine exI (qt _) ?_) | (with_reducible refine exI (qe _) ?_) | (with_reducible refine ixJ i rfl ?_ ?_; (focus (omega))) | (refine exI hx4 ?_) | (refine exI hx5 ?_) | (refine exI hx6 ?_) | (refine apS ?_) | (first | refine stp ?_ | with_reducible refine condB (fun h => ?_) (fun h => ?_)))
                  conv => whnf
                  refine ⟨i + 1, hlt, by show l.length - (i + 1) < l.length - i; omega, ?_⟩
                  rw [hnx]
                  simp only [List.nil_append]
                  exact FgL.mk [1] rfl ⟨Wk.noref rfl, Wk.slice rfl rfl (by first | rfl | (simp; done) | (simp; omega)) (Nat.le_refl _) (by first | rfl | (simp; done) | (simp; omega)) rfl, Wk.int rfl, trivial⟩ ⟨⟨rfl, rfl, rfl, rfl, BodyGe.pre (rest := []) (by first | rfl | (simp [strC]; done)) (strC_refs _)⟩, trivial⟩ rfl
              · simp only [rsK_cons] at qt
                simp only [List.length_cons] at hnt
                have hcl2 : (strC (z2 :: p) ++ strC (z3 :: nt)).length = (p.length + 1 + (nt.length + 1)) * 1 := by simp [strC]; omega
                rcases ne with _ | ⟨z4, ne⟩
                · simp only [rsK_nil] at qe
                  repeat' ((conv => whnf); first | (with_reducible refine exI (qt _) ?_) | (with_reducible refine exI (qe _) ?_) | (with_reducible refine ixJ i rfl ?_ ?_; (focus (omega))) | (refine exI hx4 ?_) | (refine exI hx5 ?_) | (refine exI hx6 ?_) | (refine apS ?_) | (first | refine stp ?_ | with_reducible refine condB (fun h => ?_) (fun h => ?_)))
                  conv => whnf
                  refine ⟨i + 1, hlt, by show l.length - (i + 1) < l.length - i; omega, ?_⟩
                  rw [hnx]
                  simp only [List.append_nil, List.nil_append]
                  exact FgL.mk [1] rfl ⟨Wk.noref rfl, Wk.slice rfl rfl (by first | rfl | (simp; done) | (simp; omega)) (Nat.le_refl _) (by first | rfl | (simp; done) | (simp; omega)) rfl, Wk.int rfl, trivial⟩ ⟨⟨rfl, rfl, rfl, rfl, BodyGe.pre (rest := []) (by first | rfl | (simp [strC]; done)) (strC_refs _)⟩, trivial⟩ rfl
                · simp only [rsK_cons] at qe
                  simp only [List.length_cons] at hne
                  repeat' ((conv => whnf); first | (with_reducible refine exI (qt _) ?_) | (with_reducible refine exI (qe _) ?_) | (with_reducible refine ixJ i rfl ?_ ?_; (focus (omega))) | (refine exI hx4 ?_) | (refine exI hx5 ?_) | (refine exI hx6 ?_) | (refine apS ?_) | (first | refine stp ?_ | with_reducible refine condB (fun h => ?_) (fun h => ?_)))
                  conv => whnf
                  refine ⟨i + 1, hlt, by show l.length - (i + 1) < l.length - i; omega, ?_⟩
                  rw [hnx]
                  exact FgL.mk [2] rfl ⟨Wk.noref rfl, Wk.slice rfl rfl (by first | rfl | (simp; done) | (simp; omega)) (Nat.le_refl _) (by first | rfl | (simp; done) | (simp; omega)) rfl, Wk.int rfl, trivial⟩ ⟨⟨rfl, rfl, rfl, rfl, BodyGe.pre (rest := []) (by first | rfl | (simp [strC]; done)) (strC_refs _)⟩, trivial⟩ rfl
      · rw [hen] at hbase
        simp only [Bool.not_false, cond_true] at hbase
        have e2 : (!(name == [])) = true := by rw [hen]; rfl
        rcases o with _ | ⟨z, o⟩
        · skip
          repeat' ((conv => whnf); first | (with_reducible refine ixJ i rfl ?_ ?_; (focus (omega))) | (refine exI hx1 ?_) | (refine exI hx4 ?_) | (refine apS ?_) | (first | refine stp ?_ | with_reducible refine condB (fun h => ?_) (fun h => ?_)))
          conv => whnf
          refine ⟨Nat, (fun k => k ≤ exprs.length), (fun k => [(0, .rs l.length 7 (stC l)), (3, grA 0 1 (base ++ nmL (exprs.take k))), (4, .int .i64 i), (5, .int .i64 k)]), (fun k => grB 0 strC 9 (base ++ nmL (exprs.take k))), (fun k => exprs.length - k), ⟨0, Nat.zero_le _, ?_⟩, ?_⟩
          · subst hbase
            simp only [List.take_zero, nmL, List.append_nil]
            exact FgL.mk [1] rfl ⟨Wk.noref rfl, Wk.slice rfl rfl (by first | rfl | (simp; done) | (simp; omega)) (Nat.le_refl _) (by first | rfl | (simp; done) | (simp; omega)) rfl, Wk.int rfl, Wk.int rfl, trivial⟩ ⟨⟨rfl, rfl, rfl, rfl, BodyGe.pre (rest := []) (by first | rfl | (simp [strC]; done)) (strC_refs _)⟩, trivial⟩ rfl
          intro k hk
          dsimp only
          have hlk2 := hil k
          by_cases hlk : k < exprs.length
          · have e3 : decide ((k : Int) < (exprs.length : Int)) = true := by simpa using hlk
            have hxk := ex4 exprs k hlk
            have hlr := nmE_len exprs[k]
            have hsk := sizeL_mem _ _ (get_mem hlk)
            have q3 := q2 exprs[k] (okL_get k6 _ (get_mem hlk)) (by omega)
            have hnk : base ++ nmL (exprs.take (k + 1)) = (base ++ nmL (exprs.take k)) ++ nmE exprs[k] := by rw [hin k hlk, List.append_assoc]
            have hlp : (base ++ nmL (exprs.take k)).length ≤ 4194304 := by rw [List.length_append]; omega
            generalize base ++ nmL (exprs.take k) = p at *
            generalize nmE exprs[k] = r at *
            generalize exprs[k] = y at *
            obtain ⟨yo, yn, ys, yk⟩ := y
            simp only [Ex.cells] at hxk q3
            rcases p with _ | ⟨z2, p⟩
            · rcases r with _ | ⟨z3, r⟩
              · simp only [rsK_nil] at q3
                repeat' ((conv => whnf); first | (with_reducible refine exI (q3 _) ?_) | (with_reducible refine ixJ i rfl ?_ ?_; (focus (omega))) | (with_reducible refine ixJ k rfl ?_ ?_; (focus (omega))) | (refine exI hx4 ?_) | (refine exI hxk ?_) | (refine apS ?_) | (first | refine stp ?_ | with_reducible refine condB (fun h => ?_) (fun h => ?_)))
                conv => whnf
                refine ⟨k + 1, hlk, by show exprs.length - (k + 1) < exprs.length - k; omega, ?_⟩
                rw [hnk]
                exact FgL.mk [] rfl ⟨Wk.noref rfl, Wk.noref rfl, Wk.int rfl, Wk.int rfl, trivial⟩ trivial rfl
              · simp only [rsK_cons] at q3
                have hon := strs_one (z3 :: r)
                simp only [List.length_cons] at hlr
                repeat' ((conv => whnf); first | (with_reducible refine exI (q3 _) ?_) | (with_reducible refine ixJ i rfl ?_ ?_; (focus (omega))) | (with_reducible refine ixJ k rfl ?_ ?_; (focus (omega))) | (refine exI hx4 ?_) | (refine exI hxk ?_) | (refine apS ?_) | (first | refine stp ?_ | with_reducible refine condB (fun h => ?_) (fun h => ?_)))
                conv => whnf
                refine ⟨k + 1, hlk, by show exprs.length - (k + 1) < exprs.length - k; omega, ?_⟩
                rw [hnk]
                exact FgL.mk [0] rfl ⟨Wk.noref rfl, Wk.slice rfl rfl (by first | rfl | (simp; done) | (simp; omega)) (Nat.le_refl _) (by first | rfl | (simp; done) | (simp; omega)) rfl, Wk.int rfl, Wk.int rfl, trivial⟩ ⟨⟨rfl, rfl, rfl, rfl, BodyGe.pre (rest := []) (by first | rfl | (simp [strC]; done)) (strC_refs _)⟩, trivial⟩ rfl
            · have hcl := strC_cons z2 p
              simp only [List.length_cons] at hlp
              rcases r with _ | ⟨z3, r⟩
              · simp only [rsK_nil] at q3
                repeat' ((conv => whnf); first | (with_reducible refine exI (q3 _) ?_) | (with_reducible refine ixJ i rfl ?_ ?_; (focus (omega))) | (with_reducible refine ixJ k rfl ?_ ?_; (focus (omega))) | (refine exI hx4 ?_) | (refine exI hxk ?_) | (refine apS ?_) | (first | refine stp ?_ | with_reducible refine condB (fun h => ?_) (fun h => ?_)))
                conv => whnf
                refine ⟨k + 1, hlk, by show exprs.length - (k + 1) < exprs.length - k; omega, ?_⟩
                rw [hnk, List.append_nil]
                exact FgL.mk [0] rfl ⟨Wk.noref rfl, Wk.slice rfl rfl (by first | rfl | (simp; done) | (simp; omega)) (Nat.le_refl _) (by first | rfl | (simp; done) | (simp; omega)) rfl, Wk.int rfl, Wk.int rfl, trivial⟩ ⟨⟨rfl, rfl, rfl, rfl, BodyGe.pre (rest := []) (by first | rfl | (simp [strC]; done)) (strC_refs _)⟩, trivial⟩ rfl
              · simp only [rsK_cons] at q3
                have hon := strs_one (z3 :: r)
                simp only [List.length_cons] at hlr
                repeat' ((conv => whnf); first | (with_reducible refine exI (q3 _) ?_) | (with_reducible refine ixJ i rfl ?_ ?_; (focus (omega))) | (with_reducible refine ixJ k rfl ?_ ?_; (focus (omega))) | (refine exI hx4 ?_) | (refine exI hxk ?_) | (refine apS ?_) | (first | refine stp ?_ | with_reducible refine condB (fun h => ?_) (fun h => ?_)))
                conv => whnf
                refine ⟨k + 1, hlk, by show exprs.length - (k + 1) < exprs.length - k; omega, ?_⟩
                rw [hnk]
                exact FgL.mk [1] rfl ⟨Wk.noref rfl, Wk.slice rfl rfl (by first | rfl | (simp; done) | (simp; omega)) (Nat.le_refl _) (by first | rfl | (simp; done) | (simp; omega)) rfl, Wk.int rfl, Wk.int rfl, trivial⟩ ⟨⟨rfl, rfl, rfl, rfl, BodyGe.pre (rest := []) (by first | rfl | (simp [strC]; done)) (strC_refs _)⟩, trivial⟩ rfl
          · have e3 : decide ((k : Int) < (exprs.length : Int)) = false := by simpa using hlk
            have hk2 : k = exprs.length := by have := hk; omega
            subst hk2
            rw [hfull] at hlk2 ⊢
            have hlp : (base ++ nmL exprs).length ≤ 4194304 := by rw [List.length_append]; omega
            generalize base ++ nmL exprs = p at *
            have hnn := strs_one nt
            have hne2 := strs_one ne
            rcases p with _ | ⟨z2, p⟩
            · skip
              rcases nt with _ | ⟨z3, nt⟩
              · simp only [rsK_nil] at qt
                rcases ne with _ | ⟨z4, ne⟩
                · simp only [rsK_nil] at qe
                  repeat' ((conv => whnf); first | (with_reducible refine exI (qt _) ?_) | (with_reducible refine exI (qe _) ?_) | (with_reducible refine ixJ i rfl ?_ ?_; (focus (omega))) | (refine exI hx4 ?_) | (refine exI hx5 ?_) | (refine exI hx6 ?_) | (refine apS ?_) | (first | refine stp ?_ | with_reducible refine condB (fun h => ?_) (fun h => ?_)))
                  conv => whnf
                  refine ⟨i + 1, hlt, by show l.length - (i + 1) < l.length - i; omega, ?_⟩
                  rw [hnx]
                  simp only [List.append_nil]
                  exact FgL.mk [] rfl ⟨Wk.noref rfl, Wk.noref rfl, Wk.int rfl, trivial⟩ trivial rfl
                · simp only [rsK_cons] at qe
                  simp only [List.length_cons] at hne
                  repeat' ((conv => whnf); first | (with_reducible refine exI (qt _) ?_) | (with_reducible refine exI (qe _) ?_) | (with_reducible refine ixJ i rfl ?_ ?_; (focus (omega))) | (refine exI hx4 ?_) | (refine exI hx5 ?_) | (refine exI hx6 ?_) | (refine apS ?_) | (first | refine stp ?_ | with_reducible refine condB (fun h => ?_) (fun h => ?_)))
                  conv => whnf
                  refine ⟨i + 1, hlt, by show l.length - (i + 1) < l.length - i; omega, ?_⟩
                  rw [hnx]
                  simp only [List.nil_append]
                  exact FgL.mk [0] rfl ⟨Wk.noref rfl, Wk.slice rfl rfl (by first | rfl | (simp; done) | (simp; omega)) (Nat.le_refl _) (by first | rfl | (simp; done) | (simp; omega)) rfl, Wk.int rfl, trivial⟩ ⟨⟨rfl, rfl, rfl, rfl, BodyGe.pre (rest := []) (by first | rfl | (simp [strC]; done)) (strC_refs _)⟩, trivial⟩ rfl
              · simp only [rsK_cons] at qt
                simp only [List.length_cons] at hnt
                have hcl2 := strC_cons z3 nt
                rcases ne with _ | ⟨z4, ne⟩
                · simp only [rsK_nil] at qe
                  repeat' ((conv => whnf); first | (with_reducible refine exI (qt _) ?_) | (with_reducible refine exI (qe _) ?_) | (with_reducible refine ixJ i rfl ?_ ?_; (focus (omega))) | (refine exI hx4 ?_) | (refine exI hx5 ?_) | (refine exI hx6 ?_) | (refine apS ?_) | (first | refine stp ?_ | with_reducible refine condB (fun h => ?_) (fun h => ?_)))
                  conv => whnf
                  refine ⟨i + 1, hlt, by show l.length - (i + 1) < l.length - i; omega, ?_⟩
                  rw [hnx]
                  simp only [List.append_nil, List.nil_append]
                  exact FgL.mk [0] rfl ⟨Wk.noref rfl, Wk.slice rfl rfl (by first | rfl | (simp; done) | (simp; omega)) (Nat.le_refl _) (by first | rfl | (simp; done) | (simp; omega)) rfl, Wk.int rfl, trivial⟩ ⟨⟨rfl, rfl, rfl, rfl, BodyGe.pre (rest := []) (by first | rfl | (simp [strC]; done)) (strC_refs _)⟩, trivial⟩ rfl
                · simp only [rsK_cons] at qe
                  simp only [List.length_cons] at hne
                  repeat' ((conv => whnf); first | (with_reducible refine exI (qt _) ?_) | (with_reducible refine exI (qe _) ?_) | (with_reducible refine ixJ i rfl ?_ ?_; (focus (omega))) | (refine exI hx4 ?_) | (refine exI hx5 ?_) | (refine exI hx6 ?_) | (refine apS ?_) | (first | refine stp ?_ | with_reducible refine condB (fun h => ?_) (fun h => ?_)))
                  conv => whnf
                  refine ⟨i + 1, hlt, by show l.length - (i + 1) < l.length - i; omega, ?_⟩
                  rw [hnx]
                  simp only [List.nil_append]
                  exact FgL.mk [1] rfl ⟨Wk.noref rfl, Wk.slice rfl rfl (by first | rfl | (simp; done) | (simp; omega)) (Nat.le_refl _) (by first | rfl | (simp; done) | (simp; omega)) rfl, Wk.int rfl, trivial⟩ ⟨⟨rfl, rfl, rfl, rfl, BodyGe.pre (rest := []) (by first | rfl | (simp [strC]; done)) (strC_refs _)⟩, trivial⟩ rfl
            · have hcl := strC_cons z2 p
              simp only [List.length_cons] at hlp
              rcases nt with _ | ⟨z3, nt⟩
              · simp only [rsK_nil] at qt
                rcases ne with _ | ⟨z4, ne⟩
                · simp only [rsK_nil] at qe
                  repeat' ((conv => whnf); first | (with_reducible refine exI (qt _) ?_) | (with_reducible refine exI (qe _) ?_) | (with_reducible refine ixJ i rfl ?_ ?_; (focus (omega))) | (refine exI hx4 ?_) | (refine exI hx5 ?_) | (refine exI hx6 ?_) | (refine apS ?_) | (first | refine stp ?_ | with_reducible refine condB (fun h => ?_) (fun h => ?_)))
                  conv => whnf
                  refine ⟨i + 1, hlt, by show l.length - (i + 1) < l.length - i; omega, ?_⟩
                  rw [hnx]
                  simp only [List.append_nil, List.nil_append]
                  exact FgL.mk [0] rfl ⟨Wk.noref rfl, Wk.slice rfl rfl (by first | rfl | (simp; done) | (simp; omega)) (Nat.le_refl _) (by first | rfl | (simp; done) | (simp; omega)) rfl, Wk.int rfl, trivial⟩ ⟨⟨rfl, rfl, rfl, rfl, BodyGe.pre (rest := []) (by first | rfl | (simp [strC]; done)) (strC_refs _)⟩, trivial⟩ rfl
                · simp only [rsK_cons] at qe
                  simp only [List.length_cons] at hne
                  repeat' ((conv => whnf); first | (with_reducible refine exI (qt _) ?_) | (with_reducible refine exI (qe _) ?_) | (with_reducible refine ixJ i rfl ?_ ?_; (focus (omega))) | (refine exI hx4 ?_) | (refine exI hx5 ?_) | (refine exI hx6 ?_) | (refine apS ?_) | (first | refine stp ?_ | with_reducible refine condB (fun h => ?_) (fun h => ?_)))
                  conv => whnf
                  refine ⟨i + 1, hlt, by show l.length - (i + 1) < l.length - i; omega, ?_⟩
                  rw [hnx]
                  simp only [List.nil_append]
                  exact FgL.mk [1] rfl ⟨Wk.noref rfl, Wk.slice rfl rfl (by first | rfl | (simp; done) | (simp; omega)) (Nat.le_refl _) (by first | rfl | (simp; done) | (simp; omega)) rfl, Wk.int rfl, trivial⟩ ⟨⟨rfl, rfl, rfl, rfl, BodyGe.pre (rest := []) (by first | rfl | (simp [strC]; done)) (strC_refs _)⟩, trivial⟩ rfl
              · simp only [rsK_cons] at qt
                simp only [List.length_cons] at hnt
                have hcl2 : (strC (z2 :: p) ++ strC (z3 :: nt)).length = (p.length + 1 + (nt.length + 1)) * 1 := by simp [strC]; omega
                rcases ne with _ | ⟨z4, ne⟩
                · simp only [rsK_nil] at qe
                  repeat' ((conv => whnf); first | (with_reducible refine exI (qt _) ?_) | (with_reducible refine exI (qe _) ?_) | (with_reducible refine ixJ i rfl ?_ ?_; (focus (omega))) | (refine exI hx4 ?_) | (refine exI hx5 ?_) | (refine exI hx6 ?_) | (refine apS ?_) | (first | refine stp ?_ | with_reducible refine condB (fun h => ?_) (fun h => ?_)))
                  conv => whnf
                  refine ⟨i + 1, hlt, by show l.length - (i + 1) < l.length - i; omega, ?_⟩
                  rw [hnx]
                  simp only [List.append_nil, List.nil_append]
                  exact FgL.mk [1] rfl ⟨Wk.noref rfl, Wk.slice rfl rfl (by first | rfl | (simp; done) | (simp; omega)) (Nat.le_refl _) (by first | rfl | (simp; done) | (simp; omega)) rfl, Wk.int rfl, trivial⟩ ⟨⟨rfl, rfl, rfl, rfl, BodyGe.pre (rest := []) (by first | rfl | (simp [strC]; done)) (strC_refs _)⟩, trivial⟩ rfl
                · simp only [rsK_cons] at qe
                  simp only [List.length_cons] at hne
                  repeat' ((conv => whnf); first | (with_reducible refine exI (qt _) ?_) | (with_reducible refine exI (qe _) ?_) | (with_reducible refine ixJ i rfl ?_ ?_; (focus (omega))) | (refine exI hx4 ?_) | (refine exI hx5 ?_) | (refine exI hx6 ?_) | (refine apS ?_) | (first | refine stp ?_ | with_reducible refine condB (fun h => ?_) (fun h => ?_)))
                  conv => whnf
                  refine ⟨i + 1, hlt, by show l.length - (i + 1) < l.length - i; omega, ?_⟩
                  rw [hnx]
                  exact FgL.mk [2] rfl ⟨Wk.noref rfl, Wk.slice rfl rfl (by first | rfl | (simp; done) | (simp; omega)) (Nat.le_refl _) (by first | rfl | (simp; done) | (simp; omega)) rfl, Wk.int rfl, trivial⟩ ⟨⟨rfl, rfl, rfl, rfl, BodyGe.pre (rest := []) (by first | rfl | (simp [strC]; done)) (strC_refs _)⟩, trivial⟩ rfl
        · have hclo := strC_cons z o
          have hlo := hle
          simp only [List.length_cons] at hlo
          repeat' ((conv => whnf); first | (with_reducible refine ixJ i rfl ?_ ?_; (focus (omega))) | (refine exI hx1 ?_) | (refine exI hx4 ?_) | (refine apS ?_) | (first | refine stp ?_ | with_reducible refine condB (fun h => ?_) (fun h => ?_)))
          conv => whnf
          refine ⟨Nat, (fun k => k ≤ exprs.length), (fun k => [(0, .rs l.length 7 (stC l)), (3, grA 0 1 (base ++ nmL (exprs.take k))), (4, .int .i64 i), (5, .int .i64 k)]), (fun k => grB 0 strC 9 (base ++ nmL (exprs.take k))), (fun k => exprs.length - k), ⟨0, Nat.zero_le _, ?_⟩, ?_⟩
          · subst hbase
            simp only [List.take_zero, nmL, List.append_nil]
            exact FgL.mk [2] rfl ⟨Wk.noref rfl, Wk.slice rfl rfl (by first | rfl | (simp; done) | (simp; omega)) (Nat.le_refl _) (by first | rfl | (simp; done) | (simp; omega)) rfl, Wk.int rfl, Wk.int rfl, trivial⟩ ⟨⟨rfl, rfl, rfl, rfl, BodyGe.pre (rest := []) (by first | rfl | (simp [strC]; done)) (strC_refs _)⟩, trivial⟩ rfl
          intro k hk
          dsimp only
          have hlk2 := hil k
          by_cases hlk : k < exprs.length
          · have e3 : decide ((k : Int) < (exprs.length : Int)) = true := by simpa using hlk
            have hxk := ex4 exprs k hlk
            have hlr := nmE_len exprs[k]
            have hsk := sizeL_mem _ _ (get_mem hlk)
            have q3 := q2 exprs[k] (okL_get k6 _ (get_mem hlk)) (by omega)
            have hnk : base ++ nmL (exprs.take (k + 1)) = (base ++ nmL (exprs.take k)) ++ nmE exprs[k] := by rw [hin k hlk, List.append_assoc]
            have hlp : (base ++ nmL (exprs.take k)).length ≤ 4194304 := by rw [List.length_append]; omega
            generalize base ++ nmL (exprs.take k) = p at *
            generalize nmE exprs[k] = r at *
            generalize exprs[k] = y at *
            obtain ⟨yo, yn, ys, yk⟩ := y
            simp only [Ex.cells] at hxk q3
            rcases p with _ | ⟨z2, p⟩
            · rcases r with _ | ⟨z3, r⟩
              · simp only [rsK_nil] at q3
                repeat' ((conv => whnf); first | (with_reducible refine exI (q3 _) ?_) | (with_reducible refine ixJ i rfl ?_ ?_; (focus (omega))) | (with_reducible refine ixJ k rfl ?_ ?_; (focus (omega))) | (refine exI hx4 ?_) | (refine exI hxk ?_) | (refine apS ?_) | (first | refine stp ?_ | with_reducible refine condB (fun h => ?_) (fun h => ?_)))
                conv => whnf
                refine ⟨k + 1, hlk, by show exprs.length - (k + 1) < exprs.length - k; omega, ?_⟩
                rw [hnk]
                exact FgL.mk [] rfl ⟨Wk.noref rfl, Wk.noref rfl, Wk.int rfl, Wk.int rfl, trivial⟩ trivial rfl
              · simp only [rsK_cons] at q3
                have hon := strs_one (z3 :: r)
                simp only [List.length_cons] at hlr
                repeat' ((conv => whnf); first | (with_reducible refine exI (q3 _) ?_) | (with_reducible refine ixJ i rfl ?_ ?_; (focus (omega))) | (with_reducible refine ixJ k rfl ?_ ?_; (focus (omega))) | (refine exI hx4 ?_) | (refine exI hxk ?_) | (refine apS ?_) | (first | refine stp ?_ | with_reducible refine condB (fun h => ?_) (fun h => ?_)))
                conv => whnf
                refine ⟨k + 1, hlk, by show exprs.length - (k + 1) < exprs.length - k; omega, ?_⟩
                rw [hnk]
                exact FgL.mk [0] rfl ⟨Wk.noref rfl, Wk.slice rfl rfl (by first | rfl | (simp; done) | (simp; omega)) (Nat.le_refl _) (by first | rfl | (simp; done) | (simp; omega)) rfl, Wk.int rfl, Wk.int rfl, trivial⟩ ⟨⟨rfl, rfl, rfl, rfl, BodyGe.pre (rest := []) (by first | rfl | (simp [strC]; done)) (strC_refs _)⟩, trivial⟩ rfl
            · have hcl := strC_cons z2 p
              simp only [List.length_cons] at hlp
              rcases r with _ | ⟨z3, r⟩
              · simp only [rsK_nil] at q3
                repeat' ((conv => whnf); first | (with_reducible refine exI (q3 _) ?_) | (with_reducible refine ixJ i rfl ?_ ?_; (focus (omega))) | (with_reducible refine ixJ k rfl ?_ ?_; (focus (omega))) | (refine exI hx4 ?_) | (refine exI hxk ?_) | (refine apS ?_) | (first | refine stp ?_ | with_reducible refine condB (fun h => ?_) (fun h => ?_)))
                conv => whnf
                refine ⟨k + 1, hlk, by show exprs.length - (k + 1) < exprs.length - k; omega, ?_⟩
                rw [hnk, List.append_nil]
                exact FgL.mk [0] rfl ⟨Wk.noref rfl, Wk.slice rfl rfl (by first | rfl | (simp; done) | (simp; omega)) (Nat.le_refl _) (by first | rfl | (simp; done) | (simp; omega)) rfl, Wk.int rfl, Wk.int rfl, trivial⟩ ⟨⟨rfl, rfl, rfl, rfl, BodyGe.pre (rest := []) (by first | rfl | (simp [strC]; done)) (strC_refs _)⟩, trivial⟩ rfl
              · simp only [rsK_cons] at q3
                have hon := strs_one (z3 :: r)
                simp only [List.length_cons] at hlr
                repeat' ((conv => whnf); first | (with_reducible refine exI (q3 _) ?_) | (with_reducible refine ixJ i rfl ?_ ?_; (focus (omega))) | (with_reducible refine ixJ k rfl ?_ ?_; (focus (omega))) | (refine exI hx4 ?_) | (refine exI hxk ?_) | (refine apS ?_) | (first | refine stp ?_ | with_reducible refine condB (fun h => ?_) (fun h => ?_)))
                conv => whnf
                refine ⟨k + 1, hlk, by show exprs.length - (k + 1) < exprs.length - k; omega, ?_⟩
                rw [hnk]
                exact FgL.mk [1] rfl ⟨Wk.noref rfl, Wk.slice rfl rfl (by first | rfl | (simp; done) | (simp; omega)) (Nat.le_refl _) (by first | rfl | (simp; done) | (simp; omega)) rfl, Wk.int rfl, Wk.int rfl, trivial⟩ ⟨⟨rfl, rfl, rfl, rfl, BodyGe.pre (rest := []) (by first | rfl | (simp [strC]; done)) (strC_refs _)⟩, trivial⟩ rfl
          · have e3 : decide ((k : Int) < (exprs.length : Int)) = false := by simpa using hlk
            have hk2 : k = exprs.length := by have := hk; omega
            subst hk2
            rw [hfull] at hlk2 ⊢
            have hlp : (base ++ nmL exprs).length ≤ 4194304 := by rw [List.length_append]; omega
            generalize base ++ nmL exprs = p at *
            have hnn := strs_one nt
            have hne2 := strs_one ne
            rcases p with _ | ⟨z2, p⟩
            · skip
              rcases nt with _ | ⟨z3, nt⟩
              · simp only [rsK_nil] at qt
                rcases ne with _ | ⟨z4, ne⟩
                · simp only [rsK_nil] at qe
                  repeat' ((conv => whnf); first | (with_reducible refine exI (qt _) ?_) | (with_reducible refine exI (qe _) ?_) | (with_reducible refine ixJ i rfl ?_ ?_; (focus (omega))) | (refine exI hx4 ?_) | (refine exI hx5 ?_) | (refine exI hx6 ?_) | (refine apS ?_) | (first | refine stp ?_ | with_reducible refine condB (fun h => ?_) (fun h => ?_)))
                  conv => whnf
                  refine ⟨i + 1, hlt, by show l.length - (i + 1) < l.length - i; omega, ?_⟩
                  rw [hnx]
                  simp only [List.append_nil]
                  exact FgL.mk [] rfl ⟨Wk.noref rfl, Wk.noref rfl, Wk.int rfl, trivial⟩ trivial rfl
                · simp only [rsK_cons] at qe
                  simp only [List.length_cons] at hne
                  repeat' ((conv => whnf); first | (with_reducible refine exI (qt _) ?_) | (with_reducible refine exI (qe _) ?_) | (with_reducible refine ixJ i rfl ?_ ?_; (focus (omega))) | (refine exI hx4 ?_) | (refine exI hx5 ?_) | (refine exI hx6 ?_) | (refine apS ?_) | (first | refine stp ?_ | with_reducible refine condB (fun h => ?_) (fun h => ?_)))
                  conv => whnf
                  refine ⟨i + 1, hlt, by show l.length - (i + 1) < l.length - i; omega, ?_⟩
                  rw [hnx]
                  simp only [List.nil_append]
                  exact FgL.mk [0] rfl ⟨Wk.noref rfl, Wk.slice rfl rfl (by first | rfl | (simp; done) | (simp; omega)) (Nat.le_refl _) (by first | rfl | (simp; done) | (simp; omega)) rfl, Wk.int rfl, trivial⟩ ⟨⟨rfl, rfl, rfl, rfl, BodyGe.pre (rest := []) (by first | rfl | (simp [strC]; done)) (strC_refs _)⟩, trivial⟩ rfl
              · simp only [rsK_cons] at qt
                simp only [List.length_cons] at hnt
                have hcl2 := strC_cons z3 nt
                rcases ne with _ | ⟨z4, ne⟩
                · simp only [rsK_nil] at qe
                  repeat' ((conv => whnf); first | (with_reducible refine exI (qt _) ?_) | (with_reducible refine exI (qe _) ?_) | (with_reducible refine ixJ i rfl ?_ ?_; (focus (omega))) | (refine exI hx4 ?_) | (refine exI hx5 ?_) | (refine exI hx6 ?_) | (refine apS ?_) | (first | refine stp ?_ | with_reducible refine condB (fun h => ?_) (fun h => ?_)))
                  conv => whnf
                  refine ⟨i + 1, hlt, by show l.length - (i + 1) < l.length - i; omega, ?_⟩
                  rw [hnx]
                  simp only [List.append_nil, List.nil_append]
                  exact FgL.mk [0] rfl ⟨Wk.noref rfl, Wk.slice rfl rfl (by first | rfl | (simp; done) | (simp; omega)) (Nat.le_refl _) (by first | rfl | (simp; done) | (simp; omega)) rfl, Wk.int rfl, trivial⟩ ⟨⟨rfl, rfl, rfl, rfl, BodyGe.pre (rest := []) (by first | rfl | (simp [strC]; done)) (strC_refs _)⟩, trivial⟩ rfl
                · simp only [rsK_cons] at qe
                  simp only [List.length_cons] at hne
                  repeat' ((conv => whnf); first | (with_reducible refine exI (qt _) ?_) | (with_reducible refine exI (qe _) ?_) | (with_reducible refine ixJ i rfl ?_ ?_; (focus (omega))) | (refine exI hx4 ?_) | (refine exI hx5 ?_) | (refine exI hx6 ?_) | (refine apS ?_) | (first | refine stp ?_ | with_reducible refine condB (fun h => ?_) (fun h => ?_)))
                  conv => whnf
                  refine ⟨i + 1, hlt, by show l.length - (i + 1) < l.length - i; omega, ?_⟩
                  rw [hnx]
                  simp only [List.nil_append]
                  exact FgL.mk [1] rfl ⟨Wk.noref rfl, Wk.slice rfl rfl (by first | rfl | (simp; done) | (simp; omega)) (Nat.le_refl _) (by first | rfl | (simp; done) | (simp; omega)) rfl, Wk.int rfl, trivial⟩ ⟨⟨rfl, rfl, rfl, rfl, BodyGe.pre (rest := []) (by first | rfl | (simp [strC]; done)) (strC_refs _)⟩, trivial⟩ rfl
            · have hcl := strC_cons z2 p
              simp only [List.length_cons] at hlp
              rcases nt with _ | ⟨z3, nt⟩
              · simp only [rsK_nil] at qt
                rcases ne with _ | ⟨z4, ne⟩
                · simp only [rsK_nil] at qe
                  repeat' ((conv => whnf); first | (with_reducible refine exI (qt _) ?_) | (with_reducible refine exI (qe _) ?_) | (with_reducible refine ixJ i rfl ?_ ?_; (focus (omega))) | (refine exI hx4 ?_) | (refine exI hx5 ?_) | (refine exI hx6 ?_) | (refine apS ?_) | (first | refine stp ?_ | with_reducible refine condB (fun h => ?_) (fun h => ?_)))
                  conv => whnf
                  refine ⟨i + 1, hlt, by show l.length - (i + 1) < l.length - i; omega, ?_⟩
                  rw [hnx]
                  simp only [List.append_nil, List.nil_append]
                  exact FgL.mk [0] rfl ⟨Wk.noref rfl, Wk.slice rfl rfl (by first | rfl | (simp; done) | (simp; omega)) (Nat.le_refl _) (by first | rfl | (simp; done) | (simp; omega)) rfl, Wk.int rfl, trivial⟩ ⟨⟨rfl, rfl, rfl, rfl, BodyGe.pre (rest := []) (by first | rfl | (simp [strC]; done)) (strC_refs _)⟩, trivial⟩ rfl
                · simp only [rsK_cons] at qe
                  simp only [List.length_cons] at hne
                  repeat' ((conv => whnf); first | (with_reducible refine exI (qt _) ?_) | (with_reducible refine exI (qe _) ?_) | (with_reducible refine ixJ i rfl ?_ ?_; (focus (omega))) | (refine exI hx4 ?_) | (refine exI hx5 ?_) | (refine exI hx6 ?_) | (refine apS ?_) | (first | refine stp ?_ | with_reducible refine condB (fun h => ?_) (fun h => ?_)))
                  conv => whnf
                  refine ⟨i + 1, hlt, by show l.length - (i + 1) < l.length - i; omega, ?_⟩
                  rw [hnx]
                  simp only [List.nil_append]
                  exact FgL.mk [1] rfl ⟨Wk.noref rfl, Wk.slice rfl rfl (by first | rfl | (simp; done) | (simp; omega)) (Nat.le_refl _) (by first | rfl | (simp; done) | (simp; omega)) rfl, Wk.int rfl, trivial⟩ ⟨⟨rfl, rfl, rfl, rfl, BodyGe.pre (rest := []) (by first | rfl | (simp [strC]; done)) (strC_refs _)⟩, trivial⟩ rfl
              · simp only [rsK_cons] at qt
                simp only [List.length_cons] at hnt
                have hcl2 : (strC (z2 :: p) ++ strC (z3 :: nt)).length = (p.length + 1 + (nt.length + 1)) * 1 := by simp [strC]; omega
                rcases ne with _ | ⟨z4, ne⟩
                · simp only [rsK_nil] at qe
                  repeat' ((conv => whnf); first | (with_reducible refine exI (qt _) ?_) | (with_reducible refine exI (qe _) ?_) | (with_reducible refine ixJ i rfl ?_ ?_; (focus (omega))) | (refine exI hx4 ?_) | (refine exI hx5 ?_) | (refine exI hx6 ?_) | (refine apS ?_) | (first | refine stp ?_ | with_reducible refine condB (fun h => ?_) (fun h => ?_)))
                  conv => whnf
                  refine ⟨i + 1, hlt, by show l.length - (i + 1) < l.length - i; omega, ?_⟩
                  rw [hnx]
                  simp only [List.append_nil, List.nil_append]
                  exact FgL.mk [1] rfl ⟨Wk.noref rfl, Wk.slice rfl rfl (by first | rfl | (simp; done) | (simp; omega)) (Nat.le_refl _) (by first | rfl | (simp; done) | (simp; omega)) rfl, Wk.int rfl, trivial⟩ ⟨⟨rfl, rfl, rfl, rfl, BodyGe.pre (rest := []) (by first | rfl | (simp [strC]; done)) (strC_refs _)⟩, trivial⟩ rfl
                · simp only [rsK_cons] at qe
                  simp only [List.length_cons] at hne
                  repeat' ((conv => whnf); first | (with_reducible refine exI (qt _) ?_) | (with_reducible refine exI (qe _) ?_) | (with_reducible refine ixJ i rfl ?_ ?_; (focus (omega))) | (refine exI hx4 ?_) | (refine exI hx5 ?_) | (refine exI hx6 ?_) | (refine apS ?_) | (first | refine stp ?_ | with_reducible refine condB (fun h => ?_) (fun h => ?_)))
                  conv => whnf
                  refine ⟨i + 1, hlt, by show l.length - (i + 1) < l.length - i; omega, ?_⟩
                  rw [hnx]
                  exact FgL.mk [2] rfl ⟨Wk.noref rfl, Wk.slice rfl rfl (by first | rfl | (simp; done) | (simp; omega)) (Nat.le_refl _) (by first | rfl | (simp; done) | (simp; omega)) rfl, Wk.int rfl, trivial⟩ ⟨⟨rfl, rfl, rfl, rfl, BodyGe.pre (rest := []) (by first | rfl | (simp [strC]; done)) (strC_refs _)⟩, trivial⟩ rfl
    · have e1 : decide ((i : Int) < (l.length : Int)) = false := by simpa using hlt
      have hi2 : i = l.length := by have := hi; omega
      subst hi2
      rw [List.take_length] at hle ⊢
      generalize nmSL l = o at *
      cases o with
      | nil =>
        repeat' ((conv => whnf); first | refine stp ?_ | with_reducible refine condB (fun h => ?_) (fun h => ?_))
        all_goals exact .inr ⟨rfl, _, rfl⟩
      | cons z o =>
        repeat' ((conv => whnf); first | refine stp ?_ | with_reducible refine condB (fun h => ?_) (fun h => ?_))
        conv => whnf
        exact ⟨_, frz_slice (b := 0) rfl (strC_cons z o) (strC_lit (z :: o)), .inl rfl⟩
end Go.Proofs.YtajhailaofchlaaDoor.lex
end

/-
  Registers: the program's Regs hands back the names, rising, each once.
-/
section
set_option linter.unusedVariables false
set_option linter.unusedSimpArgs false
namespace Go.Proofs.YtajhailaofchlaaDoor.lex
open Go.Abs Go.RowKit
set_option maxRecDepth 100000
set_option maxHeartbeats 4000000
def rgN0 (l : List St) : List (List UInt8) := addA (nmSL l) []
theorem rg_stmts (l : List St) (hok : okSL l) (hl : l.length ≤ 9223372036854775807) (h : sizeSL l ≤ 1048576) : MemOK Tryd.prog runLives.gl 38 [stA l, .int .i64 1, .func (.func 62) [] [.ptr 2 0], .func (.func 63) [] [.ptr 2 0]] (rgH []) (.bool true) (rgH (rgN0 l)) := by
  have hI : rgI 1 [] (sizeSL l + 0) := ⟨by omega, by omega⟩
  have := TvS.stmts rgV (sizeSL l) l 1 [] 0 (Nat.le_refl _) hok hl hI
  have e := goSL_rg l 1 []
  have e1 : (goSL rgV.hE rgV.hS l 1 []).1 = true := congrArg Prod.fst e
  have e2 : (goSL rgV.hE rgV.hS l 1 []).2 = rgN0 l := congrArg Prod.snd e
  rw [e1, e2] at this
  exact this
theorem rg_sorted {orc : Orc} (n : List (List UInt8)) (hk : okKeys n (rgE 0 n) n.length = true) : acall Tryd.prog (orcOr (sortO 64 84) orc) (rgH n ++ [⟨true, 3, 0, .cells [.map 0] 78⟩]) 64 [.func (.func 84) [] [.ptr 3 0]] = some (rsK (sortB n), rgH n ++ [⟨true, 3, 0, .cells [.map 0] 78⟩]) := by
  refine callOr1 (by kernel_rfl) ?_
  have hb : hasBody Tryd.prog 64 = true := by kernel_rfl
  unfold acall
  rw [if_pos hb]
  have h1 : sortAns (rgE 0 n) n.length = some (rsK (sortB n)) := by
    unfold sortAns
    rw [strsE_rg]
    simp only [hk, if_true]
  have h2 : mapIn ⟨true, 3, 0, .cells [.map 0] 78⟩ = some 0 := rfl
  have h3 : mapOf ⟨true, 0, 0, .map (rgE 0 n) n.length⟩ = some (rgE 0 n, n.length) := rfl
  simp only [sortO, if_true, sortArg, rgH]
  show (match mapIn ⟨true, 3, 0, .cells [.map 0] 78⟩ with | some b => _ | none => none) = _
  rw [h2]
  show (match mapOf ⟨true, 0, 0, .map (rgE 0 n) n.length⟩ with | some (es, clock) => _ | none => none) = _
  rw [h3]
  show (match sortAns (rgE 0 n) n.length with | some v => _ | none => none) = _
  rw [h1]
theorem regsX_ok (l : List St) (hok : okSL l) (hl : l.length ≤ 9223372036854775807) (h : sizeSL l ≤ 900000) : ValOK Tryd.prog runLives.gl 27 [stA l] (rsK (sortB (rgN0 l))) := by
  obtain ⟨O, hO, ⟨p1, -⟩, -⟩ := famsM (P := Tryd.prog) (gl := runLives.gl) [{ I := Unit, f := 38, G := (fun _ => True), A := (fun _ => [stA l, .int .i64 1, .func (.func 62) [] [.ptr 2 0], .func (.func 63) [] [.ptr 2 0]]), H := (fun _ => rgH []), R := (fun _ => .bool true), O := (fun _ => rgH (rgN0 l)), body := (by kernel_rfl), inj := (fun _ _ _ _ _ _ => ⟨rfl, rfl⟩), ok := (fun _ _ => rg_stmts l hok hl (by omega)) }] [] rfl
  have hO2 := orcOr_sound (shelf.sound (gl := runLives.gl)) hO
  have q1 : acall Tryd.prog (orcOr (sortO 64 84) O) (rgH []) 38 [stA l, .int .i64 1, .func (.func 62) [] [.ptr 2 0], .func (.func 63) [] [.ptr 2 0]] = some (.bool true, rgH (rgN0 l)) := callOr2 (by kernel_rfl) rfl (p1 () trivial)
  have hlen := addA_len (nmSL l) []
  have hlen2 := nmSL_len l
  simp only [List.length_nil] at hlen
  have hk : okKeys (rgN0 l) (rgE 0 (rgN0 l)) (rgN0 l).length = true := by
    refine rg_keys (addA_nodup _ _ List.nodup_nil) (fun x hx => ?_) (by unfold rgN0; omega)
    rcases addA_mem.1 hx with hx | hx
    · cases hx
    · exact nmSL_ok hok x hx
  have q2 := rg_sorted (orc := O) (rgN0 l) hk
  simp only [stA, rgH] at q1 q2 ⊢
  generalize rgE 0 (rgN0 l) = es at *
  generalize (rgN0 l).length = c at *
  refine fn_valI (fun g => Nat.beq g 38 || Nat.beq g 64) 2 follows noNum hO2 Tryd.func27 rfl ?_
  repeat' ((conv => whnf); first | (refine exI q1 ?_) | (refine exI q2 ?_) | (first | refine stp ?_ | with_reducible refine condB (fun h => ?_) (fun h => ?_)))
  all_goals (conv => whnf)
  all_goals rfl
end Go.Proofs.YtajhailaofchlaaDoor.lex
end

/-
  Texts, rising, each once: the document's Set.
-/
section
set_option linter.unusedVariables false
set_option linter.unusedSimpArgs false
namespace Go.Proofs.YtajhailaofchlaaDoor.lex
open Go.Abs Go.RowKit
set_option maxRecDepth 100000
set_option maxHeartbeats 4000000
variable {gl : Glob}
theorem xc_take {H : AHeap} {f c : Nat} {o : List (List UInt8)} {k : Nat} (hH : H[0]? = some ⟨true, f, 0, .cells (strC o) 9⟩) (hk : k ≤ o.length) : xcells H 1 (.slice 0 0 k c 1) = some (k, strC (o.take k)) := by
  have h : tk (k * 1) ((strC o).drop 0) = some (strC (o.take k)) := by
    have h1 : strC o = strC (o.take k) ++ strC (o.drop k) := by rw [← strC_app, List.take_append_drop]
    have h2 : (strC (o.take k)).length = k * 1 := by rw [strC_len, List.length_take, Nat.min_eq_left hk]
    rw [List.drop_zero, h1, ← h2]; exact tk_app _ _
  simp only [xcells, if_true, rd, hH, h]
theorem xc_drop {H : AHeap} {f c n : Nat} {o : List (List UInt8)} {k : Nat} (hH : H[0]? = some ⟨true, f, 0, .cells (strC o) 9⟩) (hn : n = o.length) : xcells H 1 (.slice 0 (0 + k * 1) (n - k) c 1) = some (n - k, strC (o.drop k)) := by
  have h : tk ((n - k) * 1) ((strC o).drop (0 + k * 1)) = some (strC (o.drop k)) := by
    have h1 : (strC o).drop (0 + k * 1) = strC (o.drop k) := by simp [strC]
    rw [h1]
    exact tk_all (by rw [strC_len, List.length_drop, hn])
  simp only [xcells, if_true, rd, hH, h]
theorem xc_none {H : AHeap} {off n c : Nat} (h0 : n = 0) {f : Nat} {cs : List AV} (hH : H[0]? = some ⟨true, f, 0, .cells cs 9⟩) : xcells H 1 (.slice 0 off n c 1) = some (0, []) := by
  subst h0
  have h : tk (0 * 1) (cs.drop off) = some [] := by cases (cs.drop off) <;> rfl
  simp only [xcells, if_true, rd, hH, h]
theorem setR_ok (l : List (List UInt8)) (h : l.length ≤ 1048576) : ValOK Tryd.prog gl 66 [rsK l] (rsK (setU l)) := by
  have hT : appT Tryd.prog 46 46 = some (9, 1, 16) := by kernel_rfl
  rw [show rsK (setU l) = .rs (setU l).length 1 (strC (setU l)) from rfl, show rsK l = .rs l.length 1 (strC l) from rfl]
  refine fn_valN follows noNum none_sound Tryd.func66 rfl ?_
  repeat' ((conv => whnf); first | refine stp ?_ | with_reducible refine condB (fun h => ?_) (fun h => ?_))
  conv => whnf
  refine ⟨Nat, (fun i => i ≤ l.length), (fun i => [(0, .rs l.length 1 (strC l)), (3, grA 0 1 (setU (l.take i))), (4, .int .i64 i)]), (fun i => grB 0 strC 9 (setU (l.take i))), (fun i => l.length - i), ⟨0, Nat.zero_le _, ?_⟩, ?_⟩
  · exact FgL.mk [] rfl ⟨Wk.noref rfl, Wk.noref rfl, Wk.int rfl, trivial⟩ trivial rfl
  intro i hi
  dsimp only
  have hle := setU_take_len l i
  by_cases hlt : i < l.length
  · have e1 : decide ((i : Int) < (l.length : Int)) = true := by simpa using hlt
    have hs : tk 1 ((strC l).drop (i * 1)) = some [.str l[i]] := tk1_map AV.str l i hlt (by omega)
    have hnx := setU_next l i hlt
    generalize setU (l.take i) = o at *
    generalize l[i] = s at *
    have hpl := posU_le s o
    rcases o with _ | ⟨z, o⟩
    · -- the first
      repeat' ((conv => whnf); first | (with_reducible refine ixJ i rfl ?_ ?_; (focus (omega))) | (refine exI hs ?_) | (refine apS ?_) | (first | refine stp ?_ | with_reducible refine condB (fun h => ?_) (fun h => ?_)))
      conv => whnf
      refine ⟨Nat, (fun k => k ≤ posU s ([] : List (List UInt8))), (fun k => [(0, .rs l.length 1 (strC l)), (3, grA 0 1 ([] : List (List UInt8))), (4, .int .i64 i), (5, .int .i64 k)]), (fun k => grB 0 strC 9 ([] : List (List UInt8))), (fun k => posU s ([] : List (List UInt8)) - k), ⟨0, Nat.zero_le _, ?_⟩, ?_⟩
      · exact FgL.mk [] rfl ⟨Wk.noref rfl, Wk.noref rfl, Wk.int rfl, Wk.int rfl, trivial⟩ trivial rfl
      intro k hk
      dsimp only
      have hk0 : k = 0 := by simpa [posU] using hk
      subst hk0
      repeat' ((conv => whnf); first | (with_reducible refine ixJ i rfl ?_ ?_; (focus (omega))) | (refine exI hs ?_) | (refine apS ?_) | (first | refine stp ?_ | with_reducible refine condB (fun h => ?_) (fun h => ?_)))
      conv => whnf
      refine ⟨i + 1, hlt, by show l.length - (i + 1) < l.length - i; omega, ?_⟩
      rw [hnx]
      exact FgL.mk [2] rfl ⟨Wk.noref rfl, Wk.slice rfl rfl rfl (Nat.le_refl _) (Nat.le_refl _) rfl, Wk.int rfl, trivial⟩ ⟨⟨rfl, rfl, rfl, rfl, BodyGe.pre (rest := []) rfl rfl⟩, trivial⟩ rfl
    · have hcl := strC_cons z o
      have hol : o.length + 1 ≤ l.length := by simpa using hle
      repeat' ((conv => whnf); first | (with_reducible refine ixJ i rfl ?_ ?_; (focus (omega))) | (refine exI hs ?_) | (first | refine stp ?_ | with_reducible refine condB (fun h => ?_) (fun h => ?_)))
      conv => whnf
      refine ⟨Nat, (fun k => k ≤ posU s (z :: o)), (fun k => [(0, .rs l.length 1 (strC l)), (3, grA 0 1 (z :: o)), (4, .int .i64 i), (5, .int .i64 k)]), (fun k => grB 0 strC 9 (z :: o)), (fun k => posU s (z :: o) - k), ⟨0, Nat.zero_le _, ?_⟩, ?_⟩
      · exact FgL.mk [0] rfl ⟨Wk.noref rfl, Wk.slice rfl rfl rfl (Nat.le_refl _) (Nat.le_refl _) rfl, Wk.int rfl, Wk.int rfl, trivial⟩ ⟨⟨rfl, rfl, rfl, rfl, BodyGe.pre (rest := []) (by simp) (strC_refs _)⟩, trivial⟩ rfl
      intro k hk
      dsimp only
      by_cases hlk : k < posU s (z :: o)
      · have hkl : k < (z :: o).length := by omega
        have hob := posU_lt s (z :: o) k hkl hlk
        have hg : tk 1 ((strC (z :: o)).drop (0 + k * 1)) = some [.str (z :: o)[k]] := tk1_map AV.str (z :: o) k hkl (by omega)
        generalize (z :: o)[k] = y at *
        simp only [List.length_cons] at hkl
        have e3 : decide ((k : Int) < ((o.length + 1 : Nat) : Int)) = true := by simp; omega
        repeat' ((conv => whnf); first | (with_reducible refine ixJ i rfl ?_ ?_; (focus (omega))) | (with_reducible refine ixJ k rfl ?_ ?_; (focus (omega))) | (refine exI hs ?_) | (refine exI hg ?_) | (first | refine stp ?_ | with_reducible refine condB (fun h => ?_) (fun h => ?_)))
        conv => whnf
        refine ⟨k + 1, hlk, by show posU s (z :: o) - (k + 1) < posU s (z :: o) - k; omega, ?_⟩
        exact FgL.mk [0] rfl ⟨Wk.noref rfl, Wk.slice rfl rfl rfl (Nat.le_refl _) (Nat.le_refl _) rfl, Wk.int rfl, Wk.int rfl, trivial⟩ ⟨⟨rfl, rfl, rfl, rfl, BodyGe.pre (rest := []) (by simp) (strC_refs _)⟩, trivial⟩ rfl
      · have hk2 : k = posU s (z :: o) := by have := hk; omega
        have hpa := posU_at s (z :: o)
        have hsame := insU_same s (z :: o)
        have hnew := insU_new s (z :: o)
        rw [← hk2] at hpa hsame hnew
        by_cases hkl : k < (z :: o).length
        · have hob := hpa hkl
          have hsm := hsame hkl
          have hnw := hnew
          have hg : tk 1 ((strC (z :: o)).drop (0 + k * 1)) = some [.str (z :: o)[k]] := tk1_map AV.str (z :: o) k hkl (by omega)
          have hkl2 : k < o.length + 1 := by simpa using hkl
          have e3 : decide ((k : Int) < ((o.length + 1 : Nat) : Int)) = true := by simp; omega
          cases hys : ((z :: o)[k] == s) with
          | true =>
            rw [hsm hys] at hnx
            generalize (z :: o)[k] = y at *
            repeat' ((conv => whnf); first | (with_reducible refine ixJ i rfl ?_ ?_; (focus (omega))) | (with_reducible refine ixJ k rfl ?_ ?_; (focus (omega))) | (refine exI hs ?_) | (refine exI hg ?_) | (first | refine stp ?_ | with_reducible refine condB (fun h => ?_) (fun h => ?_)))
            conv => whnf
            refine ⟨i + 1, hlt, by show l.length - (i + 1) < l.length - i; omega, ?_⟩
            rw [hnx]
            exact FgL.mk [0] rfl ⟨Wk.noref rfl, Wk.slice rfl rfl rfl (Nat.le_refl _) (Nat.le_refl _) rfl, Wk.int rfl, trivial⟩ ⟨⟨rfl, rfl, rfl, rfl, BodyGe.pre (rest := []) (by simp) (strC_refs _)⟩, trivial⟩ rfl
          | false =>
            have hnx2 := hnx.trans (hnw fun _ => hys)
            generalize (z :: o)[k] = y at *
            rcases k with _ | k
            · simp only [List.take_zero, List.drop_zero, List.nil_append] at hnx2
              have hxd := fun (H : AHeap) (f c : Nat) hH => xc_drop (H := H) (f := f) (c := c) (n := o.length + 1) (o := z :: o) (k := 0) hH rfl
              repeat' ((conv => whnf); first | (with_reducible refine ixJ i rfl ?_ ?_; (focus (omega))) | (with_reducible refine ixJ 0 rfl ?_ ?_; (focus (omega))) | (refine exI hs ?_) | (refine exI hg ?_) | (refine exI (app_okG hT (hxd _ _ _ rfl) rfl (ekil_ok ?_) ?_ ?_ ?_ ?_) ?_; (focus (simp [ekOk, ABody.len])); (focus (simp [strC]; try omega)); (focus (exact strs_one _)); (focus (omega)); (focus (omega))) | (refine apS ?_) | (first | refine stp ?_ | with_reducible refine condB (fun h => ?_) (fun h => ?_)))
              conv => whnf
              refine ⟨i + 1, hlt, by show l.length - (i + 1) < l.length - i; omega, ?_⟩
              rw [hnx2]
              refine FgL.mk [4] rfl ⟨Wk.noref rfl, Wk.slice rfl rfl ?_ (Nat.le_refl _) ?_ rfl, Wk.int rfl, trivial⟩ ⟨⟨rfl, rfl, rfl, rfl, BodyGe.pre (rest := []) ?_ (strC_refs _)⟩, trivial⟩ rfl
              all_goals first | (simp [strC]; done) | (simp; omega)
            · have hxt := fun (H : AHeap) (f c : Nat) hH => xc_take (H := H) (f := f) (c := c) (o := z :: o) (k := k + 1) hH (by simp; omega)
              have hxd := fun (H : AHeap) (f c : Nat) hH => xc_drop (H := H) (f := f) (c := c) (n := o.length + 1) (o := z :: o) (k := k + 1) hH rfl
              have hct : (([] : List AV) ++ strC ((z :: o).take (k + 1))).length = (0 + (k + 1)) * 1 := by rw [List.nil_append, strC_len, List.length_take, Nat.min_eq_left (by simp; omega)]; omega
              repeat' ((conv => whnf); first | (with_reducible refine ixJ i rfl ?_ ?_; (focus (omega))) | (with_reducible refine ixJ (k + 1) rfl ?_ ?_; (focus (omega))) | (refine exI hs ?_) | (refine exI hg ?_) | (refine exI (app_okG hT (hxt _ _ _ rfl) rfl (ekil_ok ?_) ?_ ?_ ?_ ?_) ?_; (focus (simp [ekOk, ABody.len])); (focus (simp [strC]; try omega)); (focus (exact strs_one _)); (focus (omega)); (focus (omega))) | (refine exI (app_okG hT (hxd _ _ _ rfl) rfl (ekil_ok ?_) ?_ ?_ ?_ ?_) ?_; (focus (simp [ekOk, ABody.len])); (focus (simp [strC]; try omega)); (focus (exact strs_one _)); (focus (omega)); (focus (omega))) | (refine apS ?_) | (first | refine stp ?_ | with_reducible refine condB (fun h => ?_) (fun h => ?_)))
              conv => whnf
              refine ⟨i + 1, hlt, by show l.length - (i + 1) < l.length - i; omega, ?_⟩
              rw [hnx2]
              refine FgL.mk [5] rfl ⟨Wk.noref rfl, Wk.slice rfl rfl ?_ (Nat.le_refl _) ?_ rfl, Wk.int rfl, trivial⟩ ⟨⟨rfl, rfl, rfl, rfl, BodyGe.pre (rest := []) ?_ (strC_refs _)⟩, trivial⟩ rfl
              all_goals first | (simp [strC]; done) | (simp; omega)
        · have hkn : k = o.length + 1 := by
            have := posU_le s (z :: o)
            simp only [List.length_cons] at this hkl
            omega
          have hnx2 := hnx.trans (hnew fun h => absurd h hkl)
          have e3 : decide ((k : Int) < ((o.length + 1 : Nat) : Int)) = false := by simp; omega
          rcases k with _ | k
          · omega
          · have hxt := fun (H : AHeap) (f c : Nat) hH => xc_take (H := H) (f := f) (c := c) (o := z :: o) (k := k + 1) hH (by simp; omega)
            have hct : (([] : List AV) ++ strC ((z :: o).take (k + 1))).length = (0 + (k + 1)) * 1 := by rw [List.nil_append, strC_len, List.length_take, Nat.min_eq_left (by simp; omega)]; omega
            have hdr : (z :: o).drop (k + 1) = [] := List.drop_eq_nil_of_le (by simp; omega)
            rw [hdr] at hnx2
            repeat' ((conv => whnf); first | (with_reducible refine ixJ i rfl ?_ ?_; (focus (omega))) | (with_reducible refine ixJ (k + 1) rfl ?_ ?_; (focus (omega))) | (refine exI hs ?_) | (refine exI (app_okG hT (hxt _ _ _ rfl) rfl (ekil_ok ?_) ?_ ?_ ?_ ?_) ?_; (focus (simp [ekOk, ABody.len])); (focus (simp [strC]; try omega)); (focus (exact strs_one _)); (focus (omega)); (focus (omega))) | (refine exI (app_zero hT (xc_none (by omega) rfl)) ?_) | (refine apS ?_) | (first | refine stp ?_ | with_reducible refine condB (fun h => ?_) (fun h => ?_)))
            conv => whnf
            refine ⟨i + 1, hlt, by show l.length - (i + 1) < l.length - i; omega, ?_⟩
            rw [hnx2]
            refine FgL.mk [4] rfl ⟨Wk.noref rfl, Wk.slice rfl rfl ?_ (Nat.le_refl _) ?_ rfl, Wk.int rfl, trivial⟩ ⟨⟨rfl, rfl, rfl, rfl, BodyGe.pre (rest := []) ?_ (strC_refs _)⟩, trivial⟩ rfl
            all_goals first | (simp [strC]; done) | (simp; omega)
  · have e1 : decide ((i : Int) < (l.length : Int)) = false := by simpa using hlt
    have hi2 : i = l.length := by have := hi; omega
    subst hi2
    rw [List.take_length] at hle ⊢
    generalize setU l = o at *
    cases o with
    | nil =>
      repeat' ((conv => whnf); first | refine stp ?_ | with_reducible refine condB (fun h => ?_) (fun h => ?_))
      all_goals exact .inr ⟨rfl, _, rfl⟩
    | cons z o =>
      repeat' ((conv => whnf); first | refine stp ?_ | with_reducible refine condB (fun h => ?_) (fun h => ?_))
      conv => whnf
      exact ⟨_, frz_slice (b := 0) rfl (strC_cons z o) (strC_lit (z :: o)), .inl rfl⟩
/-- The document's Regs. -/
theorem regsL_ok (l : List St) (hok : okSL l) (hl : l.length ≤ 9223372036854775807) (h : sizeSL l ≤ 900000) : ValOK Tryd.prog gl 28 [stA l] (rsK (sortB (rgN0 l))) := by
  have hlen := nmSL_len l
  obtain ⟨O, hO, p1, p2, -⟩ := fams (P := Tryd.prog) (gl := gl) [{ I := Unit, f := 67, G := (fun _ => True), A := (fun _ => [stA l]), R := (fun _ => rsK (nmSL l)), body := (by kernel_rfl), inj := (fun _ _ _ _ _ => rfl), ok := (fun _ _ => ⟨rfl, allR_ok _ l (Nat.le_refl _) hok hl (by omega)⟩) },
    { I := Unit, f := 66, G := (fun _ => True), A := (fun _ => [rsK (nmSL l)]), R := (fun _ => rsK (setU (nmSL l))), body := (by kernel_rfl), inj := (fun _ _ _ _ _ => rfl), ok := (fun _ _ => ⟨rfl, setR_ok _ (by omega)⟩) }] rfl
  have q1 : ∀ H, acall Tryd.prog O H 67 [stA l] = some (rsK (nmSL l), H) := p1 () trivial
  have q2 : ∀ H, acall Tryd.prog O H 66 [rsK (nmSL l)] = some (rsK (setU (nmSL l)), H) := p2 () trivial
  rw [show rsK (sortB (rgN0 l)) = rsK (setU (nmSL l)) by rw [setU_eq]; rfl]
  simp only [stA, rsK] at q1 q2 ⊢
  refine fn_val follows noNum hO Tryd.func28 rfl ?_
  repeat' ((conv => whnf); first | (refine exI (q1 _) ?_) | (refine exI (q2 _) ?_) | (first | refine stp ?_ | with_reducible refine condB (fun h => ?_) (fun h => ?_)))
  all_goals rfl
end Go.Proofs.YtajhailaofchlaaDoor.lex
end

/-
  Kinds.
-/
section
set_option linter.unusedVariables false
set_option linter.unusedSimpArgs false
namespace Go.Proofs.YtajhailaofchlaaDoor.lex
open Go.Abs Go.RowKit
set_option maxRecDepth 100000
set_option maxHeartbeats 4000000
def kdL (l : List St) : List Int := (List.range 11).map fun j => ((cntSL ((j + 1 : Nat) : Int) l : Nat) : Int)
def kd0 : List Int := [0, 0, 0, 0, 0, 0, 0, 0, 0, 0, 0]
theorem kd_end (l : List St) : (goSL kdE kdS l 1 kd0).1 = true ∧ (goSL kdE kdS l 1 kd0).2 = kdL l := by
  obtain ⟨h1, h2, h3⟩ := goSL_kd l 1 kd0 rfl
  refine ⟨h1, List.ext_getElem? fun j => ?_⟩
  rw [h3]
  unfold kdL
  rw [List.getElem?_map]
  by_cases hj : j < 11
  · have h4 : kd0[j]? = some 0 := by
      match j, hj with
      | 0, _ => rfl
      | 1, _ => rfl
      | 2, _ => rfl
      | 3, _ => rfl
      | 4, _ => rfl
      | 5, _ => rfl
      | 6, _ => rfl
      | 7, _ => rfl
      | 8, _ => rfl
      | 9, _ => rfl
      | 10, _ => rfl
    rw [h4, List.getElem?_range hj]
    simp
  · rw [List.getElem?_eq_none (show kd0.length ≤ j by simp [kd0]; omega), List.getElem?_eq_none (by simp; omega)]; rfl
theorem ks_stmts (l : List St) (hok : okSL l) (hl : l.length ≤ 9223372036854775807) (h : sizeSL l ≤ 1048576) : MemOK Tryd.prog runLives.gl 38 [stA l, .int .i64 1, .func (.func 68) [] [], .func (.func 69) [] [.ptr 1 0]] (ksH kd0) (.bool true) (ksH (kdL l)) := by
  have hI : ksI 1 kd0 (sizeSL l + 0) := ⟨by omega, by omega, rfl, fun c hc => by
    have : c = 0 := by simpa [kd0] using hc
    omega⟩
  have := TvS.stmts ksV (sizeSL l) l 1 kd0 0 (Nat.le_refl _) hok hl hI
  obtain ⟨h1, h2⟩ := kd_end l
  have e1 : (goSL ksV.hE ksV.hS l 1 kd0).1 = true := h1
  have e2 : (goSL ksV.hE ksV.hS l 1 kd0).2 = kdL l := h2
  rw [e1, e2] at this
  exact this
theorem kdL_len (l : List St) : (ksC (kdL l)).length = 11 * 1 := by rw [ksC_len]; simp [kdL]
theorem kindsX_ok (l : List St) (hok : okSL l) (hl : l.length ≤ 9223372036854775807) (h : sizeSL l ≤ 1048576) : ValOK Tryd.prog runLives.gl 30 [stA l] (.rs 11 1 (ksC (kdL l))) := by
  obtain ⟨O, hO, ⟨p1, -⟩, -⟩ := famsM (P := Tryd.prog) (gl := runLives.gl) [{ I := Unit, f := 38, G := (fun _ => True), A := (fun _ => [stA l, .int .i64 1, .func (.func 68) [] [], .func (.func 69) [] [.ptr 1 0]]), H := (fun _ => ksH kd0), R := (fun _ => .bool true), O := (fun _ => ksH (kdL l)), body := (by kernel_rfl), inj := (fun _ _ _ _ _ _ => ⟨rfl, rfl⟩), ok := (fun _ _ => ks_stmts l hok hl h) }] [] rfl
  have q1 : acall Tryd.prog O (ksH kd0) 38 [stA l, .int .i64 1, .func (.func 68) [] [], .func (.func 69) [] [.ptr 1 0]] = some (.bool true, ksH (kdL l)) := p1 () trivial
  clear p1
  have hlen := kdL_len l
  have hfl := ksC_flat (kdL l)
  simp only [stA, ksH] at q1 ⊢
  generalize ksC (kdL l) = cs at *
  refine fn_val follows noNum hO Tryd.func30 rfl ?_
  repeat' ((conv => whnf); first | (refine exI q1 ?_) | (first | refine stp ?_ | with_reducible refine condB (fun h => ?_) (fun h => ?_)))
  all_goals (conv => whnf)
  exact ⟨_, frz_sliceF (b := 0) rfl hlen hfl, rfl⟩
end Go.Proofs.YtajhailaofchlaaDoor.lex
end

/-
  The document's Kinds; lists of numbers, of texts, that are the same.
-/
section
set_option linter.unusedVariables false
set_option linter.unusedSimpArgs false
namespace Go.Proofs.YtajhailaofchlaaDoor.lex
open Go.Abs Go.RowKit
set_option maxRecDepth 100000
set_option maxHeartbeats 4000000
variable {gl : Glob}
theorem ksC_one : ∀ n, (ksC n).all Go.Abs.one = true
  | [] => rfl
  | c :: n => by simp only [ksC, List.map_cons, List.all_cons]; exact ksC_one n
def kdP (l : List St) (n : Nat) : List Int := (List.range n).map fun j => ((cntSL ((j + 1 : Nat) : Int) l : Nat) : Int)
theorem kdP_len (l : List St) (n : Nat) : (kdP l n).length = n := by simp [kdP]
theorem kdP_next (l : List St) (n : Nat) : kdP l (n + 1) = kdP l n ++ [((cntSL ((n + 1 : Nat) : Int) l : Nat) : Int)] := by
  unfold kdP; rw [List.range_succ, List.map_append]; rfl
theorem kindsR_ok (l : List St) (hok : okSL l) (hl : l.length ≤ 9223372036854775807) (h : sizeSL l ≤ 1048576) : ValOK Tryd.prog gl 31 [stA l] (.rs 11 1 (ksC (kdL l))) := by
  obtain ⟨O, hO, p1, -⟩ := fams (P := Tryd.prog) (gl := gl) [{ I := Int, f := 70, G := fun _ => True, A := fun kd => [stA l, .int .i64 kd], R := fun kd => .int .i64 (cntSL kd l), body := (by kernel_rfl), inj := (fun i j _ _ h => by simp only [List.cons.injEq, AV.int.injEq, and_true, true_and] at h; rw [h]), ok := (fun kd _ => ⟨rfl, countR_ok _ l kd (Nat.le_refl _) hok hl h⟩) }] rfl
  have q1 : ∀ kd H, acall Tryd.prog O H 70 [stA l, .int .i64 kd] = some (.int .i64 (cntSL kd l), H) := fun kd => p1 kd trivial
  clear p1
  have hT : appT Tryd.prog 49 49 = some (3, 1, 8) := by kernel_rfl
  simp only [stA] at q1 ⊢
  have hend : kdP l 11 = kdL l := rfl
  rw [← hend]
  refine fn_val follows noNum hO Tryd.func31 rfl ?_
  repeat' ((conv => whnf); first | refine stp ?_ | with_reducible refine condB (fun h => ?_) (fun h => ?_))
  conv => whnf
  refine ⟨Nat, (fun k => k ≤ 11), (fun k => [(0, .rs l.length 7 (stC l)), (3, grA 0 1 (kdP l k)), (4, .int .i64 ((k + 1 : Nat) : Int))]), (fun k => grB 0 ksC 3 (kdP l k)), (fun k => 11 - k), ⟨0, Nat.zero_le _, FgL.mk0 rfl ?_⟩, ?_⟩
  · exact ⟨Wk.noref rfl, Wk.noref rfl, Wk.int rfl, trivial⟩
  intro k hk
  dsimp only
  have hnx := kdP_next l k
  have hln := kdP_len l k
  have q2 := q1 ((k + 1 : Nat) : Int)
  clear q1
  generalize cntSL ((k + 1 : Nat) : Int) l = c at *
  by_cases hlt : k < 11
  · have e1 : decide (((k + 1 : Nat) : Int) ≤ 11) = true := by simp; omega
    generalize kdP l k = o at *
    cases o with
    | nil =>
      simp only [List.length_cons, List.length_nil] at hln
      repeat' ((conv => whnf); first | (with_reducible refine exI (q2 _) ?_) | (refine apS ?_) | (first | refine stp ?_ | with_reducible refine condB (fun h => ?_) (fun h => ?_)))
      conv => whnf
      refine ⟨k + 1, hlt, by omega, ?_⟩
      rw [hnx]
      refine FgL.mk [1] rfl ⟨Wk.noref rfl, Wk.slice rfl rfl rfl (Nat.le_refl _) (Nat.le_refl _) rfl, Wk.int rfl, trivial⟩ ⟨⟨rfl, rfl, rfl, rfl, BodyGe.pre (rest := []) rfl rfl⟩, trivial⟩ rfl
    | cons x o =>
      simp only [List.length_cons, List.length_nil] at hln
      have hcl : (ksC (x :: o)).length = (o.length + 1) * 1 := by rw [ksC_len]; simp
      repeat' ((conv => whnf); first | (with_reducible refine exI (q2 _) ?_) | (refine apS ?_) | (first | refine stp ?_ | with_reducible refine condB (fun h => ?_) (fun h => ?_)))
      conv => whnf
      refine ⟨k + 1, hlt, by omega, ?_⟩
      rw [hnx]
      refine FgL.mk [2] rfl ⟨Wk.noref rfl, Wk.slice rfl rfl ?_ (Nat.le_refl _) ?_ rfl, Wk.int rfl, trivial⟩ ⟨⟨rfl, rfl, rfl, rfl, BodyGe.pre (rest := []) ?_ (ksC_refs _)⟩, trivial⟩ rfl
      · simp
      · simp
      · simp [ksC]
  · have e1 : decide (((k + 1 : Nat) : Int) ≤ 11) = false := by simp; omega
    have hk2 : k = 11 := by have := hk; omega
    subst hk2
    have hcl : (ksC (kdP l 11)).length = 11 * 1 := by rw [ksC_len, hln]
    have hfl := ksC_flat (kdP l 11)
    generalize kdP l 11 = o at *
    cases o with
    | nil => simp at hln
    | cons x o =>
      simp only [List.length_cons] at hln
      have hol : o.length = 10 := by omega
      repeat' ((conv => whnf); first | refine stp ?_ | with_reducible refine condB (fun h => ?_) (fun h => ?_))
      conv => whnf
      exact ⟨_, frz_sliceF (b := 0) rfl (by rw [hol]; exact hcl) hfl, by rw [hol]⟩
/-- The same numbers. -/
theorem kints_ok (l : List Int) (h : l.length ≤ 1048576) : ValOK Tryd.prog gl 29 [.rs l.length 1 (ksC l), .rs l.length 1 (ksC l)] (.bool true) := by
  refine fn_val follows noNum none_sound Tryd.func29 rfl ?_
  have e0 : ((l.length : Int) != (l.length : Int)) = false := bne_of (b := true) (by simp)
  repeat' ((conv => whnf); first | refine stp ?_ | with_reducible refine condB (fun h => ?_) (fun h => ?_))
  conv => whnf
  refine ⟨Nat, (fun i => i ≤ l.length), (fun i => [(0, .rs l.length 1 (ksC l)), (1, .rs l.length 1 (ksC l)), (5, .int .i64 i)]), (fun _ => []), (fun i => l.length - i), ⟨0, Nat.zero_le _, FgL.mk0 rfl ?_⟩, ?_⟩
  · (repeat (first | exact trivial | refine stw ?_))
  intro i hi
  dsimp only
  by_cases hlt : i < l.length
  · have e1 : decide ((i : Int) < (l.length : Int)) = true := by simpa using hlt
    have hx := tk1_map (AV.int .i64) l i hlt (off := i * 1) (by omega)
    have e2 : (l[i] != l[i]) = false := bne_of (b := true) (by simp)
    generalize l[i] = x at *
    unfold ksC
    repeat' ((conv => whnf); first | (with_reducible refine ixJ i rfl ?_ ?_; (focus (omega))) | (refine exI hx ?_) | (first | refine stp ?_ | with_reducible refine condB (fun h => ?_) (fun h => ?_)))
    conv => whnf
    refine ⟨i + 1, hlt, by show l.length - (i + 1) < l.length - i; omega, FgL.mk0 rfl ?_⟩
    (repeat (first | exact trivial | refine stw ?_))
  · have e1 : decide ((i : Int) < (l.length : Int)) = false := by simpa using hlt
    repeat' ((conv => whnf); first | refine stp ?_ | with_reducible refine condB (fun h => ?_) (fun h => ?_))
    all_goals rfl
/-- The same texts. -/
theorem ktexts_ok (l : List (List UInt8)) (h : l.length ≤ 1048576) : ValOK Tryd.prog gl 26 [rsK l, rsK l] (.bool true) := by
  unfold rsK
  refine fn_val follows noNum none_sound Tryd.func26 rfl ?_
  have e0 : ((l.length : Int) != (l.length : Int)) = false := bne_of (b := true) (by simp)
  repeat' ((conv => whnf); first | refine stp ?_ | with_reducible refine condB (fun h => ?_) (fun h => ?_))
  conv => whnf
  refine ⟨Nat, (fun i => i ≤ l.length), (fun i => [(0, .rs l.length 1 (l.map .str)), (1, .rs l.length 1 (l.map .str)), (5, .int .i64 i)]), (fun _ => []), (fun i => l.length - i), ⟨0, Nat.zero_le _, FgL.mk0 rfl ?_⟩, ?_⟩
  · (repeat (first | exact trivial | refine stw ?_))
  intro i hi
  dsimp only
  by_cases hlt : i < l.length
  · have e1 : decide ((i : Int) < (l.length : Int)) = true := by simpa using hlt
    have hx := tk1_map AV.str l i hlt (off := i * 1) (by omega)
    have e2 : (!(l[i] == l[i])) = false := by simp
    generalize l[i] = x at *
    repeat' ((conv => whnf); first | (with_reducible refine ixJ i rfl ?_ ?_; (focus (omega))) | (refine exI hx ?_) | (first | refine stp ?_ | with_reducible refine condB (fun h => ?_) (fun h => ?_)))
    conv => whnf
    refine ⟨i + 1, hlt, by show l.length - (i + 1) < l.length - i; omega, FgL.mk0 rfl ?_⟩
    (repeat (first | exact trivial | refine stw ?_))
  · have e1 : decide ((i : Int) < (l.length : Int)) = false := by simpa using hlt
    repeat' ((conv => whnf); first | refine stp ?_ | with_reducible refine condB (fun h => ?_) (fun h => ?_))
    all_goals rfl
end Go.Proofs.YtajhailaofchlaaDoor.lex
end

/-
  'lives', run by the kernel.
-/
section
set_option linter.unusedVariables false
namespace Go.Proofs.YtajhailaofchlaaDoor.runLives
open Go.RowKit Go.Abs
set_option maxRecDepth 100000
def isS (l : List (Nat × List AV)) : Nat → List AV → Bool := fun f args => Nat.beq f 64 || memA f args l
noncomputable def foS (l : List (Nat × List AV)) : FOrc := forcThen (fun f _ => Nat.beq f 64) (fsortO 64 84) (ftblO l)
def toS (l : List (Nat × List AV)) : Orc := orcIf (fun f _ => Nat.beq f 64) (sortO 64 84) (tblO l)
theorem simS (l : List (Nat × List AV)) : OrcSim (foS l) (toS l) := forcThen_sim (fsortO_sim 64 84) (ftblO_sim l)
theorem lives : saysTrue (frunG Tryd.prog gl (isS []) (foS []) 100000 100 8 [] TH.empty) = true := by kernel_rfl
theorem knownLives : OrcSound Tryd.prog gl (tblO [(8, [])]) := known_trueG follows noNum (simS []) (orcIf_sound shelf.sound tblO_nil) tblO_nil rfl lives

end Go.Proofs.YtajhailaofchlaaDoor.runLives
end

/-
  'cantileverlaw03.AstCalls': whatever it is handed, it says true.
-/
section
set_option linter.unusedVariables false
set_option linter.unusedSimpArgs false
namespace Go.Proofs.YtajhailaofchlaaDoor.lex
open Go.Abs Go.RowKit
set_option maxRecDepth 100000
set_option maxHeartbeats 4000000
theorem livesV : ValOK Tryd.prog runLives.gl 8 [] (.bool true) := by
  intro sn W cargs hg hR ha
  refine (runLives.knownLives 8 [] [] (.bool true) [] (by kernel_rfl) sn noI W cargs hg hR ha).mono ?_
  rintro e W' ⟨v, sn', ι', rfl, hv, hs⟩
  cases hv.bool
  exact ⟨_, rfl, Stq.ext (Stp.q (k := 0) hR hs), by simp [VR]⟩
def one0 {gl : Glob} {f : Nat} {A : List AV} {R : AV} (G : Prop) (hb : hasBody Tryd.prog f = true) (hr : refsL A [] = []) (h : G → ValOK Tryd.prog gl f A R) : Fam Tryd.prog gl := { I := Unit, f := f, G := fun _ => G, A := fun _ => A, R := fun _ => R, body := hb, inj := (fun _ _ _ _ _ => rfl), ok := (fun _ hG => ⟨hr, h hG⟩) }
theorem e_refs (e : Ex) : refsL [.agg e.cells] [] = [] := by have := ex_refs e; simpa [refsL, refs] using this
theorem light_size (e : Ex) (h : 0 ≤ heftE e 3000) : sizeE e ≤ 1048576 := by have := heftE_size e 3000 h; omega
theorem lightP_lens (p : Pr) (m : Nat) (h : lightP p m = true) : p.decls.length ≤ m ∧ p.threads.length ≤ m := by
  simp only [lightP, decide_eq_true_eq] at h
  have h1 := heftTL_le p.threads (heftD p.decls ((m : Int) - min ((m : Int) + 1) (p.decls.length : Int) - min ((m : Int) + 1) (p.threads.length : Int)))
  have h2 := heftD_le p.decls ((m : Int) - min ((m : Int) + 1) (p.decls.length : Int) - min ((m : Int) + 1) (p.threads.length : Int))
  omega
theorem dcC_inj : ∀ (a b : List Dc), dcC a = dcC b → a.length = b.length → a = b
  | [], [], _, _ => rfl
  | [], _ :: _, _, h => by simp at h
  | _ :: _, [], _, h => by simp at h
  | ⟨n, q, v⟩ :: a, ⟨n', q', v'⟩ :: b, h, hl => by
    simp only [dcC, Dc.cells, List.cons_append, List.nil_append, List.cons.injEq, AV.str.injEq, AV.bool.injEq, AV.int.injEq, true_and] at h
    obtain ⟨rfl, rfl, rfl, h⟩ := h
    rw [dcC_inj a b h (by simpa using hl)]
theorem th_inj : ∀ (a b : List (List St)), a.map stA = b.map stA → a = b
  | [], [], _ => rfl
  | [], _ :: _, h => by simp at h
  | _ :: _, [], h => by simp at h
  | x :: a, y :: b, h => by
    simp only [List.map_cons, List.cons.injEq] at h
    rw [stA_inj h.1, th_inj a b h.2]
theorem pr_inj {p q : Pr} (h : p.av = q.av) : p = q := by
  obtain ⟨ds, ts⟩ := p
  obtain ⟨ds', ts'⟩ := q
  simp only [Pr.av, AV.agg.injEq, List.cons.injEq, AV.rs.injEq, and_true, true_and] at h
  obtain ⟨⟨h1, h2⟩, h3, h4⟩ := h
  rw [dcC_inj _ _ h2 h1, th_inj _ _ h4]
theorem akLaw (p q : Pr) (e f : Ex) (hp : okP p) (hq : okP q) (he : okE e) (hf : okE f) : ValOK Tryd.prog runLives.gl 5 [p.av, q.av, .agg e.cells, .agg f.cells] (.bool true) := by
  obtain ⟨O, hO, p1, p2, p3, p4, p5, p6, p7, p8, p9, p10, p11, p12, p13, p14, p15, -⟩ := fams (P := Tryd.prog) (gl := runLives.gl) [
    one0 (f := 8) (A := []) (R := .bool true) True (by kernel_rfl) rfl (fun _ => livesV),
    { I := Pr, f := 13, G := okP, A := fun p => [p.av, .int .i64 3000], R := fun p => .bool (lightP p 3000), body := (by kernel_rfl), inj := (fun i j _ _ h => by simp only [List.cons.injEq] at h; rw [pr_inj h.1]), ok := (fun p hp => ⟨rfl, lightP_ok p 3000 hp (by omega) (by omega)⟩) },
    { I := Ex, f := 14, G := okE, A := fun e => [.agg e.cells, .int .i64 3000], R := fun e => .bool (decide (0 ≤ heftE e 3000)), body := (by kernel_rfl), inj := (fun i j _ _ h => by simp only [List.cons.injEq] at h; rw [agg_inj (a := i) (b := j) (by rw [h.1])]), ok := (fun e he => ⟨by have := ex_refs e; simpa [refsL, refs] using this, light_ok e 3000 he (by omega) (by omega)⟩) },
    one0 (f := 20) (A := [p.av, q.av]) (R := .bool (sameP p q)) True (by kernel_rfl) rfl (fun _ => samePX_ok p q hp),
    one0 (f := 21) (A := [p.av, q.av]) (R := .bool (sameP p q)) True (by kernel_rfl) rfl (fun _ => samePR_ok p q hp),
    one0 (f := 22) (A := [.agg e.cells, .agg f.cells]) (R := .bool (sameE e f)) True (by kernel_rfl) (two_refs e f) (fun _ => sameX_ok _ e f (Nat.le_refl _) he),
    one0 (f := 23) (A := [.agg e.cells, .agg f.cells]) (R := .bool (sameE e f)) True (by kernel_rfl) (two_refs e f) (fun _ => sameR_ok _ e f (Nat.le_refl _) he),
    one0 (f := 25) (A := [p.av]) (R := p.av) (lightP p 3000 = true) (by kernel_rfl) rfl (fun h => copyP_ok p hp (by have := lightP_size p 3000 h; omega) (by have := lightP_lens p 3000 h; omega) (by have := lightP_lens p 3000 h; omega)),
    one0 (f := 24) (A := [p.av, p.av]) (R := .bool (sameP p p)) True (by kernel_rfl) rfl (fun _ => kprog_ok p p hp),
    { I := List St, f := 27, G := fun l => okSL l ∧ l.length ≤ 9223372036854775807 ∧ sizeSL l ≤ 3000, A := fun l => [stA l], R := fun l => rsK (sortB (rgN0 l)), body := (by kernel_rfl), inj := (fun i j _ _ h => by simp only [List.cons.injEq, and_true] at h; rw [stA_inj h]), ok := (fun l hl => ⟨rfl, regsX_ok l hl.1 hl.2.1 (by omega)⟩) },
    { I := List St, f := 28, G := fun l => okSL l ∧ l.length ≤ 9223372036854775807 ∧ sizeSL l ≤ 3000, A := fun l => [stA l], R := fun l => rsK (sortB (rgN0 l)), body := (by kernel_rfl), inj := (fun i j _ _ h => by simp only [List.cons.injEq, and_true] at h; rw [stA_inj h]), ok := (fun l hl => ⟨rfl, regsL_ok l hl.1 hl.2.1 (by omega)⟩) },
    { I := List (List UInt8), f := 26, G := fun n => n.length ≤ 1048576, A := fun n => [rsK n, rsK n], R := fun _ => .bool true, body := (by kernel_rfl), inj := (fun _ _ _ _ _ => rfl), ok := (fun n hn => ⟨rfl, ktexts_ok n hn⟩) },
    { I := List St, f := 30, G := fun l => okSL l ∧ l.length ≤ 9223372036854775807 ∧ sizeSL l ≤ 3000, A := fun l => [stA l], R := fun l => .rs 11 1 (ksC (kdL l)), body := (by kernel_rfl), inj := (fun i j _ _ h => by simp only [List.cons.injEq, and_true] at h; rw [stA_inj h]), ok := (fun l hl => ⟨rfl, kindsX_ok l hl.1 hl.2.1 (by omega)⟩) },
    { I := List St, f := 31, G := fun l => okSL l ∧ l.length ≤ 9223372036854775807 ∧ sizeSL l ≤ 3000, A := fun l => [stA l], R := fun l => .rs 11 1 (ksC (kdL l)), body := (by kernel_rfl), inj := (fun i j _ _ h => by simp only [List.cons.injEq, and_true] at h; rw [stA_inj h]), ok := (fun l hl => ⟨rfl, kindsR_ok l hl.1 hl.2.1 (by omega)⟩) },
    { I := List St, f := 29, G := fun _ => True, A := fun l => [.rs 11 1 (ksC (kdL l)), .rs 11 1 (ksC (kdL l))], R := fun _ => .bool true, body := (by kernel_rfl), inj := (fun _ _ _ _ _ => rfl), ok := (fun l _ => ⟨rfl, kints_ok (kdL l) (show (11 : Nat) ≤ 1048576 by decide)⟩) }] rfl
  have q1 : ∀ H, acall Tryd.prog O H 8 [] = some (.bool true, H) := p1 () trivial
  have q2 : ∀ H, acall Tryd.prog O H 13 [p.av, .int .i64 3000] = some (.bool (lightP p 3000), H) := p2 p hp
  have q2b : ∀ H, acall Tryd.prog O H 13 [q.av, .int .i64 3000] = some (.bool (lightP q 3000), H) := p2 q hq
  have q3 : ∀ H, acall Tryd.prog O H 14 [.agg e.cells, .int .i64 3000] = some (.bool (decide (0 ≤ heftE e 3000)), H) := p3 e he
  have q3b : ∀ H, acall Tryd.prog O H 14 [.agg f.cells, .int .i64 3000] = some (.bool (decide (0 ≤ heftE f 3000)), H) := p3 f hf
  have q4 : ∀ H, acall Tryd.prog O H 20 [p.av, q.av] = some (.bool (sameP p q), H) := p4 () trivial
  have q5 : ∀ H, acall Tryd.prog O H 21 [p.av, q.av] = some (.bool (sameP p q), H) := p5 () trivial
  have q6 : ∀ H, acall Tryd.prog O H 22 [.agg e.cells, .agg f.cells] = some (.bool (sameE e f), H) := p6 () trivial
  have q7 : ∀ H, acall Tryd.prog O H 23 [.agg e.cells, .agg f.cells] = some (.bool (sameE e f), H) := p7 () trivial
  have q8 : lightP p 3000 = true → ∀ H, acall Tryd.prog O H 25 [p.av] = some (p.av, H) := p8 ()
  have q9 : ∀ H, acall Tryd.prog O H 24 [p.av, p.av] = some (.bool (sameP p p), H) := p9 () trivial
  rw [sameP_refl] at q9
  have q10 : ∀ l, okSL l ∧ l.length ≤ 9223372036854775807 ∧ sizeSL l ≤ 3000 → ∀ H, acall Tryd.prog O H 27 [stA l] = some (rsK (sortB (rgN0 l)), H) := p10
  have q11 : ∀ l, okSL l ∧ l.length ≤ 9223372036854775807 ∧ sizeSL l ≤ 3000 → ∀ H, acall Tryd.prog O H 28 [stA l] = some (rsK (sortB (rgN0 l)), H) := p11
  have q12 : ∀ n : List (List UInt8), n.length ≤ 1048576 → ∀ H, acall Tryd.prog O H 26 [rsK n, rsK n] = some (.bool true, H) := p12
  have q13 : ∀ l, okSL l ∧ l.length ≤ 9223372036854775807 ∧ sizeSL l ≤ 3000 → ∀ H, acall Tryd.prog O H 30 [stA l] = some (.rs 11 1 (ksC (kdL l)), H) := p13
  have q14 : ∀ l, okSL l ∧ l.length ≤ 9223372036854775807 ∧ sizeSL l ≤ 3000 → ∀ H, acall Tryd.prog O H 31 [stA l] = some (.rs 11 1 (ksC (kdL l)), H) := p14
  have q15 : ∀ l H, acall Tryd.prog O H 29 [.rs 11 1 (ksC (kdL l)), .rs 11 1 (ksC (kdL l))] = some (.bool true, H) := fun l => p15 l trivial
  clear p1 p2 p3 p4 p5 p6 p7 p8 p9 p10 p11 p12 p13 p14 p15
  have hszp := lightP_size p 3000
  have hlen := lightP_lens p 3000
  generalize sameP p q = c1 at *
  generalize sameE e f = c2 at *
  generalize lightP p ((3000 : Nat) : Int) = l1 at *
  generalize lightP q 3000 = l2 at *
  generalize heftE e 3000 = h2 at *
  generalize heftE f 3000 = h3 at *
  obtain ⟨ds, ts⟩ := p
  obtain ⟨ds', ts'⟩ := q
  obtain ⟨op, num, name, kids⟩ := e
  obtain ⟨op', num', name', kids'⟩ := f
  simp only [Pr.av, Ex.cells] at *
  refine fn_val follows noNum hO Tryd.func5 rfl ?_
  by_cases hh : l1 = true ∧ l2 = true ∧ 0 ≤ h2 ∧ 0 ≤ h3
  · obtain ⟨rfl, rfl, hh2, hh3⟩ := hh
    have e1 : decide (0 ≤ h2) = true := by simpa using hh2
    have e2 : decide (0 ≤ h3) = true := by simpa using hh3
    rw [e1] at q3
    rw [e2] at q3b
    have q8 := q8 rfl
    have hsz := hszp rfl
    have hts : ts.length ≤ 3000 := (hlen rfl).2
    have f1 : (c1 != c1) = false := bne_of (b := true) (by simp)
    have f2 : (c2 != c2) = false := bne_of (b := true) (by simp)
    repeat' ((conv => whnf); first | (with_reducible refine exI (q1 _) ?_) | (with_reducible refine exI (q2 _) ?_) | (with_reducible refine exI (q2b _) ?_) | (with_reducible refine exI (q3 _) ?_) | (with_reducible refine exI (q3b _) ?_) | (with_reducible refine exI (q4 _) ?_) | (with_reducible refine exI (q5 _) ?_) | (with_reducible refine exI (q6 _) ?_) | (with_reducible refine exI (q7 _) ?_) | (with_reducible refine exI (q8 _) ?_) | (with_reducible refine exI (q9 _) ?_) | (first | refine stp ?_ | with_reducible refine condB (fun h => ?_) (fun h => ?_)))
    conv => whnf
    refine ⟨Nat, (fun i => i ≤ ts.length), (fun i => [(4, .ptr 0 0), (9, .int .i64 i)]), (fun _ => [⟨true, 0, 0, .cells [.rs ds.length 3 (dcC ds), .rs ts.length 1 (ts.map stA)] 25⟩]), (fun i => ts.length - i), ⟨0, Nat.zero_le _, FgL.mk [0] rfl ?_ ⟨⟨rfl, rfl, rfl, rfl, BodyGe.pre (rest := []) rfl rfl⟩, trivial⟩ rfl⟩, ?_⟩
    · exact ⟨Wk.ptr rfl rfl, Wk.int rfl, trivial⟩
    intro i hi
    dsimp only
    by_cases hlt : i < ts.length
    · have e3 : decide ((i : Int) < (ts.length : Int)) = true := by simpa using hlt
      have hx := th1 ts i hlt
      have hok := okTL_get hp.2.1 _ (get_mem hlt)
      have hsm := sizeTL_mem _ _ (get_mem hlt)
      have hG : okSL ts[i] ∧ ts[i].length ≤ 9223372036854775807 ∧ sizeSL ts[i] ≤ 3000 := ⟨hok.1, hok.2, by have : sizeTL ts ≤ 3000 := hsz; omega⟩
      have r10 := q10 ts[i] hG
      have r11 := q11 ts[i] hG
      have r13 := q13 ts[i] hG
      have r14 := q14 ts[i] hG
      have r15 := q15 ts[i]
      have hn : (sortB (rgN0 ts[i])).length ≤ 1048576 := by
        rw [(sortB_perm _).length_eq]
        have h1 := addA_len (nmSL ts[i]) []
        have h2 := nmSL_len ts[i]
        simp only [List.length_nil] at h1
        unfold rgN0; omega
      have r12 := q12 _ hn
      clear q1 q2 q2b q3 q3b q4 q5 q6 q7 q8 q9 q10 q11 q12 q13 q14 q15 hok hsm hG
      generalize sortB (rgN0 ts[i]) = n at *
      generalize ksC (kdL ts[i]) = ks at *
      generalize ts[i] = x at *
      simp only [stA, rsK] at hx r10 r11 r12 r13 r14 r15
      repeat' ((conv => whnf); first | (with_reducible refine exI (r10 _) ?_) | (with_reducible refine exI (r11 _) ?_) | (with_reducible refine exI (r12 _) ?_) | (with_reducible refine exI (r13 _) ?_) | (with_reducible refine exI (r14 _) ?_) | (with_reducible refine exI (r15 _) ?_) | (with_reducible refine ixJ i rfl ?_ ?_; (focus (omega))) | (refine exI hx ?_) | (first | refine stp ?_ | with_reducible refine condB (fun h => ?_) (fun h => ?_)))
      conv => whnf
      refine ⟨i + 1, hlt, by show ts.length - (i + 1) < ts.length - i; omega, FgL.mk [0] rfl ?_ ⟨⟨rfl, rfl, rfl, rfl, BodyGe.pre (rest := []) rfl rfl⟩, trivial⟩ rfl⟩
      exact ⟨Wk.ptr rfl rfl, Wk.int rfl, trivial⟩
    · have e3 : decide ((i : Int) < (ts.length : Int)) = false := by simpa using hlt
      repeat' ((conv => whnf); first | refine stp ?_ | with_reducible refine condB (fun h => ?_) (fun h => ?_))
      all_goals rfl
  · cases l1 with
    | false =>
      repeat' ((conv => whnf); first | (with_reducible refine exI (q1 _) ?_) | (with_reducible refine exI (q2 _) ?_) | (with_reducible refine exI (q2b _) ?_) | (with_reducible refine exI (q3 _) ?_) | (with_reducible refine exI (q3b _) ?_) | (first | refine stp ?_ | with_reducible refine condB (fun h => ?_) (fun h => ?_)))
      all_goals rfl
    | true =>
      cases l2 with
      | false =>
        repeat' ((conv => whnf); first | (with_reducible refine exI (q1 _) ?_) | (with_reducible refine exI (q2 _) ?_) | (with_reducible refine exI (q2b _) ?_) | (with_reducible refine exI (q3 _) ?_) | (with_reducible refine exI (q3b _) ?_) | (first | refine stp ?_ | with_reducible refine condB (fun h => ?_) (fun h => ?_)))
        all_goals rfl
      | true =>
        by_cases hh2 : 0 ≤ h2
        · have e1 : decide (0 ≤ h2) = true := by simpa using hh2
          have e2 : decide (0 ≤ h3) = false := by
            have : ¬ 0 ≤ h3 := fun h => hh ⟨rfl, rfl, hh2, h⟩
            simpa using this
          rw [e1] at q3
          rw [e2] at q3b
          repeat' ((conv => whnf); first | (with_reducible refine exI (q1 _) ?_) | (with_reducible refine exI (q2 _) ?_) | (with_reducible refine exI (q2b _) ?_) | (with_reducible refine exI (q3 _) ?_) | (with_reducible refine exI (q3b _) ?_) | (first | refine stp ?_ | with_reducible refine condB (fun h => ?_) (fun h => ?_)))
          all_goals rfl
        · have e1 : decide (0 ≤ h2) = false := by simpa using hh2
          rw [e1] at q3
          repeat' ((conv => whnf); first | (with_reducible refine exI (q1 _) ?_) | (with_reducible refine exI (q2 _) ?_) | (with_reducible refine exI (q2b _) ?_) | (with_reducible refine exI (q3 _) ?_) | (with_reducible refine exI (q3b _) ?_) | (first | refine stp ?_ | with_reducible refine condB (fun h => ?_) (fun h => ?_)))
          all_goals rfl
end Go.Proofs.YtajhailaofchlaaDoor.lex
namespace Go.Proofs.YtajhailaofchlaaDoor.akLaw
open Go.Abs Go.RowKit
def Qs : List (AV → Prop) := [fun u => ∃ p : lex.Pr, u = p.av ∧ lex.okP p, fun u => ∃ p : lex.Pr, u = p.av ∧ lex.okP p, fun u => ∃ e : lex.Ex, u = .agg e.cells ∧ lex.okE e, fun u => ∃ e : lex.Ex, u = .agg e.cells ∧ lex.okE e]
theorem opens : OpensAll Tryd.prog Tryd.f5.params.toList Qs := by
  rw [Tryd.params5]
  exact ⟨lex.opensP, lex.opensP, lex.opensX, lex.opensX, trivial⟩
theorem law (us : List AV) (h : AllQ Qs us) : ValOK Tryd.prog runLives.gl 5 us (.bool true) := by
  obtain ⟨_, _, rfl, ⟨p, rfl, hp⟩, h1⟩ := allQ_cons h
  obtain ⟨_, _, rfl, ⟨q, rfl, hq⟩, h2⟩ := allQ_cons h1
  obtain ⟨_, _, rfl, ⟨e, rfl, he⟩, h3⟩ := allQ_cons h2
  obtain ⟨_, _, rfl, ⟨f, rfl, hf⟩, h4⟩ := allQ_cons h3
  cases allQ_nil h4
  exact lex.akLaw p q e f hp hq he hf
theorem solid : Solid Tryd.prog := by unfold Solid; kernel_rfl
end Go.Proofs.YtajhailaofchlaaDoor.akLaw
end


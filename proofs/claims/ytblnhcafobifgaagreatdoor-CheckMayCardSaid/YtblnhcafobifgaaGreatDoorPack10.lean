/-
  Texts of this proof, one behind the other (part 10).
-/
import Derived.Test.YtblnhcafobifgaaGreatDoorPack9


section

set_option linter.unusedVariables false
set_option linter.unusedSimpArgs false
namespace Go.Proofs.YtblnhcafobifgaaGreatDoor.lex
open Go.Abs Go.RowKit
set_option maxRecDepth 100000
set_option maxHeartbeats 4000000
variable {gl : Glob}
def ifp (l : Int) (f : Int → Int) : Int := if 0 ≤ l then f l else l
mutual
def heftS : St → Int → Int
  | .mk _ n lc _ x t e, l => ifp (ifp (heftL x (l - 1 - (n.length / 20 : Nat) - (lc.length / 20 : Nat))) (heftSL t)) (heftSL e)
def heftSL : List St → Int → Int
  | [], l => l
  | x :: k, l => if 0 ≤ l then heftSL k (heftS x l) else l
end
theorem heftS_eq : ∀ (x : St) (l : Int), heftS x l = ifp (ifp (heftL x.exprs (l - 1 - (x.name.length / 20 : Nat) - (x.loc.length / 20 : Nat))) (heftSL x.thn)) (heftSL x.els)
  | .mk _ _ _ _ _ _ _, l => by simp only [heftS, St.exprs, St.name, St.loc, St.thn, St.els]
mutual
theorem heftS_size : ∀ (x : St) (l : Int), 0 ≤ heftS x l → (sizeS x : Int) + heftS x l ≤ l
  | .mk _ n lc _ x t e, l, h => by
    simp only [heftS, sizeS, ifp] at *
    generalize hl1 : l - 1 - ((n.length / 20 : Nat) : Int) - ((lc.length / 20 : Nat) : Int) = l1 at *
    have hx := heftL_size x l1
    have ht := heftSL_size t (heftL x l1)
    by_cases h1 : 0 ≤ heftL x l1
    · simp only [if_pos h1] at *
      have he := heftSL_size e (heftSL t (heftL x l1))
      by_cases h2 : 0 ≤ heftSL t (heftL x l1)
      · simp only [if_pos h2] at *
        have := hx h1; have := ht h2; have := he h; omega
      · simp only [if_neg h2] at *; omega
    · simp only [if_neg h1] at *; omega
theorem heftSL_size : ∀ (k : List St) (l : Int), 0 ≤ heftSL k l → (sizeSL k : Int) + heftSL k l ≤ l
  | [], l, h => by simp only [heftSL, sizeSL] at *; omega
  | x :: k, l, h => by
    simp only [heftSL, sizeSL] at *
    split at h
    · rename_i hl
      rw [if_pos hl]
      have h1 := heftSL_size k _ h
      have h2 : 0 ≤ heftS x l := by omega
      have h3 := heftS_size x l h2
      omega
    · omega
end
theorem ifp_le {l : Int} {f : Int → Int} (h : ∀ m, f m ≤ m) : ifp l f ≤ l := by
  unfold ifp; split
  · exact h l
  · exact Int.le_refl _
mutual
theorem heftS_le : ∀ (x : St) (l : Int), heftS x l ≤ l
  | .mk _ n lc _ x t e, l => by
    simp only [heftS]
    have h1 := heftL_le x (l - 1 - ((n.length / 20 : Nat) : Int) - ((lc.length / 20 : Nat) : Int))
    have h2 := ifp_le (l := heftL x (l - 1 - ((n.length / 20 : Nat) : Int) - ((lc.length / 20 : Nat) : Int))) (heftSL_le t)
    have h3 := ifp_le (l := ifp (heftL x (l - 1 - ((n.length / 20 : Nat) : Int) - ((lc.length / 20 : Nat) : Int))) (heftSL t)) (heftSL_le e)
    omega
theorem heftSL_le : ∀ (k : List St) (l : Int), heftSL k l ≤ l
  | [], l => by simp only [heftSL]; omega
  | x :: k, l => by
    simp only [heftSL]
    split
    · have := heftSL_le k (heftS x l); have := heftS_le x l; omega
    · omega
end
theorem heftSL_at : ∀ (k : List St) (l : Int) (i : Nat) (h : i < k.length), heftSL (k.take (i + 1)) l = if 0 ≤ heftSL (k.take i) l then heftS k[i] (heftSL (k.take i) l) else heftSL (k.take i) l
  | e :: k, l, 0, h => by simp only [List.take_succ_cons, List.take_zero, heftSL, List.getElem_cons_zero]
  | e :: k, l, i + 1, h => by
    have ih := fun l => heftSL_at k l i (by simpa using h)
    simp only [List.take_succ_cons, heftSL, List.getElem_cons_succ] at ih ⊢
    split
    · exact ih _
    · rename_i h2; simp [h2]
theorem heftSL_stop : ∀ (k : List St) (l : Int) (i : Nat), heftSL (k.take i) l < 0 → heftSL k l = heftSL (k.take i) l
  | [], l, i, h => by simp [heftSL]
  | e :: k, l, 0, h => by
    simp only [List.take_zero, heftSL] at *
    rw [if_neg (by omega)]
  | e :: k, l, i + 1, h => by
    simp only [List.take_succ_cons, heftSL] at *
    split
    · rename_i hl
      rw [if_pos hl] at h
      exact heftSL_stop k _ i h
    · rfl
theorem cell_l (s : St) (rest : List AV) : tk 1 ((s.cells ++ rest).drop 2) = some [.str s.loc] := by
  obtain ⟨k, n, l, o, x, t, e⟩ := s
  simp only [St.cells, St.loc]; rfl
theorem hefts_ok : ∀ (n : Nat) (l : List St) (a : Int), sizeSL l ≤ n → okSL l → l.length ≤ 9223372036854775807 → 0 ≤ a → a ≤ 1048576 → ValOK Tryz.prog gl 25 [stA l, .int .i64 a] (.int .i64 (heftSL l a))
  | n, l, a, h, hok, hl, ha0, ha1 => by
    obtain ⟨O, hO, p1, p2, -⟩ := fams (P := Tryz.prog) (gl := gl) [{ I := List St × Int, f := 25, G := fun p => sizeSL p.1 < n ∧ okSL p.1 ∧ p.1.length ≤ 9223372036854775807 ∧ 0 ≤ p.2 ∧ p.2 ≤ 1048576, A := fun p => [stA p.1, .int .i64 p.2], R := fun p => .int .i64 (heftSL p.1 p.2), body := (by kernel_rfl), inj := (fun i j _ _ h => by simp only [List.cons.injEq, AV.int.injEq, and_true, true_and] at h; rw [stA_inj h.1, h.2]), ok := (fun p hp => ⟨rfl, match n, hp.1 with | n + 1, h => hefts_ok n p.1 p.2 (by omega) hp.2.1 hp.2.2.1 hp.2.2.2.1 hp.2.2.2.2⟩) },
      { I := Ex × Int, f := 41, G := fun p => okE p.1 ∧ 0 ≤ p.2 ∧ p.2 ≤ 1048576, A := fun p => [.agg p.1.cells, .int .i64 p.2], R := fun p => .int .i64 (heftE p.1 p.2), body := (by kernel_rfl), inj := (fun i j _ _ h => by simp only [List.cons.injEq, AV.agg.injEq, AV.int.injEq, and_true, true_and] at h; rw [cells_inj _ _ h.1, h.2]), ok := (fun p hp => ⟨by have := ex_refs p.1; simpa [refsL, refs] using this, heft_ok _ p.1 p.2 (Nat.le_refl _) hp.1 hp.2.1 hp.2.2⟩) }] rfl
    have q1 : ∀ x a, sizeSL x < n → okSL x → x.length ≤ 9223372036854775807 → 0 ≤ a → a ≤ 1048576 → ∀ H, acall Tryz.prog O H 25 [stA x, .int .i64 a] = some (.int .i64 (heftSL x a), H) := fun x a h1 h2 h3 h4 h5 => p1 (x, a) ⟨h1, h2, h3, h4, h5⟩
    have q2 : ∀ k a, okE k → 0 ≤ a → a ≤ 1048576 → ∀ H, acall Tryz.prog O H 41 [.agg k.cells, .int .i64 a] = some (.int .i64 (heftE k a), H) := fun k a h1 h2 h3 => p2 (k, a) ⟨h1, h2, h3⟩
    clear p1 p2
    simp only [stA] at q1 ⊢
    refine fn_val follows noNum hO Tryz.func25 rfl ?_
    repeat' ((conv => whnf); first | refine stp ?_ | with_reducible refine condB (fun h => ?_) (fun h => ?_))
    conv => whnf
    refine ⟨Nat, (fun i => i ≤ l.length), (fun i => [(0, .rs l.length 7 (stC l)), (1, .int .i64 (heftSL (l.take i) a)), (5, .int .i64 i)]), (fun _ => []), (fun i => l.length - i), ⟨0, Nat.zero_le _, FgL.mk0 rfl ?_⟩, ?_⟩
    · simp only [List.take_zero, heftSL]; (repeat (first | exact trivial | refine stw ?_))
    intro i hi
    dsimp only
    have hle := heftSL_le (l.take i) a
    by_cases hlt : i < l.length
    · have e1 : decide ((i : Int) < (l.length : Int)) = true := by simpa using hlt
      by_cases hpos : 0 ≤ heftSL (l.take i) a
      · have e2 : decide (heftSL (l.take i) a ≥ 0) = true := by simpa using hpos
        have hs := heftSL_at l a i hlt
        rw [if_pos hpos, heftS_eq] at hs
        have hsz := sizeSL_mem _ _ (get_mem hlt)
        have hse := sizeS_eq l[i]
        have hx1 : tk 1 (((stC l).drop (i * 7)).drop 1) = some [.str l[i].name] := by rw [stC_at l i hlt]; exact cell_n _ _
        have hx2 : tk 1 (((stC l).drop (i * 7)).drop 2) = some [.str l[i].loc] := by rw [stC_at l i hlt]; exact cell_l _ _
        have hx4 : tk 1 (((stC l).drop (i * 7)).drop 4) = some [exA l[i].exprs] := by rw [stC_at l i hlt]; exact cell_x _ _
        have hx5 : tk 1 (((stC l).drop (i * 7)).drop 5) = some [stA l[i].thn] := by rw [stC_at l i hlt]; exact cell_t _ _
        have hx6 : tk 1 (((stC l).drop (i * 7)).drop 6) = some [stA l[i].els] := by rw [stC_at l i hlt]; exact cell_e _ _
        obtain ⟨k1, k2, k3, k4, k5, k6, k7, k8⟩ := okS_parts (okSL_get hok _ (get_mem hlt))
        have qt := fun a => q1 l[i].thn a (by omega) k7 k4
        have qe := fun a => q1 l[i].els a (by omega) k8 k5
        clear q1
        generalize (heftSL (l.take i) a) = b at *
        generalize l[i] = x at *
        obtain ⟨kind, name, loc, order, exprs, thn, els⟩ := x
        simp only [St.name, St.loc, St.exprs, St.thn, St.els, exA, stA] at *
        clear hsz hse
        have q20 : Int.tdiv (name.length : Int) 20 = ((name.length / 20 : Nat) : Int) := rfl
        have q21 : Int.tdiv (loc.length : Int) 20 = ((loc.length / 20 : Nat) : Int) := rfl
        have w1 : IntKind.i64.wrap (b - 1) = b - 1 := wrapB (by omega) (by omega)
        have w2 : IntKind.i64.wrap (Int.tdiv (name.length : Int) 20) = ((name.length / 20 : Nat) : Int) := by rw [q20]; exact wrapB (by omega) (by omega)
        have w2' : IntKind.i64.wrap (Int.tdiv (loc.length : Int) 20) = ((loc.length / 20 : Nat) : Int) := by rw [q21]; exact wrapB (by omega) (by omega)
        have w3 : IntKind.i64.wrap (b - 1 - ((name.length / 20 : Nat) : Int)) = b - 1 - ((name.length / 20 : Nat) : Int) := wrapB (by omega) (by omega)
        have w4 : IntKind.i64.wrap (b - 1 - ((name.length / 20 : Nat) : Int) - ((loc.length / 20 : Nat) : Int)) = b - 1 - ((name.length / 20 : Nat) : Int) - ((loc.length / 20 : Nat) : Int) := wrapB (by omega) (by omega)
        repeat' ((conv => whnf); first | (with_reducible refine exW w1 ?_) | (refine And.intro (show (20 : Int) ≠ 0 by decide) ?_) | (rw [w2]) | (rw [w2']) | (with_reducible refine exW w3 ?_) | (with_reducible refine exW w4 ?_) | (with_reducible refine ixJ i rfl ?_ ?_; (focus (omega))) | (refine exI hx1 ?_) | (refine exI hx2 ?_) | (first | refine stp ?_ | with_reducible refine condB (fun h => ?_) (fun h => ?_)))
        conv => whnf
        have hb0 : b - 1 - ((name.length / 20 : Nat) : Int) - ((loc.length / 20 : Nat) : Int) ≤ 1048576 := by omega
        clear w1 w2 w2' w3 w4
        generalize hl0 : b - 1 - ((name.length / 20 : Nat) : Int) - ((loc.length / 20 : Nat) : Int) = l0 at *
        refine ⟨Nat, (fun k => k ≤ exprs.length), (fun k => [(0, .rs l.length 7 (stC l)), (1, .int .i64 (heftL (exprs.take k) l0)), (5, .int .i64 i), (6, .int .i64 k)]), (fun _ => []), (fun k => exprs.length - k), ⟨0, Nat.zero_le _, FgL.mk0 rfl ?_⟩, ?_⟩
        · simp only [List.take_zero, heftL]; (repeat (first | exact trivial | refine stw ?_))
        intro k hk
        dsimp only
        have hke := heftL_le (exprs.take k) l0
        have fin : ∀ v, heftL exprs l0 = v → ∃ w, True := fun _ _ => ⟨(), trivial⟩
        by_cases hkt : k < exprs.length
        · have e3 : decide ((k : Int) < (exprs.length : Int)) = true := by simpa using hkt
          by_cases hp2 : 0 ≤ heftL (exprs.take k) l0
          · have e4 : decide (heftL (exprs.take k) l0 ≥ 0) = true := by simpa using hp2
            have hy := ex4 exprs k hkt
            have hat := heftL_at exprs l0 k hkt
            rw [if_pos hp2] at hat
            have qk := q2 exprs[k] (heftL (exprs.take k) l0) (okL_get k6 _ (get_mem hkt)) hp2 (by omega)
            generalize exprs[k] = y at *
            repeat' ((conv => whnf); first | (with_reducible refine exI (qk _) ?_) | (with_reducible refine ixJ i rfl ?_ ?_; (focus (omega))) | (with_reducible refine ixJ k rfl ?_ ?_; (focus (omega))) | (refine exI hx4 ?_) | (refine exI hy ?_) | (refine exI (qk _) ?_) | (first | refine stp ?_ | with_reducible refine condB (fun h => ?_) (fun h => ?_)))
            conv => whnf
            refine ⟨k + 1, hkt, by show exprs.length - (k + 1) < exprs.length - k; omega, FgL.mk0 rfl ?_⟩
            rw [hat]; (repeat (first | exact trivial | refine stw ?_))
          · have e4 : decide (heftL (exprs.take k) l0 ≥ 0) = false := by simpa using hp2
            have hst := heftL_stop exprs l0 k (by omega)
            rw [hst] at hs
            simp only [ifp, if_neg hp2] at hs
            repeat' ((conv => whnf); first | (with_reducible refine ixJ i rfl ?_ ?_; (focus (omega))) | (refine exI hx4 ?_) | (first | refine stp ?_ | with_reducible refine condB (fun h => ?_) (fun h => ?_)))
            conv => whnf
            refine ⟨i + 1, hlt, by show l.length - (i + 1) < l.length - i; omega, FgL.mk0 rfl ?_⟩
            rw [hs]; (repeat (first | exact trivial | refine stw ?_))
        · have e3 : decide ((k : Int) < (exprs.length : Int)) = false := by simpa using hkt
          have hk2 : k = exprs.length := by have := hk; omega
          subst hk2
          rw [List.take_length] at hke ⊢
          generalize heftL exprs l0 = l1 at *
          by_cases hp2 : 0 ≤ l1
          · have e4 : decide (l1 ≥ 0) = true := by simpa using hp2
            simp only [ifp, if_pos hp2] at hs
            have qt1 := qt l1 hp2 (by omega)
            have ht1 := heftSL_le thn l1
            generalize heftSL thn l1 = l2 at *
            by_cases hp3 : 0 ≤ l2
            · have e5 : decide (l2 ≥ 0) = true := by simpa using hp3
              simp only [if_pos hp3] at hs
              have qe1 := qe l2 hp3 (by omega)
              generalize heftSL els l2 = l3 at *
              repeat' ((conv => whnf); first | (with_reducible refine ixJ i rfl ?_ ?_; (focus (omega))) | (refine exI hx4 ?_) | (refine exI hx5 ?_) | (refine exI hx6 ?_) | (refine exI (qt1 _) ?_) | (refine exI (qe1 _) ?_) | (first | refine stp ?_ | with_reducible refine condB (fun h => ?_) (fun h => ?_)))
              conv => whnf
              refine ⟨i + 1, hlt, by show l.length - (i + 1) < l.length - i; omega, FgL.mk0 rfl ?_⟩
              rw [hs]; (repeat (first | exact trivial | refine stw ?_))
            · have e5 : decide (l2 ≥ 0) = false := by simpa using hp3
              simp only [if_neg hp3] at hs
              repeat' ((conv => whnf); first | (with_reducible refine ixJ i rfl ?_ ?_; (focus (omega))) | (refine exI hx4 ?_) | (refine exI hx5 ?_) | (refine exI hx6 ?_) | (refine exI (qt1 _) ?_) | (first | refine stp ?_ | with_reducible refine condB (fun h => ?_) (fun h => ?_)))
              conv => whnf
              refine ⟨i + 1, hlt, by show l.length - (i + 1) < l.length - i; omega, FgL.mk0 rfl ?_⟩
              rw [hs]; (repeat (first | exact trivial | refine stw ?_))
          · have e4 : decide (l1 ≥ 0) = false := by simpa using hp2
            simp only [ifp, if_neg hp2] at hs
            repeat' ((conv => whnf); first | (with_reducible refine ixJ i rfl ?_ ?_; (focus (omega))) | (refine exI hx4 ?_) | (first | refine stp ?_ | with_reducible refine condB (fun h => ?_) (fun h => ?_)))
            conv => whnf
            refine ⟨i + 1, hlt, by show l.length - (i + 1) < l.length - i; omega, FgL.mk0 rfl ?_⟩
            rw [hs]; (repeat (first | exact trivial | refine stw ?_))
      · have e2 : decide (heftSL (l.take i) a ≥ 0) = false := by simpa using hpos
        have hst := heftSL_stop l a i (by omega)
        rw [hst]
        repeat' ((conv => whnf); first | refine stp ?_ | with_reducible refine condB (fun h => ?_) (fun h => ?_))
        all_goals rfl
    · have e1 : decide ((i : Int) < (l.length : Int)) = false := by simpa using hlt
      have hi2 : i = l.length := by have := hi; omega
      subst hi2
      rw [List.take_length]
      repeat' ((conv => whnf); first | refine stp ?_ | with_reducible refine condB (fun h => ?_) (fun h => ?_))
      all_goals rfl
end Go.Proofs.YtblnhcafobifgaaGreatDoor.lex
end


section

set_option linter.unusedVariables false
set_option linter.unusedSimpArgs false
namespace Go.Proofs.YtblnhcafobifgaaGreatDoor.lex
open Go.Abs Go.RowKit
set_option maxRecDepth 100000
set_option maxHeartbeats 4000000
variable {gl : Glob}
def heftD : List Dc → Int → Int
  | [], l => l
  | x :: k, l => if 0 ≤ l then heftD k (l - (x.name.length / 20 : Nat)) else l
def heftTL : List (List St) → Int → Int
  | [], l => l
  | x :: k, l => if 0 ≤ l then heftTL k (heftSL x l) else l
def lightP (p : Pr) (m : Int) : Bool := decide (0 ≤ heftTL p.threads (heftD p.decls (m - min (m + 1) (p.decls.length : Int) - min (m + 1) (p.threads.length : Int))))
theorem heftD_le : ∀ (k : List Dc) (l : Int), heftD k l ≤ l
  | [], l => by simp only [heftD]; omega
  | x :: k, l => by
    simp only [heftD]
    split
    · have := heftD_le k (l - (x.name.length / 20 : Nat)); omega
    · omega
theorem heftTL_le : ∀ (k : List (List St)) (l : Int), heftTL k l ≤ l
  | [], l => by simp only [heftTL]; omega
  | x :: k, l => by
    simp only [heftTL]
    split
    · have := heftTL_le k (heftSL x l); have := heftSL_le x l; omega
    · omega
theorem heftTL_size : ∀ (k : List (List St)) (l : Int), 0 ≤ heftTL k l → (sizeTL k : Int) + heftTL k l ≤ l
  | [], l, h => by simp only [heftTL, sizeTL] at *; omega
  | x :: k, l, h => by
    simp only [heftTL, sizeTL] at *
    split at h
    · rename_i hl
      rw [if_pos hl]
      have h1 := heftTL_size k _ h
      have h2 : 0 ≤ heftSL x l := by omega
      have h3 := heftSL_size x l h2
      omega
    · omega
theorem lightP_size (p : Pr) (m : Nat) (h : lightP p m = true) : sizeTL p.threads ≤ m := by
  simp only [lightP, decide_eq_true_eq] at h
  have h1 := heftTL_size _ _ h
  have h2 := heftD_le p.decls ((m : Int) - min ((m : Int) + 1) (p.decls.length : Int) - min ((m : Int) + 1) (p.threads.length : Int))
  omega
theorem heftD_at : ∀ (k : List Dc) (l : Int) (i : Nat) (h : i < k.length), heftD (k.take (i + 1)) l = if 0 ≤ heftD (k.take i) l then heftD (k.take i) l - (k[i].name.length / 20 : Nat) else heftD (k.take i) l
  | e :: k, l, 0, h => by simp only [List.take_succ_cons, List.take_zero, heftD, List.getElem_cons_zero]
  | e :: k, l, i + 1, h => by
    have ih := fun l => heftD_at k l i (by simpa using h)
    simp only [List.take_succ_cons, heftD, List.getElem_cons_succ] at ih ⊢
    split
    · exact ih _
    · rename_i h2; simp [h2]
theorem heftD_stop : ∀ (k : List Dc) (l : Int) (i : Nat), heftD (k.take i) l < 0 → heftD k l = heftD (k.take i) l
  | [], l, i, h => by simp [heftD]
  | e :: k, l, 0, h => by
    simp only [List.take_zero, heftD] at *
    rw [if_neg (by omega)]
  | e :: k, l, i + 1, h => by
    simp only [List.take_succ_cons, heftD] at *
    split
    · rename_i hl
      rw [if_pos hl] at h
      exact heftD_stop k _ i h
    · rfl
theorem heftTL_at : ∀ (k : List (List St)) (l : Int) (i : Nat) (h : i < k.length), heftTL (k.take (i + 1)) l = if 0 ≤ heftTL (k.take i) l then heftSL k[i] (heftTL (k.take i) l) else heftTL (k.take i) l
  | e :: k, l, 0, h => by simp only [List.take_succ_cons, List.take_zero, heftTL, List.getElem_cons_zero]
  | e :: k, l, i + 1, h => by
    have ih := fun l => heftTL_at k l i (by simpa using h)
    simp only [List.take_succ_cons, heftTL, List.getElem_cons_succ] at ih ⊢
    split
    · exact ih _
    · rename_i h2; simp [h2]
theorem heftTL_stop : ∀ (k : List (List St)) (l : Int) (i : Nat), heftTL (k.take i) l < 0 → heftTL k l = heftTL (k.take i) l
  | [], l, i, h => by simp [heftTL]
  | e :: k, l, 0, h => by
    simp only [List.take_zero, heftTL] at *
    rw [if_neg (by omega)]
  | e :: k, l, i + 1, h => by
    simp only [List.take_succ_cons, heftTL] at *
    split
    · rename_i hl
      rw [if_pos hl] at h
      exact heftTL_stop k _ i h
    · rfl
theorem lightP_ok (p : Pr) (m : Int) (hok : okP p) (hm0 : 0 ≤ m) (hm1 : m ≤ 1048576) : ValOK Tryz.prog gl 10 [p.av, .int .i64 m] (.bool (lightP p m)) := by
  obtain ⟨⟨hd1, hd2⟩, ht1, ht2⟩ := hok
  obtain ⟨O, hO, p1, -⟩ := fams (P := Tryz.prog) (gl := gl) [{ I := List St × Int, f := 25, G := fun q => okSL q.1 ∧ q.1.length ≤ 9223372036854775807 ∧ 0 ≤ q.2 ∧ q.2 ≤ 1048576, A := fun q => [stA q.1, .int .i64 q.2], R := fun q => .int .i64 (heftSL q.1 q.2), body := (by kernel_rfl), inj := (fun i j _ _ h => by simp only [List.cons.injEq, AV.int.injEq, and_true, true_and] at h; rw [stA_inj h.1, h.2]), ok := (fun q hq => ⟨rfl, hefts_ok _ q.1 q.2 (Nat.le_refl _) hq.1 hq.2.1 hq.2.2.1 hq.2.2.2⟩) }] rfl
  have q1 : ∀ x a, okSL x → x.length ≤ 9223372036854775807 → 0 ≤ a → a ≤ 1048576 → ∀ H, acall Tryz.prog O H 25 [stA x, .int .i64 a] = some (.int .i64 (heftSL x a), H) := fun x a h1 h2 h3 h4 => p1 (x, a) ⟨h1, h2, h3, h4⟩
  clear p1
  obtain ⟨ds, ts⟩ := p
  simp only [Pr.av, lightP] at *
  have w1 : IntKind.i64.wrap (m + 1) = m + 1 := wrapB (by omega) (by omega)
  have hl0 : m - (if (ds.length : Int) < m + 1 then (ds.length : Int) else m + 1) - (if (ts.length : Int) < m + 1 then (ts.length : Int) else m + 1) = m - min (m + 1) (ds.length : Int) - min (m + 1) (ts.length : Int) := by
    rw [Int.min_def, Int.min_def]; split <;> split <;> split <;> split <;> omega
  generalize m - min (m + 1) (ds.length : Int) - min (m + 1) (ts.length : Int) = l0 at *
  have hlm : l0 ≤ 1048576 := by omega
  have hlm2 : -9000000000000000000 ≤ l0 := by omega
  refine fn_val follows noNum hO Tryz.func10 rfl ?_
  repeat' ((conv => whnf); first | (with_reducible refine exW w1 ?_) | (first | refine stp ?_ | with_reducible refine condB (fun h => ?_) (fun h => ?_)))
  conv => whnf
  rw [hl0]
  refine ⟨Nat, (fun i => i ≤ ds.length), (fun i => [(2, .ptr 0 0), (5, .int .i64 (heftD (ds.take i) l0)), (6, .int .i64 i)]), (fun _ => [⟨true, 0, 0, .cells [.rs ds.length 3 (dcC ds), .rs ts.length 1 (ts.map stA)] 29⟩]), (fun i => ds.length - i), ⟨0, Nat.zero_le _, FgL.mk [0] rfl ?_ ⟨⟨rfl, rfl, rfl, rfl, BodyGe.pre (rest := []) rfl rfl⟩, trivial⟩ rfl⟩, ?_⟩
  · simp only [List.take_zero, heftD]; (repeat (first | exact trivial | refine stw ?_))
  intro i hi
  dsimp only
  have hle := heftD_le (ds.take i) l0
  by_cases hc : i < ds.length ∧ 0 ≤ heftD (ds.take i) l0
  · obtain ⟨hlt, hpos⟩ := hc
    have e1 : decide ((i : Int) < (ds.length : Int)) = true := by simpa using hlt
    have e2 : decide (heftD (ds.take i) l0 ≥ 0) = true := by simpa using hpos
    have hs := heftD_at ds l0 i hlt
    rw [if_pos hpos] at hs
    have hxn := dcn ds i hlt
    have hln := hd2 _ (get_mem hlt)
    generalize heftD (ds.take i) l0 = b at *
    generalize ds[i] = d at *
    obtain ⟨name, pl, vl⟩ := d
    simp only at *
    have q20 : Int.tdiv (name.length : Int) 20 = ((name.length / 20 : Nat) : Int) := rfl
    have w2 : IntKind.i64.wrap (Int.tdiv (name.length : Int) 20) = ((name.length / 20 : Nat) : Int) := by rw [q20]; exact wrapB (by omega) (by omega)
    have w3 : IntKind.i64.wrap (b - ((name.length / 20 : Nat) : Int)) = b - ((name.length / 20 : Nat) : Int) := wrapB (by omega) (by omega)
    repeat' ((conv => whnf); first | (refine And.intro (show (20 : Int) ≠ 0 by decide) ?_) | (rw [w2]) | (with_reducible refine exW w3 ?_) | (with_reducible refine ixJ i rfl ?_ ?_; (focus (omega))) | (refine exI hxn ?_) | (first | refine stp ?_ | with_reducible refine condB (fun h => ?_) (fun h => ?_)))
    conv => whnf
    refine ⟨i + 1, hlt, by show ds.length - (i + 1) < ds.length - i; omega, FgL.mk [0] rfl ?_ ⟨⟨rfl, rfl, rfl, rfl, BodyGe.pre (rest := []) rfl rfl⟩, trivial⟩ rfl⟩
    rw [hs]; (repeat (first | exact trivial | refine stw ?_))
  · have hfin : heftD (ds.take i) l0 = heftD ds l0 := by
      by_cases hlt : i < ds.length
      · exact (heftD_stop ds l0 i (by omega)).symm
      · rw [List.take_of_length_le (by omega)]
    rw [hfin] at hc hle ⊢
    generalize heftD ds l0 = l1 at *
    obtain ⟨b1, e1, hb⟩ : ∃ b1, decide ((i : Int) < (ds.length : Int)) = b1 ∧ (b1 = true → decide (l1 ≥ 0) = false) := ⟨_, rfl, fun h => by simp only [decide_eq_true_eq, decide_eq_false_iff_not] at *; omega⟩
    have hb2 : b1 = false ∨ b1 = true ∧ decide (l1 ≥ 0) = false := by cases b1 <;> simp_all
    clear hb
    rcases hb2 with rfl | ⟨rfl, e2⟩
    all_goals
      repeat' ((conv => whnf); first | refine stp ?_ | with_reducible refine condB (fun h => ?_) (fun h => ?_))
      conv => whnf
      refine ⟨Nat, (fun i => i ≤ ts.length), (fun i => [(2, .ptr 0 0), (5, .int .i64 (heftTL (ts.take i) l1)), (7, .int .i64 i)]), (fun _ => [⟨true, 0, 0, .cells [.rs ds.length 3 (dcC ds), .rs ts.length 1 (ts.map stA)] 29⟩]), (fun i => ts.length - i), ⟨0, Nat.zero_le _, FgL.mk [0] rfl ?_ ⟨⟨rfl, rfl, rfl, rfl, BodyGe.pre (rest := []) rfl rfl⟩, trivial⟩ rfl⟩, ?_⟩
      · simp only [List.take_zero, heftTL]; (repeat (first | exact trivial | refine stw ?_))
      clear e1
      try clear e2
      intro k hk
      dsimp only
      have hlk := heftTL_le (ts.take k) l1
      by_cases hkt : k < ts.length
      · have e1 : decide ((k : Int) < (ts.length : Int)) = true := by simpa using hkt
        by_cases hpos : 0 ≤ heftTL (ts.take k) l1
        · have e2 : decide (heftTL (ts.take k) l1 ≥ 0) = true := by simpa using hpos
          have hs := heftTL_at ts l1 k hkt
          rw [if_pos hpos] at hs
          have hx := th1 ts k hkt
          have hok := okTL_get ht1 _ (get_mem hkt)
          have q2 := q1 ts[k] (heftTL (ts.take k) l1) hok.1 hok.2 hpos (by omega)
          generalize heftTL (ts.take k) l1 = b at *
          generalize ts[k] = t at *
          simp only [stA] at hx q2
          repeat' ((conv => whnf); first | (with_reducible refine exI (q2 _) ?_) | (with_reducible refine ixJ k rfl ?_ ?_; (focus (omega))) | (refine exI hx ?_) | (first | refine stp ?_ | with_reducible refine condB (fun h => ?_) (fun h => ?_)))
          conv => whnf
          refine ⟨k + 1, hkt, by show ts.length - (k + 1) < ts.length - k; omega, FgL.mk [0] rfl ?_ ⟨⟨rfl, rfl, rfl, rfl, BodyGe.pre (rest := []) rfl rfl⟩, trivial⟩ rfl⟩
          rw [hs]; (repeat (first | exact trivial | refine stw ?_))
        · have e2 : decide (heftTL (ts.take k) l1 ≥ 0) = false := by simpa using hpos
          have hst := heftTL_stop ts l1 k (by omega)
          rw [hst]
          repeat' ((conv => whnf); first | refine stp ?_ | with_reducible refine condB (fun h => ?_) (fun h => ?_))
          all_goals rfl
      · have e1 : decide ((k : Int) < (ts.length : Int)) = false := by simpa using hkt
        have hk2 : k = ts.length := by have := hk; omega
        subst hk2
        rw [List.take_length]
        repeat' ((conv => whnf); first | refine stp ?_ | with_reducible refine condB (fun h => ?_) (fun h => ?_))
        all_goals rfl
end Go.Proofs.YtblnhcafobifgaaGreatDoor.lex
end


section

set_option linter.unusedVariables false
set_option linter.unusedSimpArgs false
namespace Go.Proofs.YtblnhcafobifgaaGreatDoor.lex
open Go.Abs Go.RowKit
set_option maxRecDepth 100000
set_option maxHeartbeats 4000000
def QE (us : List AV) : Prop := ∃ e : Ex, us = e.cells ∧ okE e
def QEL (us : List AV) : Prop := ∃ l : List Ex, us = [exA l] ∧ okL l ∧ l.length ≤ maxLen
def QI (us : List AV) : Prop := ∃ n, us = [.int .i64 n] ∧ (Lit.int .i64 n).wf = true
def QB (us : List AV) : Prop := ∃ b, us = [.bool b]
def QT (us : List AV) : Prop := ∃ s : List UInt8, us = [.str s] ∧ s.length ≤ maxLen
def QS (us : List AV) : Prop := ∃ e : St, us = e.cells ∧ okS e
def QSL (us : List AV) : Prop := ∃ l : List St, us = [stA l] ∧ okSL l ∧ l.length ≤ maxLen
def QTL (us : List AV) : Prop := ∃ l : List (List St), us = [.rs l.length 1 (l.map stA)] ∧ okTL l ∧ l.length ≤ maxLen
def QD (us : List AV) : Prop := ∃ d : Dc, us = d.cells ∧ d.name.length ≤ 9223372036854775807
def QDL (us : List AV) : Prop := ∃ l : List Dc, us = [.rs l.length 3 (dcC l)] ∧ okD l
theorem ex_list : ∀ l : List (List AV), (∀ u ∈ l, QE u ∧ u.length = 4) → ∃ m : List Ex, l.flatten = exC m ∧ l.length = m.length ∧ okL m
  | [], _ => ⟨[], by simp only [exC, List.flatten_nil], rfl, trivial⟩
  | u :: l, h => by
    obtain ⟨m, h1, h2, h3⟩ := ex_list l fun v hv => h v (by simp [hv])
    obtain ⟨⟨e, rfl, h4⟩, _⟩ := h u (by simp)
    exact ⟨e :: m, by simp only [List.flatten_cons, exC, h1], by simp [h2], by simp only [okL]; exact ⟨h4, h3⟩⟩
theorem st_list : ∀ l : List (List AV), (∀ u ∈ l, QS u ∧ u.length = 7) → ∃ m : List St, l.flatten = stC m ∧ l.length = m.length ∧ okSL m
  | [], _ => ⟨[], by simp only [stC, List.flatten_nil], rfl, trivial⟩
  | u :: l, h => by
    obtain ⟨m, h1, h2, h3⟩ := st_list l fun v hv => h v (by simp [hv])
    obtain ⟨⟨e, rfl, h4⟩, _⟩ := h u (by simp)
    exact ⟨e :: m, by simp only [List.flatten_cons, stC, h1], by simp [h2], by simp only [okSL]; exact ⟨h4, h3⟩⟩
theorem dc_list : ∀ l : List (List AV), (∀ u ∈ l, QD u ∧ u.length = 3) → ∃ m : List Dc, l.flatten = dcC m ∧ l.length = m.length ∧ ∀ d ∈ m, d.name.length ≤ 9223372036854775807
  | [], _ => ⟨[], by simp only [dcC, List.flatten_nil], rfl, by simp⟩
  | u :: l, h => by
    obtain ⟨m, h1, h2, h3⟩ := dc_list l fun v hv => h v (by simp [hv])
    obtain ⟨⟨e, rfl, h4⟩, _⟩ := h u (by simp)
    exact ⟨e :: m, by simp only [List.flatten_cons, dcC, h1], by simp [h2], fun d hd => by rcases List.mem_cons.1 hd with rfl | hd; exact h4; exact h3 d hd⟩
theorem th_list : ∀ l : List (List AV), (∀ u ∈ l, QSL u ∧ u.length = 1) → ∃ m : List (List St), l.flatten = m.map stA ∧ l.length = m.length ∧ okTL m
  | [], _ => ⟨[], by simp only [List.map_nil, List.flatten_nil], rfl, trivial⟩
  | u :: l, h => by
    obtain ⟨m, h1, h2, h3⟩ := th_list l fun v hv => h v (by simp [hv])
    obtain ⟨⟨e, rfl, h4, h5⟩, _⟩ := h u (by simp)
    exact ⟨e :: m, by simp only [List.flatten_cons, List.map_cons, h1]; rfl, by simp [h2], by simp only [okTL]; exact ⟨h4, h5, h3⟩⟩
theorem fsE (N : Nat) (h : OpensB Tryz.prog N 62 QEL) : FsOpensB Tryz.prog N (match Tryz.prog.underlying 68 with | some (.struct fs) => fs.toList | _ => []) [QI, QI, QT, QEL] 0 (Tryz.prog.cellsOf 68) := by
  rw [Tryz.underlying68]
  refine ⟨rfl, .of (opens_int Tryz.underlying3), ?_⟩
  refine ⟨by kernel_rfl, .of (opens_int Tryz.underlying2), ?_⟩
  refine ⟨by kernel_rfl, .of (opens_str Tryz.underlying9), ?_⟩
  refine ⟨by kernel_rfl, h, ?_⟩
  unfold FsOpensB; kernel_rfl
theorem q_e {us : List AV} (h : FsQ [QI, QI, QT, QEL] us) : QE us := by
  obtain ⟨a, u1, rfl, ⟨n1, rfl, _⟩, b, u2, rfl, ⟨n2, rfl, _⟩, c, u3, rfl, ⟨s, rfl, hs⟩, d, u4, rfl, ⟨k, rfl, hk, hkl⟩, h3⟩ := h
  have h3 : u4 = [] := h3
  subst h3
  exact ⟨.mk n1 n2 s k, by simp only [Ex.cells]; rfl, by simp only [okE, okN]; exact ⟨⟨hs, hkl⟩, hk⟩⟩
theorem opensE : ∀ N, OpensB Tryz.prog N 68 QE ∧ OpensB Tryz.prog N 62 QEL
  | 0 => ⟨opensB_zero, opensB_zero⟩
  | N + 1 => by
    obtain ⟨h1, h2⟩ := opensE N
    have h3 := fsE N h2
    rw [Tryz.underlying68] at h3
    refine ⟨(opensB_struct Tryz.underlying68 h3).mono fun u hu => q_e hu, (opensB_slice Tryz.underlying62 (by kernel_rfl) (show (4 : Nat) ≠ 0 by decide) h1).mono ?_⟩
    rintro u ⟨l, hl, rfl, hll⟩
    obtain ⟨m, e1, e2, e3⟩ := ex_list l hl
    exact ⟨m, by rw [e1, e2]; rfl, e3, by rw [← e2]; exact hll⟩
theorem fsS (N : Nat) (h : OpensB Tryz.prog N 35 QSL) : FsOpensB Tryz.prog N (match Tryz.prog.underlying 64 with | some (.struct fs) => fs.toList | _ => []) [QI, QT, QT, QI, QEL, QSL, QSL] 0 (Tryz.prog.cellsOf 64) := by
  rw [Tryz.underlying64]
  refine ⟨rfl, .of (opens_int Tryz.underlying3), ?_⟩
  refine ⟨by kernel_rfl, .of (opens_str Tryz.underlying9), ?_⟩
  refine ⟨by kernel_rfl, .of (opens_str Tryz.underlying9), ?_⟩
  refine ⟨by kernel_rfl, .of (opens_int Tryz.underlying3), ?_⟩
  refine ⟨by kernel_rfl, (opensE N).2, ?_⟩
  refine ⟨by kernel_rfl, h, ?_⟩
  refine ⟨by kernel_rfl, h, ?_⟩
  unfold FsOpensB; kernel_rfl
theorem q_s {us : List AV} (h : FsQ [QI, QT, QT, QI, QEL, QSL, QSL] us) : QS us := by
  obtain ⟨a, u1, rfl, ⟨n1, rfl, _⟩, b, u2, rfl, ⟨s1, rfl, hs1⟩, c, u3, rfl, ⟨s2, rfl, hs2⟩, d, u4, rfl, ⟨n2, rfl, _⟩, e, u5, rfl, ⟨x, rfl, hx, hxl⟩, f, u6, rfl, ⟨t, rfl, ht, htl⟩, g, u7, rfl, ⟨k, rfl, hk, hkl⟩, h3⟩ := h
  have h3 : u7 = [] := h3
  subst h3
  exact ⟨.mk n1 s1 s2 n2 x t k, by simp only [St.cells, stA]; rfl, by simp only [okS, okN]; exact ⟨⟨hs1, hxl⟩, ⟨hs2, htl⟩, hkl, hx, ht, hk⟩⟩
theorem opensS : ∀ N, OpensB Tryz.prog N 64 QS ∧ OpensB Tryz.prog N 35 QSL
  | 0 => ⟨opensB_zero, opensB_zero⟩
  | N + 1 => by
    obtain ⟨h1, h2⟩ := opensS N
    have h3 := fsS N h2
    rw [Tryz.underlying64] at h3
    refine ⟨(opensB_struct Tryz.underlying64 h3).mono fun u hu => q_s hu, (opensB_slice Tryz.underlying35 (by kernel_rfl) (show (7 : Nat) ≠ 0 by decide) h1).mono ?_⟩
    rintro u ⟨l, hl, rfl, hll⟩
    obtain ⟨m, e1, e2, e3⟩ := st_list l hl
    exact ⟨m, by rw [e1, e2]; rfl, e3, by rw [← e2]; exact hll⟩
theorem fsD : FsOpens Tryz.prog (match Tryz.prog.underlying 55 with | some (.struct fs) => fs.toList | _ => []) [QT, QB, QI] 0 (Tryz.prog.cellsOf 55) := by
  rw [Tryz.underlying55]
  refine ⟨rfl, opens_str Tryz.underlying9, ?_⟩
  refine ⟨by kernel_rfl, opens_bool Tryz.underlying4, ?_⟩
  refine ⟨by kernel_rfl, opens_int Tryz.underlying2, ?_⟩
  unfold FsOpens; kernel_rfl
theorem q_d {us : List AV} (h : FsQ [QT, QB, QI] us) : QD us := by
  obtain ⟨a, u1, rfl, ⟨s, rfl, hs⟩, b, u2, rfl, ⟨n1, rfl⟩, c, u3, rfl, ⟨n2, rfl, _⟩, h3⟩ := h
  have h3 : u3 = [] := h3
  subst h3
  exact ⟨⟨s, n1, n2⟩, rfl, hs⟩
theorem opensDL : Opens Tryz.prog 26 QDL := by
  have h3 := fsD
  rw [Tryz.underlying55] at h3
  refine opens_mono (opens_slice Tryz.underlying26 (by kernel_rfl) (show (3 : Nat) ≠ 0 by decide) (opens_mono (opens_struct Tryz.underlying55 h3) fun u hu => q_d hu)) ?_
  rintro u ⟨l, hl, rfl, hll⟩
  obtain ⟨m, e1, e2, e3⟩ := dc_list l hl
  exact ⟨m, by rw [e1, e2], by rw [← e2]; exact hll, e3⟩
theorem opensTL : Opens Tryz.prog 27 QTL := by
  refine opens_mono (opens_slice Tryz.underlying27 (by kernel_rfl) (show (1 : Nat) ≠ 0 by decide) (OpensB.all fun N => (opensS N).2)) ?_
  rintro u ⟨l, hl, rfl, hll⟩
  obtain ⟨m, e1, e2, e3⟩ := th_list l hl
  exact ⟨m, by rw [e1, e2], e3, by rw [← e2]; exact hll⟩
theorem fsP : FsOpens Tryz.prog (match Tryz.prog.underlying 29 with | some (.struct fs) => fs.toList | _ => []) [QDL, QTL] 0 (Tryz.prog.cellsOf 29) := by
  rw [Tryz.underlying29]
  refine ⟨rfl, opensDL, ?_⟩
  refine ⟨by kernel_rfl, opensTL, ?_⟩
  unfold FsOpens; kernel_rfl
theorem opensP : OpensV Tryz.prog 29 fun u => ∃ p : Pr, u = p.av ∧ okP p := by
  have h3 := fsP
  rw [Tryz.underlying29] at h3
  refine opensV_mono (opensV_struct Tryz.underlying29 h3) ?_
  rintro u ⟨us, rfl, a, u1, rfl, ⟨ds, rfl, hd⟩, b, u2, rfl, ⟨ts, rfl, ht, htl⟩, h4⟩
  have h4 : u2 = [] := h4
  subst h4
  exact ⟨⟨ds, ts⟩, rfl, hd, ht, htl⟩
end Go.Proofs.YtblnhcafobifgaaGreatDoor.lex
end


section

set_option linter.unusedVariables false
set_option linter.unusedSimpArgs false
namespace Go.Proofs.YtblnhcafobifgaaGreatDoor.lex
open Go.Abs Go.RowKit
set_option maxRecDepth 100000
set_option maxHeartbeats 4000000
open runLives (follows noNum)
theorem wf_le {n : Int} (h : (Lit.int .i64 n).wf = true) : n ≤ 9223372036854775807 := by
  have h' : IntKind.i64.min ≤ n ∧ n ≤ 9223372036854775807 := by simpa [Lit.wf] using h
  exact h'.2
theorem tgN : tagg Tryz.prog 3 = some false := by kernel_rfl
theorem feW : fieldsEq Tryz.prog 32 = some [(3, 0), (3, 1)] := by kernel_rfl
theorem egW : Tryz.prog.eqGuardType Tryz.prog.depth 32 = false := by kernel_rfl
theorem aggW (a b : Int) : aggEq Tryz.prog 32 [.int .i64 a, .int .i64 b] [.int .i64 a, .int .i64 b] = some true := by
  have := aggEq_ok egW feW (eqF_cons (xs := [.int .i64 a, .int .i64 b]) (ys := [.int .i64 a, .int .i64 b]) tgN rfl rfl (eqB_int Tryz.underlying3 a a) (eqF_cons tgN rfl rfl (eqB_int Tryz.underlying3 b b) rfl))
  simpa using this
theorem lightP_lens (p : Pr) (m : Nat) (h : lightP p m = true) : p.decls.length ≤ m ∧ p.threads.length ≤ m := by
  simp only [lightP, decide_eq_true_eq] at h
  have h1 := heftTL_le p.threads (heftD p.decls ((m : Int) - min ((m : Int) + 1) (p.decls.length : Int) - min ((m : Int) + 1) (p.threads.length : Int)))
  have h2 := heftD_le p.decls ((m : Int) - min ((m : Int) + 1) (p.decls.length : Int) - min ((m : Int) + 1) (p.threads.length : Int))
  omega
def tD (p : Pr) (e : Int) : List Dc := cond (e == 0) p.decls []
def tR (p : Pr) (e : Int) : List (List (List UInt8)) := cond (e == 0) (rgT p.threads) []
theorem tabR_eq (p : Pr) (e : Int) : tabR p e = .tuple [.agg (tabC (tD p e) (tR p e)), .int .i64 e] := by
  unfold tabR tD tR
  cases h : e == 0 with
  | false => rfl
  | true => rw [eq_of_beq h]; rfl
theorem tR_small (p : Pr) (e : Int) (hs : sizeTL p.threads ≤ 800000) : ∀ r ∈ tR p e, r.length ≤ 1048576 := by
  unfold tR
  cases e == 0 with
  | false => intro r h; cases h
  | true =>
    intro r h
    obtain ⟨l, hl, rfl⟩ := List.mem_map.1 h
    have h1 := (sortB_perm (rgN0 l)).length_eq
    have h2 := addA_len (nmSL l) []
    have h3 := nmSL_len l
    have h4 := sizeTL_mem _ _ hl
    simp only [List.length_nil] at h2
    unfold rgN0 at h1 ⊢
    omega
theorem cjLaw (p : Pr) (s : List UInt8) (t : Int) (hp : okP p) (ht : t ≤ 9223372036854775807) : ValOK Tryz.prog runLives.gl 6 [p.av, .str s, .int .i64 t] (.bool true) := by
  have hG : lightP p ((3000 : Nat) : Int) = true → sizeTL p.threads ≤ 800000 ∧ p.decls.length ≤ 1048576 ∧ p.threads.length ≤ 1048576 := fun h => by
    have h1 := lightP_size p 3000 h
    have h2 := lightP_lens p 3000 h
    omega
  obtain ⟨W1, W2, E, hW⟩ : ∃ a b c, chkW p = (a, b, c) := ⟨_, _, _, rfl⟩
  have hD : (tD p E).length ≤ 9223372036854775807 := by
    unfold tD
    cases E == 0 with
    | false => exact Nat.zero_le _
    | true => exact hp.1.1
  have hRl : (tR p E).length ≤ 9223372036854775807 := by
    unfold tR
    cases E == 0 with
    | false => exact Nat.zero_le _
    | true => rw [cond_true, rgT_len]; exact hp.2.2
  have hRs := tR_small p E
  have hT := tabR_eq p E
  have hc1 : sizeTL p.threads ≤ 800000 → _ := checkX_ok p hp
  have hc2 : sizeTL p.threads ≤ 800000 → _ := checkR6_ok (gl := runLives.gl) p hp
  have hc3 : sizeTL p.threads ≤ 800000 → _ := tabsX_ok p hp
  have hc4 : sizeTL p.threads ≤ 800000 → _ := tabsR_ok p hp
  rw [hW] at hc1 hc2 hc3 hc4
  simp only [resW, hT] at hc1 hc2 hc3 hc4
  generalize tD p E = D at *
  generalize tR p E = RR at *
  obtain ⟨O, hO, p1, p2, p3, p4, p5, p6, p7, p8, p9, p10, p11, -⟩ := fams (P := Tryz.prog) (gl := runLives.gl) [
    one0 (f := 7) (A := []) (R := .bool true) True (by kernel_rfl) rfl (fun _ => livesV),
    one0 (f := 10) (A := [p.av, .int .i64 3000]) (R := .bool (lightP p ((3000 : Nat) : Int))) True (by kernel_rfl) rfl (fun _ => lightP_ok p ((3000 : Nat) : Int) hp (by decide) (by decide)),
    one0 (f := 11) (A := [p.av]) (R := .tuple [.agg [.int .i64 W1, .int .i64 W2], .int .i64 E]) (lightP p ((3000 : Nat) : Int) = true) (by kernel_rfl) rfl (fun h => hc1 (hG h).1),
    one0 (f := 20) (A := [p.av]) (R := .tuple [.agg [.int .i64 W1, .int .i64 W2], .int .i64 E]) (lightP p ((3000 : Nat) : Int) = true) (by kernel_rfl) rfl (fun h => hc2 (hG h).1),
    one0 (f := 12) (A := [p.av]) (R := .tuple [.agg (tabC D RR), .int .i64 E]) (lightP p ((3000 : Nat) : Int) = true) (by kernel_rfl) rfl (fun h => hc3 (hG h).1 (hG h).2.1 (hG h).2.2),
    one0 (f := 21) (A := [p.av]) (R := .tuple [.agg (tabC D RR), .int .i64 E]) (lightP p ((3000 : Nat) : Int) = true) (by kernel_rfl) rfl (fun h => hc4 (hG h).1 (hG h).2.1 (hG h).2.2),
    one0 (f := 22) (A := [.agg (tabC D RR), .agg (tabC D RR)]) (R := .bool true) (lightP p ((3000 : Nat) : Int) = true) (by kernel_rfl) rfl (fun h => same_ok D RR hD (hRs (hG h).1) hRl),
    one0 (f := 18) (A := [.agg (tabC D RR), .str s]) (R := .int .i64 (findD D s)) True (by kernel_rfl) rfl (fun _ => locX_ok D RR s hD),
    one0 (f := 23) (A := [.agg (tabC D RR), .str s]) (R := .int .i64 (findD D s)) True (by kernel_rfl) rfl (fun _ => locR_ok D RR s hD),
    one0 (f := 19) (A := [.agg (tabC D RR), .int .i64 t, .str s]) (R := .int .i64 (regV RR t s)) (lightP p ((3000 : Nat) : Int) = true) (by kernel_rfl) rfl (fun h => regX_ok D RR t s ht (hRs (hG h).1)),
    one0 (f := 24) (A := [.agg (tabC D RR), .int .i64 t, .str s]) (R := .int .i64 (regV RR t s)) (lightP p ((3000 : Nat) : Int) = true) (by kernel_rfl) rfl (fun h => regR6_ok D RR t s ht (hRs (hG h).1))] rfl
  have q1 : ∀ H, acall Tryz.prog O H 7 [] = some (.bool true, H) := p1 () trivial
  have q2 : ∀ H, acall Tryz.prog O H 10 [p.av, .int .i64 3000] = some (.bool (lightP p ((3000 : Nat) : Int)), H) := p2 () trivial
  have q8 : ∀ H, acall Tryz.prog O H 18 [.agg (tabC D RR), .str s] = some (.int .i64 (findD D s), H) := p8 () trivial
  have q9 : ∀ H, acall Tryz.prog O H 23 [.agg (tabC D RR), .str s] = some (.int .i64 (findD D s), H) := p9 () trivial
  have q3 : lightP p ((3000 : Nat) : Int) = true → ∀ H, acall Tryz.prog O H 11 [p.av] = some (.tuple [.agg [.int .i64 W1, .int .i64 W2], .int .i64 E], H) := p3 ()
  have q4 : lightP p ((3000 : Nat) : Int) = true → ∀ H, acall Tryz.prog O H 20 [p.av] = some (.tuple [.agg [.int .i64 W1, .int .i64 W2], .int .i64 E], H) := p4 ()
  have q5 : lightP p ((3000 : Nat) : Int) = true → ∀ H, acall Tryz.prog O H 12 [p.av] = some (.tuple [.agg (tabC D RR), .int .i64 E], H) := p5 ()
  have q6 : lightP p ((3000 : Nat) : Int) = true → ∀ H, acall Tryz.prog O H 21 [p.av] = some (.tuple [.agg (tabC D RR), .int .i64 E], H) := p6 ()
  have q7 : lightP p ((3000 : Nat) : Int) = true → ∀ H, acall Tryz.prog O H 22 [.agg (tabC D RR), .agg (tabC D RR)] = some (.bool true, H) := p7 ()
  have q10 : lightP p ((3000 : Nat) : Int) = true → ∀ H, acall Tryz.prog O H 19 [.agg (tabC D RR), .int .i64 t, .str s] = some (.int .i64 (regV RR t s), H) := p10 ()
  have q11 : lightP p ((3000 : Nat) : Int) = true → ∀ H, acall Tryz.prog O H 24 [.agg (tabC D RR), .int .i64 t, .str s] = some (.int .i64 (regV RR t s), H) := p11 ()
  clear p1 p2 p3 p4 p5 p6 p7 p8 p9 p10 p11
  generalize lightP p ((3000 : Nat) : Int) = l1 at *
  cases l1 with
  | false =>
    obtain ⟨ds, ts⟩ := p
    simp only [Pr.av] at *
    refine fn_val follows noNum hO Tryz.func6 rfl ?_
    repeat' ((conv => whnf); first | (with_reducible refine exI (q1 _) ?_) | (with_reducible refine exI (q2 _) ?_) | (first | refine stp ?_ | with_reducible refine condB (fun h => ?_) (fun h => ?_)))
    all_goals rfl
  | true =>
    clear hc1 hc2 hc3 hc4 hT hRs hW hG
    have r3 := q3 rfl
    have r4 := q4 rfl
    have r5 := q5 rfl
    have r6 := q6 rfl
    have r7 := q7 rfl
    have r10 := q10 rfl
    have r11 := q11 rfl
    clear q3 q4 q5 q6 q7 q10 q11
    generalize findD D s = v1 at *
    generalize regV RR t s = v2 at *
    have f1 : (E == E) = true := by simp
    have f2 : (v1 == v1) = true := by simp
    have f3 : (v2 == v2) = true := by simp
    obtain ⟨ds, ts⟩ := p
    simp only [Pr.av, tabC] at *
    refine fn_val follows noNum hO Tryz.func6 rfl ?_
    repeat' ((conv => whnf); first | (with_reducible refine exI (q1 _) ?_) | (with_reducible refine exI (q2 _) ?_) | (with_reducible refine exI (r3 _) ?_) | (with_reducible refine exI (r4 _) ?_) | (with_reducible refine exI (r5 _) ?_) | (with_reducible refine exI (r6 _) ?_) | (with_reducible refine exI (r7 _) ?_) | (with_reducible refine exI (q8 _) ?_) | (with_reducible refine exI (q9 _) ?_) | (with_reducible refine exI (r10 _) ?_) | (with_reducible refine exI (r11 _) ?_) | (refine exI (aggW _ _) ?_) | (first | refine stp ?_ | with_reducible refine condB (fun h => ?_) (fun h => ?_)))
    all_goals (try (simp_all [resOf]; done))
end Go.Proofs.YtblnhcafobifgaaGreatDoor.lex
namespace Go.Proofs.YtblnhcafobifgaaGreatDoor.cjLaw
open Go.Abs Go.RowKit
def Qs : List (AV → Prop) := [fun u => ∃ p : lex.Pr, u = p.av ∧ lex.okP p, fun u => ∃ s : List UInt8, u = .str s ∧ s.length ≤ maxLen, fun u => ∃ n, u = .int .i64 n ∧ (Lit.int .i64 n).wf = true]
theorem opens : OpensAll Tryz.prog Tryz.f6.params.toList Qs := by
  rw [Tryz.params6]
  exact ⟨lex.opensP, opensV_str Tryz.underlying9, opensV_int Tryz.underlying3, trivial⟩
theorem law (us : List AV) (h : AllQ Qs us) : ValOK Tryz.prog runLives.gl 6 us (.bool true) := by
  obtain ⟨_, _, rfl, ⟨p, rfl, hp⟩, h1⟩ := allQ_cons h
  obtain ⟨_, _, rfl, ⟨b, rfl, hb⟩, h2⟩ := allQ_cons h1
  obtain ⟨_, _, rfl, ⟨c, rfl, hc⟩, h3⟩ := allQ_cons h2
  cases allQ_nil h3
  exact lex.cjLaw p b c hp (lex.wf_le hc)
theorem solid : Solid Tryz.prog := by unfold Solid; kernel_rfl
end Go.Proofs.YtblnhcafobifgaaGreatDoor.cjLaw
end


/-
  Texts of this proof, one behind the other (part 7).
-/
import Derived.Test.YtajhailaofchlaaDoorPack6
import Derived.Test.YtajhailaofchlaaDoorRows
import Derived.KernelRfl

/-
  The program's walk through statements, whatever functions it tells of each and of each expression; what these keep in memory.
-/
section
set_option linter.unusedVariables false
set_option linter.unusedSimpArgs false
namespace Go.Proofs.YtajhailaofchlaaDoor.lex
open Go.Abs Go.RowKit
set_option maxRecDepth 100000
set_option maxHeartbeats 4000000

structure TvS (gl : Glob) extends TvE gl where
  gS : Nat
  cS : List AV
  hS : St → Int → σ → Bool × σ
  bodyS : hasBody Tryd.prog gS = true
  wkS : WkL (List.range k) cS cS
  okS : ∀ x rest d s m, lex.okS x → I d s (m + 1) → MemOK Tryd.prog gl gS ([.rp (x.cells ++ rest), .int .i64 d] ++ cS) (Mem s) (.bool (hS x d s).1) (Mem (hS x d s).2)
  downS : ∀ x d s m, I d s (m + 1) → (hS x d s).1 = true → I (d + 1) (hS x d s).2 m

section
variable {σ : Type}
/-- One, and if that says so, the next. -/
def thenB (r : Bool × σ) (f : σ → Bool × σ) : Bool × σ := if r.1 = true then f r.2 else (false, r.2)
mutual
def goS (hE : Ex → Int → σ → Bool × σ) (hS : St → Int → σ → Bool × σ) : St → Int → σ → Bool × σ
  | .mk k n l o x t e, d, s => thenB (hS (.mk k n l o x t e) d s) fun s1 => thenB (goL hE x (d + 1) s1) fun s2 => thenB (goSL hE hS t (d + 1) s2) fun s3 => goSL hE hS e (d + 1) s3
def goSL (hE : Ex → Int → σ → Bool × σ) (hS : St → Int → σ → Bool × σ) : List St → Int → σ → Bool × σ
  | [], d, s => (true, s)
  | x :: l, d, s => thenB (goS hE hS x d s) fun s1 => goSL hE hS l d s1
end
variable {hE : Ex → Int → σ → Bool × σ} {hS : St → Int → σ → Bool × σ}
theorem goS_eq (x : St) (d : Int) (s : σ) : goS hE hS x d s = thenB (hS x d s) fun s1 => thenB (goL hE x.exprs (d + 1) s1) fun s2 => thenB (goSL hE hS x.thn (d + 1) s2) fun s3 => goSL hE hS x.els (d + 1) s3 := by
  obtain ⟨k, n, l, o, x, t, e⟩ := x
  simp only [goS, St.exprs, St.thn, St.els]
theorem goSL_at : ∀ (l : List St) (d : Int) (t : σ) (i : Nat) (hi : i < l.length), (goSL hE hS (l.take i) d t).1 = true → goSL hE hS (l.take (i + 1)) d t = goS hE hS l[i] d (goSL hE hS (l.take i) d t).2
  | e :: l, d, t, 0, _, _ => by
    simp only [List.take_zero, List.take_succ_cons, goSL, List.getElem_cons_zero, thenB]
    split
    · rename_i h2; rw [← h2]
    · rename_i h2; rw [← Bool.eq_false_iff.2 h2]
  | e :: l, d, t, i + 1, hi, ht => by
    simp only [List.take_succ_cons, goSL, List.getElem_cons_succ, thenB] at ht ⊢
    split
    · rename_i h2
      rw [if_pos h2] at ht
      exact goSL_at l d _ i (by simpa using hi) ht
    · rename_i h2; rw [if_neg h2] at ht; cases ht
theorem goSL_stop : ∀ (l : List St) (d : Int) (t : σ) (i : Nat), (goSL hE hS (l.take i) d t).1 = false → goSL hE hS l d t = goSL hE hS (l.take i) d t
  | [], d, t, i, hf => by simp
  | e :: l, d, t, 0, hf => by simp only [List.take_zero, goSL] at hf; cases hf
  | e :: l, d, t, i + 1, hf => by
    simp only [List.take_succ_cons, goSL, thenB] at hf ⊢
    split
    · rename_i h2
      rw [if_pos h2] at hf
      exact goSL_stop l d _ i hf
    · rfl
theorem thenB_true {r : Bool × σ} {f : σ → Bool × σ} (h : (thenB r f).1 = true) : r.1 = true ∧ thenB r f = f r.2 := by
  unfold thenB at h ⊢
  split at h
  · rename_i h2; exact ⟨h2, by rw [if_pos h2]⟩
  · cases h
end
section
variable {gl : Glob} (V : TvS gl)
def TvS.G : AV := .func (.func V.gS) [] V.cS
mutual
theorem TvS.keepS : ∀ (x : St) (d : Int) (s : V.σ) (m : Nat), V.I d s (sizeS x + m) → (goS V.hE V.hS x d s).1 = true → V.I d (goS V.hE V.hS x d s).2 m
  | .mk k n l o x t e, d, s, m, hI, ht => by
    simp only [goS, sizeS] at hI ht ⊢
    obtain ⟨h1, e1⟩ := thenB_true ht
    rw [e1] at ht ⊢
    obtain ⟨h2, e2⟩ := thenB_true ht
    rw [e2] at ht ⊢
    obtain ⟨h3, e3⟩ := thenB_true ht
    rw [e3] at ht ⊢
    have i1 := V.downS _ d s (sizeL x + (sizeSL t + (sizeSL e + m))) (by rw [show 1 + sizeL x + sizeSL t + sizeSL e + m = sizeL x + (sizeSL t + (sizeSL e + m)) + 1 from by omega] at hI; exact hI) h1
    have i2 := V.toTvE.keepL x (d + 1) _ _ i1 h2
    have i3 := TvS.keepSL t (d + 1) _ _ i2 h3
    exact V.up _ _ _ (V.bnd _ _ _ hI).1 (TvS.keepSL e (d + 1) _ m i3 ht)
theorem TvS.keepSL : ∀ (l : List St) (d : Int) (s : V.σ) (m : Nat), V.I d s (sizeSL l + m) → (goSL V.hE V.hS l d s).1 = true → V.I d (goSL V.hE V.hS l d s).2 m
  | [], d, s, m, hI, ht => by simp only [goSL, sizeSL, Nat.zero_add] at hI ⊢; exact hI
  | x :: l, d, s, m, hI, ht => by
    simp only [goSL, sizeSL] at hI ht ⊢
    obtain ⟨h1, e1⟩ := thenB_true ht
    rw [e1] at ht ⊢
    exact TvS.keepSL l d _ m (TvS.keepS x d s (sizeSL l + m) (by rw [← Nat.add_assoc]; exact hI) h1) ht
end
theorem TvS.stmts : ∀ (n : Nat) (l : List St) (d : Int) (s : V.σ) (m : Nat), sizeSL l ≤ n → okSL l → l.length ≤ 9223372036854775807 → V.I d s (sizeSL l + m) →
    MemOK Tryd.prog gl 38 [stA l, .int .i64 d, V.toTvE.F, V.G] (V.Mem s) (.bool (goSL V.hE V.hS l d s).1) (V.Mem (goSL V.hE V.hS l d s).2)
  | n, l, d, s, m, hn, hok, hl, hI => by
    have hF : ∃ O, OrcSound Tryd.prog gl O ∧
        (∀ (x : List St) (t : V.σ) (q : Nat), sizeSL x < n → okSL x → x.length ≤ 9223372036854775807 → V.I (d + 1) t (sizeSL x + q) → acall Tryd.prog O (V.Mem t) 38 [stA x, .int .i64 (d + 1), V.toTvE.F, V.G] = some (.bool (goSL V.hE V.hS x (d + 1) t).1, V.Mem (goSL V.hE V.hS x (d + 1) t).2)) ∧
        (∀ (x : List Ex) (t : V.σ) (q : Nat), okL x → x.length ≤ 9223372036854775807 → V.I (d + 1) t (sizeL x + q) → acall Tryd.prog O (V.Mem t) 41 [exA x, .int .i64 (d + 1), V.toTvE.F] = some (.bool (goL V.hE x (d + 1) t).1, V.Mem (goL V.hE x (d + 1) t).2)) ∧
        (∀ (i : Nat) (hi : i < l.length) (t : V.σ) (q : Nat), V.I d t (q + 1) → acall Tryd.prog O (V.Mem t) V.gS ([.rp ((stC l).drop (i * 7)), .int .i64 d] ++ V.cS) = some (.bool (V.hS l[i] d t).1, V.Mem (V.hS l[i] d t).2)) := by
      have s1 := orcI_sound (P := Tryd.prog) (gl := gl) (I := List St × V.σ × Nat) (G := fun p => sizeSL p.1 < n ∧ okSL p.1 ∧ p.1.length ≤ 9223372036854775807 ∧ V.I (d + 1) p.2.1 (sizeSL p.1 + p.2.2)) (fF := fun _ => 38) (fA := fun p => [stA p.1, .int .i64 (d + 1), V.toTvE.F, V.G]) (fH := fun p => V.Mem p.2.1) (fR := fun p => .bool (goSL V.hE V.hS p.1 (d + 1) p.2.1).1) (fO := fun p => V.Mem (goSL V.hE V.hS p.1 (d + 1) p.2.1).2) fun p hp => by
        obtain ⟨h0, h1, h2, h3⟩ := hp
        match n, hn, h0 with
        | n + 1, hn, h0 => exact TvS.stmts n _ (d + 1) p.2.1 p.2.2 (by omega) h1 h2 h3
      have s2 := orcI_sound (P := Tryd.prog) (gl := gl) (I := List Ex × V.σ × Nat) (G := fun p => okL p.1 ∧ p.1.length ≤ 9223372036854775807 ∧ V.I (d + 1) p.2.1 (sizeL p.1 + p.2.2)) (fF := fun _ => 41) (fA := fun p => [exA p.1, .int .i64 (d + 1), V.toTvE.F]) (fH := fun p => V.Mem p.2.1) (fR := fun p => .bool (goL V.hE p.1 (d + 1) p.2.1).1) (fO := fun p => V.Mem (goL V.hE p.1 (d + 1) p.2.1).2) fun p hp =>
        V.toTvE.exprs follows _ p.1 (d + 1) p.2.1 p.2.2 (Nat.le_refl _) hp.1 hp.2.1 hp.2.2
      have s3 := orcI_sound (P := Tryd.prog) (gl := gl) (I := Nat × V.σ × Nat) (G := fun p => p.1 < l.length ∧ V.I d p.2.1 (p.2.2 + 1)) (fF := fun _ => V.gS) (fA := fun p => [.rp ((stC l).drop (p.1 * 7)), .int .i64 d] ++ V.cS) (fH := fun p => V.Mem p.2.1) (fR := fun p => .bool (V.hS (l.getD p.1 default) d p.2.1).1) (fO := fun p => V.Mem (V.hS (l.getD p.1 default) d p.2.1).2) fun p hp => by
        obtain ⟨hp, h1⟩ := hp
        have hg : l.getD p.1 default = l[p.1] := by simp [List.getD_eq_getElem?_getD, hp]
        have hke := okSL_get hok _ (get_mem hp)
        simp only [hg]
        rw [stC_at l p.1 hp]
        exact V.okS _ _ _ _ _ hke h1
      refine ⟨_, orcOr_sound s1 (orcOr_sound s2 s3), fun x t q h0 h1 h2 h3 => ?_, fun x t q h0 h1 h2 => ?_, fun i hi t q h1 => ?_⟩
      · exact callOr1 (by kernel_rfl) (callI (P := Tryd.prog) (fun p q _ _ _ ha hh => by
            have e2 := V.inj _ _ hh
            simp only [List.cons.injEq, and_true, true_and] at ha
            rw [stA_inj ha, e2]; exact ⟨rfl, rfl⟩) (by kernel_rfl) (x, t, q) ⟨h0, h1, h2, h3⟩ rfl rfl rfl)
      · refine callOr2 (by kernel_rfl) (orcI_none fun p _ e _ => absurd e (by decide)) ?_
        exact callOr1 (by kernel_rfl) (callI (P := Tryd.prog) (fun p q _ _ _ ha hh => by
            have e2 := V.inj _ _ hh
            simp only [List.cons.injEq, and_true, true_and] at ha
            rw [exA_inj ha, e2]; exact ⟨rfl, rfl⟩) (by kernel_rfl) (x, t, q) ⟨h0, h1, h2⟩ rfl rfl rfl)
      · have hg : l.getD i default = l[i] := by simp [List.getD_eq_getElem?_getD, hi]
        refine callOr2 V.bodyS (orcI_none fun p _ _ ha => ?_) ?_
        · have := congrArg (fun a => a.head?) ha
          simp [stA] at this
        refine callOr2 V.bodyS (orcI_none fun p _ _ ha => ?_) ?_
        · have := congrArg (fun a => a.head?) ha
          simp [exA] at this
        · have := callI (P := Tryd.prog) (I := Nat × V.σ × Nat) (G := fun p => p.1 < l.length ∧ V.I d p.2.1 (p.2.2 + 1)) (fF := fun _ => V.gS) (fA := fun p => [.rp ((stC l).drop (p.1 * 7)), .int .i64 d] ++ V.cS) (fH := fun p => V.Mem p.2.1) (fR := fun p => .bool (V.hS (l.getD p.1 default) d p.2.1).1) (fO := fun p => V.Mem (V.hS (l.getD p.1 default) d p.2.1).2)
            (fun p q hp hq _ ha hh => by
              have e2 := V.inj _ _ hh
              simp only [List.cons_append, List.nil_append, List.cons.injEq, AV.rp.injEq, true_and, and_true] at ha
              have := congrArg List.length ha
              simp only [List.length_drop, stC_len] at this
              have e : p.1 = q.1 := by have := hp.1; have := hq.1; omega
              rw [e, e2]; exact ⟨rfl, rfl⟩) (g := V.gS) (args := [.rp ((stC l).drop (i * 7)), .int .i64 d] ++ V.cS) (H := V.Mem t) V.bodyS (i, t, q) ⟨hi, h1⟩ rfl rfl rfl
          simp only [hg] at this
          exact this
    obtain ⟨O, hO, q3, q2, q1⟩ := hF
    have hbd := V.bnd _ _ _ hI
    have w1 : IntKind.i64.wrap (d + 1) = d + 1 := wrapB (by omega) (by omega)
    simp only [stA, exA, TvE.F, TvS.G] at q2 q3 ⊢
    refine fn_mem (k := V.k) follows noNum hO (V.len s) Tryd.func38 rfl (cw0_ok _ _) ?_
    repeat' ((conv => whnf); (first | (with_reducible refine condT ?_ ?_; (focus ((first | assumption | decide | (simp; done) | (simp; omega)); done))) | (with_reducible refine condF ?_ ?_; (focus ((first | assumption | decide | (simp; done) | (simp; omega)); done))) | with_reducible refine condB (fun h => ?_) (fun h => ?_) | with_reducible refine exI rfl ?_ | with_reducible refine eqR rfl ?_ | (with_reducible refine exW (wrapN1 ?_) ?_; (focus (omega))) | (with_reducible refine exW (wrapN ?_) ?_; (focus (omega))) | (with_reducible refine exW (wrapB ?_ ?_) ?_; (focus (omega)); (focus (omega))) | with_reducible refine exW rfl ?_ | (with_reducible refine ixJ _ rfl ?_ ?_; (focus ((first | decide | omega | (simp; done) | (simp; omega)); done))) | (with_reducible refine ixJ' _ rfl ?_ ?_; (focus ((first | decide | omega | (simp; done) | (simp; omega)); done))) | (refine ixJ (Int.toNat _) ?_ ?_ ?_; (focus ((first | rfl | decide | omega | (simp; done)); done)); (focus ((first | decide | omega | (simp; done) | (simp; omega)); done))) | (refine ixJ' (Int.toNat _) ?_ ?_ ?_; (focus ((first | rfl | decide | omega | (simp; done)); done)); (focus ((first | decide | omega | (simp; done) | (simp; omega)); done))) | with_reducible refine ixS _ rfl (by assumption) ?_ | (with_reducible refine shlI ?_ ?_; (focus (first | decide | omega))) | (refine exI (callZ rfl rfl (if_pos ?_)) ?_; (focus ((first | decide | omega | (simp; done) | (simp; omega)); done)))))
    conv => whnf
    refine ⟨Nat, (fun i => i ≤ l.length ∧ (goSL V.hE V.hS (l.take i) d s).1 = true), (fun i => [(0, .rs l.length 7 (stC l)), (1, .int .i64 d), (2, .func (.func V.gE) [] V.cE), (3, .func (.func V.gS) [] V.cS), (12, .int .i64 l.length), (13, .int .i64 i)]), (fun i => V.Mem (goSL V.hE V.hS (l.take i) d s).2), (fun i => l.length - i), ⟨0, ⟨Nat.zero_le _, by simp only [List.take_zero, goSL]⟩, ?_⟩, ?_⟩
    · simp only [List.take_zero, goSL]
      refine FgLK.same rfl ?_ (V.same _)
      refine And.intro (Wk.noref rfl) ?_
      refine And.intro (Wk.noref rfl) ?_
      refine And.intro (Wk.func trivial V.wkE) ?_
      refine And.intro (Wk.func trivial V.wkS) ?_
      refine And.intro (Wk.int rfl) ?_
      exact ⟨Wk.int rfl, trivial⟩
    rintro i ⟨hi, hall⟩
    dsimp only
    conv => whnf
    rw [frcHW_eq]
    by_cases hlt : i < l.length
    · have e1 : decide ((i : Int) < (l.length : Int)) = true := by simpa using hlt
      have hat := goSL_at (hE := V.hE) (hS := V.hS) l d s i hlt hall
      have hI2 : V.I d (goSL V.hE V.hS (l.take i) d s).2 (sizeSL (l.drop i) + m) := V.keepSL (l.take i) d s (sizeSL (l.drop i) + m) (by
        have := sizeSL_get l i hlt
        have e : sizeSL (l.drop i) = sizeS l[i] + sizeSL (l.drop (i + 1)) := by rw [List.drop_eq_getElem_cons hlt]; simp only [sizeSL]
        have e2 : sizeSL (l.take i) + (sizeSL (l.drop i) + m) = sizeSL l + m := by omega
        rw [e2]; exact hI) hall
      generalize (goSL V.hE V.hS (l.take i) d s).2 = t at *
      have esz : sizeSL (l.drop i) + m = (sizeL l[i].exprs + (sizeSL l[i].thn + (sizeSL l[i].els + (sizeSL (l.drop (i + 1)) + m)))) + 1 := by
        rw [List.drop_eq_getElem_cons hlt]; simp only [sizeSL]; have := sizeS_eq l[i]; omega
      rw [esz] at hI2
      have q1' := q1 i hlt t _ hI2
      have hd2 := V.downS l[i] d t _ hI2
      have hx4 : tk 1 (((stC l).drop (i * 7)).drop 4) = some [exA l[i].exprs] := by rw [stC_at l i hlt]; exact cell_x _ _
      have hx5 : tk 1 (((stC l).drop (i * 7)).drop 5) = some [stA l[i].thn] := by rw [stC_at l i hlt]; exact cell_t _ _
      have hx6 : tk 1 (((stC l).drop (i * 7)).drop 6) = some [stA l[i].els] := by rw [stC_at l i hlt]; exact cell_e _ _
      obtain ⟨_, _, k1, k2, k3, k4, k5, k6⟩ := okS_parts (okSL_get hok _ (get_mem hlt))
      have hsz := sizeSL_mem _ _ (get_mem hlt)
      have hse := sizeS_eq l[i]
      have qx := fun t q => q2 l[i].exprs t q k4 k1
      have qt := fun t q => q3 l[i].thn t q (by omega) k5 k2
      have qe := fun t q => q3 l[i].els t q (by omega) k6 k3
      have kx := fun s m => V.toTvE.keepL l[i].exprs (d + 1) s m
      have kt := fun s m => V.keepSL l[i].thn (d + 1) s m
      rw [goS_eq] at hat
      have hst := goSL_stop (hE := V.hE) (hS := V.hS) l d s (i + 1)
      clear q1 q2 q3 hse hsz k1 k2 k3 k4 k5 k6
      generalize l[i] = e at *
      generalize hr : V.hS e d t = r at *
      obtain ⟨b, t1⟩ := r
      simp only [exA, stA] at hx4 hx5 hx6 qx qt qe
      dsimp only [thenB] at *
      cases b with
      | false =>
        simp only [Bool.false_eq_true, if_false] at hat
        rw [hat] at hst
        rw [hst rfl]
        repeat' ((conv => whnf); first | (refine exI q1' ?_) | (rw [frcHW_eq]) | (with_reducible refine ixJ i rfl ?_ ?_; (focus (omega))) | (first | (with_reducible refine condT ?_ ?_; (focus ((first | assumption | decide | (simp; done) | (simp; omega)); done))) | (with_reducible refine condF ?_ ?_; (focus ((first | assumption | decide | (simp; done) | (simp; omega)); done))) | with_reducible refine condB (fun h => ?_) (fun h => ?_) | with_reducible refine exI rfl ?_ | with_reducible refine eqR rfl ?_ | (with_reducible refine exW (wrapN1 ?_) ?_; (focus (omega))) | (with_reducible refine exW (wrapN ?_) ?_; (focus (omega))) | (with_reducible refine exW (wrapB ?_ ?_) ?_; (focus (omega)); (focus (omega))) | with_reducible refine exW rfl ?_ | (with_reducible refine ixJ _ rfl ?_ ?_; (focus ((first | decide | omega | (simp; done) | (simp; omega)); done))) | (with_reducible refine ixJ' _ rfl ?_ ?_; (focus ((first | decide | omega | (simp; done) | (simp; omega)); done))) | (refine ixJ (Int.toNat _) ?_ ?_ ?_; (focus ((first | rfl | decide | omega | (simp; done)); done)); (focus ((first | decide | omega | (simp; done) | (simp; omega)); done))) | (refine ixJ' (Int.toNat _) ?_ ?_ ?_; (focus ((first | rfl | decide | omega | (simp; done)); done)); (focus ((first | decide | omega | (simp; done) | (simp; omega)); done))) | with_reducible refine ixS _ rfl (by assumption) ?_ | (with_reducible refine shlI ?_ ?_; (focus (first | decide | omega))) | (refine exI (callZ rfl rfl (if_pos ?_)) ?_; (focus ((first | decide | omega | (simp; done) | (simp; omega)); done)))))
        all_goals (conv => whnf)
        all_goals (exact V.toTvE.fin s t1 false)
      | true =>
        simp only [if_true] at hat
        have i1 := hd2 rfl
        have qx' := qx t1 _ i1
        have kx' := kx t1 _ i1
        generalize hg : goL V.hE e.exprs (d + 1) t1 = g at *
        obtain ⟨b2, t2⟩ := g
        dsimp only at *
        cases b2 with
        | false =>
          simp only [Bool.false_eq_true, if_false] at hat
          rw [hat] at hst
          rw [hst rfl]
          repeat' ((conv => whnf); first | (refine exI q1' ?_) | (refine exI qx' ?_) | (refine exI hx4 ?_) | (rw [frcHW_eq]) | (with_reducible refine exW w1 ?_) | (with_reducible refine ixJ i rfl ?_ ?_; (focus (omega))) | (first | (with_reducible refine condT ?_ ?_; (focus ((first | assumption | decide | (simp; done) | (simp; omega)); done))) | (with_reducible refine condF ?_ ?_; (focus ((first | assumption | decide | (simp; done) | (simp; omega)); done))) | with_reducible refine condB (fun h => ?_) (fun h => ?_) | with_reducible refine exI rfl ?_ | with_reducible refine eqR rfl ?_ | (with_reducible refine exW (wrapN1 ?_) ?_; (focus (omega))) | (with_reducible refine exW (wrapN ?_) ?_; (focus (omega))) | (with_reducible refine exW (wrapB ?_ ?_) ?_; (focus (omega)); (focus (omega))) | with_reducible refine exW rfl ?_ | (with_reducible refine ixJ _ rfl ?_ ?_; (focus ((first | decide | omega | (simp; done) | (simp; omega)); done))) | (with_reducible refine ixJ' _ rfl ?_ ?_; (focus ((first | decide | omega | (simp; done) | (simp; omega)); done))) | (refine ixJ (Int.toNat _) ?_ ?_ ?_; (focus ((first | rfl | decide | omega | (simp; done)); done)); (focus ((first | decide | omega | (simp; done) | (simp; omega)); done))) | (refine ixJ' (Int.toNat _) ?_ ?_ ?_; (focus ((first | rfl | decide | omega | (simp; done)); done)); (focus ((first | decide | omega | (simp; done) | (simp; omega)); done))) | with_reducible refine ixS _ rfl (by assumption) ?_ | (with_reducible refine shlI ?_ ?_; (focus (first | decide | omega))) | (refine exI (callZ rfl rfl (if_pos ?_)) ?_; (focus ((first | decide | omega | (simp; done) | (simp; omega)); done)))))
          all_goals (conv => whnf)
          all_goals (exact V.toTvE.fin s t2 false)
        | true =>
          simp only [if_true] at hat
          have i2 := kx' rfl
          have qt' := qt t2 _ i2
          have kt' := kt t2 _ i2
          generalize hg2 : goSL V.hE V.hS e.thn (d + 1) t2 = g2 at *
          obtain ⟨b3, t3⟩ := g2
          dsimp only at *
          cases b3 with
          | false =>
            simp only [Bool.false_eq_true, if_false] at hat
            rw [hat] at hst
            rw [hst rfl]
            repeat' ((conv => whnf); first | (refine exI q1' ?_) | (refine exI qx' ?_) | (refine exI qt' ?_) | (refine exI hx4 ?_) | (refine exI hx5 ?_) | (rw [frcHW_eq]) | (with_reducible refine exW w1 ?_) | (with_reducible refine ixJ i rfl ?_ ?_; (focus (omega))) | (first | (with_reducible refine condT ?_ ?_; (focus ((first | assumption | decide | (simp; done) | (simp; omega)); done))) | (with_reducible refine condF ?_ ?_; (focus ((first | assumption | decide | (simp; done) | (simp; omega)); done))) | with_reducible refine condB (fun h => ?_) (fun h => ?_) | with_reducible refine exI rfl ?_ | with_reducible refine eqR rfl ?_ | (with_reducible refine exW (wrapN1 ?_) ?_; (focus (omega))) | (with_reducible refine exW (wrapN ?_) ?_; (focus (omega))) | (with_reducible refine exW (wrapB ?_ ?_) ?_; (focus (omega)); (focus (omega))) | with_reducible refine exW rfl ?_ | (with_reducible refine ixJ _ rfl ?_ ?_; (focus ((first | decide | omega | (simp; done) | (simp; omega)); done))) | (with_reducible refine ixJ' _ rfl ?_ ?_; (focus ((first | decide | omega | (simp; done) | (simp; omega)); done))) | (refine ixJ (Int.toNat _) ?_ ?_ ?_; (focus ((first | rfl | decide | omega | (simp; done)); done)); (focus ((first | decide | omega | (simp; done) | (simp; omega)); done))) | (refine ixJ' (Int.toNat _) ?_ ?_ ?_; (focus ((first | rfl | decide | omega | (simp; done)); done)); (focus ((first | decide | omega | (simp; done) | (simp; omega)); done))) | with_reducible refine ixS _ rfl (by assumption) ?_ | (with_reducible refine shlI ?_ ?_; (focus (first | decide | omega))) | (refine exI (callZ rfl rfl (if_pos ?_)) ?_; (focus ((first | decide | omega | (simp; done) | (simp; omega)); done)))))
            all_goals (conv => whnf)
            all_goals (exact V.toTvE.fin s t3 false)
          | true =>
            simp only [if_true] at hat
            have i3 := kt' rfl
            have qe' := qe t3 _ i3
            generalize hg3 : goSL V.hE V.hS e.els (d + 1) t3 = g3 at *
            obtain ⟨b4, t4⟩ := g3
            dsimp only at *
            cases b4 with
            | false =>
              rw [hat] at hst
              rw [hst rfl]
              repeat' ((conv => whnf); first | (refine exI q1' ?_) | (refine exI qx' ?_) | (refine exI qt' ?_) | (refine exI qe' ?_) | (refine exI hx4 ?_) | (refine exI hx5 ?_) | (refine exI hx6 ?_) | (rw [frcHW_eq]) | (with_reducible refine exW w1 ?_) | (with_reducible refine ixJ i rfl ?_ ?_; (focus (omega))) | (first | (with_reducible refine condT ?_ ?_; (focus ((first | assumption | decide | (simp; done) | (simp; omega)); done))) | (with_reducible refine condF ?_ ?_; (focus ((first | assumption | decide | (simp; done) | (simp; omega)); done))) | with_reducible refine condB (fun h => ?_) (fun h => ?_) | with_reducible refine exI rfl ?_ | with_reducible refine eqR rfl ?_ | (with_reducible refine exW (wrapN1 ?_) ?_; (focus (omega))) | (with_reducible refine exW (wrapN ?_) ?_; (focus (omega))) | (with_reducible refine exW (wrapB ?_ ?_) ?_; (focus (omega)); (focus (omega))) | with_reducible refine exW rfl ?_ | (with_reducible refine ixJ _ rfl ?_ ?_; (focus ((first | decide | omega | (simp; done) | (simp; omega)); done))) | (with_reducible refine ixJ' _ rfl ?_ ?_; (focus ((first | decide | omega | (simp; done) | (simp; omega)); done))) | (refine ixJ (Int.toNat _) ?_ ?_ ?_; (focus ((first | rfl | decide | omega | (simp; done)); done)); (focus ((first | decide | omega | (simp; done) | (simp; omega)); done))) | (refine ixJ' (Int.toNat _) ?_ ?_ ?_; (focus ((first | rfl | decide | omega | (simp; done)); done)); (focus ((first | decide | omega | (simp; done) | (simp; omega)); done))) | with_reducible refine ixS _ rfl (by assumption) ?_ | (with_reducible refine shlI ?_ ?_; (focus (first | decide | omega))) | (refine exI (callZ rfl rfl (if_pos ?_)) ?_; (focus ((first | decide | omega | (simp; done) | (simp; omega)); done)))))
              all_goals (conv => whnf)
              all_goals (exact V.toTvE.fin s t4 false)
            | true =>
              repeat' ((conv => whnf); first | (refine exI q1' ?_) | (refine exI qx' ?_) | (refine exI qt' ?_) | (refine exI qe' ?_) | (refine exI hx4 ?_) | (refine exI hx5 ?_) | (refine exI hx6 ?_) | (rw [frcHW_eq]) | (with_reducible refine exW w1 ?_) | (with_reducible refine ixJ i rfl ?_ ?_; (focus (omega))) | (first | (with_reducible refine condT ?_ ?_; (focus ((first | assumption | decide | (simp; done) | (simp; omega)); done))) | (with_reducible refine condF ?_ ?_; (focus ((first | assumption | decide | (simp; done) | (simp; omega)); done))) | with_reducible refine condB (fun h => ?_) (fun h => ?_) | with_reducible refine exI rfl ?_ | with_reducible refine eqR rfl ?_ | (with_reducible refine exW (wrapN1 ?_) ?_; (focus (omega))) | (with_reducible refine exW (wrapN ?_) ?_; (focus (omega))) | (with_reducible refine exW (wrapB ?_ ?_) ?_; (focus (omega)); (focus (omega))) | with_reducible refine exW rfl ?_ | (with_reducible refine ixJ _ rfl ?_ ?_; (focus ((first | decide | omega | (simp; done) | (simp; omega)); done))) | (with_reducible refine ixJ' _ rfl ?_ ?_; (focus ((first | decide | omega | (simp; done) | (simp; omega)); done))) | (refine ixJ (Int.toNat _) ?_ ?_ ?_; (focus ((first | rfl | decide | omega | (simp; done)); done)); (focus ((first | decide | omega | (simp; done) | (simp; omega)); done))) | (refine ixJ' (Int.toNat _) ?_ ?_ ?_; (focus ((first | rfl | decide | omega | (simp; done)); done)); (focus ((first | decide | omega | (simp; done) | (simp; omega)); done))) | with_reducible refine ixS _ rfl (by assumption) ?_ | (with_reducible refine shlI ?_ ?_; (focus (first | decide | omega))) | (refine exI (callZ rfl rfl (if_pos ?_)) ?_; (focus ((first | decide | omega | (simp; done) | (simp; omega)); done)))))
              all_goals (conv => whnf)
              refine ⟨i + 1, ⟨hlt, by rw [hat]⟩, by show l.length - (i + 1) < l.length - i; omega, ?_⟩
              rw [hat]
              refine FgLK.same rfl ?_ (V.same _)
              refine And.intro (Wk.noref rfl) ?_
              refine And.intro (Wk.noref rfl) ?_
              refine And.intro (Wk.func trivial V.wkE) ?_
              refine And.intro (Wk.func trivial V.wkS) ?_
              refine And.intro (Wk.int rfl) ?_
              exact ⟨Wk.int rfl, trivial⟩
    · have e1 : decide ((i : Int) < (l.length : Int)) = false := by simpa using hlt
      have hi2 : i = l.length := by have := hi; omega
      subst hi2
      rw [List.take_length] at hall ⊢
      rw [hall]
      generalize (goSL V.hE V.hS l d s).2 = t at *
      repeat' ((conv => whnf); first | (rw [frcHW_eq]) | (first | (with_reducible refine condT ?_ ?_; (focus ((first | assumption | decide | (simp; done) | (simp; omega)); done))) | (with_reducible refine condF ?_ ?_; (focus ((first | assumption | decide | (simp; done) | (simp; omega)); done))) | with_reducible refine condB (fun h => ?_) (fun h => ?_) | with_reducible refine exI rfl ?_ | with_reducible refine eqR rfl ?_ | (with_reducible refine exW (wrapN1 ?_) ?_; (focus (omega))) | (with_reducible refine exW (wrapN ?_) ?_; (focus (omega))) | (with_reducible refine exW (wrapB ?_ ?_) ?_; (focus (omega)); (focus (omega))) | with_reducible refine exW rfl ?_ | (with_reducible refine ixJ _ rfl ?_ ?_; (focus ((first | decide | omega | (simp; done) | (simp; omega)); done))) | (with_reducible refine ixJ' _ rfl ?_ ?_; (focus ((first | decide | omega | (simp; done) | (simp; omega)); done))) | (refine ixJ (Int.toNat _) ?_ ?_ ?_; (focus ((first | rfl | decide | omega | (simp; done)); done)); (focus ((first | decide | omega | (simp; done) | (simp; omega)); done))) | (refine ixJ' (Int.toNat _) ?_ ?_ ?_; (focus ((first | rfl | decide | omega | (simp; done)); done)); (focus ((first | decide | omega | (simp; done) | (simp; omega)); done))) | with_reducible refine ixS _ rfl (by assumption) ?_ | (with_reducible refine shlI ?_ ?_; (focus (first | decide | omega))) | (refine exI (callZ rfl rfl (if_pos ?_)) ?_; (focus ((first | decide | omega | (simp; done) | (simp; omega)); done)))))
      all_goals (conv => whnf)
      all_goals (exact V.toTvE.fin s t true)
end
end Go.Proofs.YtajhailaofchlaaDoor.lex
end

/-
  Of 'cantileverlaw03': the variables that the statement lists, as the abstract interpreter knows them; 'lives' and the chapter's examples, run by the kernel.
-/
section
set_option linter.unusedVariables false
namespace Go.Proofs.YtajhailaofchlaaDoor.runLives
open Go.RowKit Go.Abs

/-- 'ast.shapes', cell by cell. -/
def tbl0 : List AV := [.bool false, .bool false, .int .i64 (.ofNat 0), .bool true, .bool false, .int .i64 (.ofNat 0), .bool false, .bool true, .int .i64 (.ofNat 0), 
    .bool false, .bool false, .int .i64 (.ofNat 1), .bool false, .bool false, .int .i64 (.ofNat 1), .bool false, .bool false, .int .i64 (.ofNat 2), 
    .bool false, .bool false, .int .i64 (.ofNat 2), .bool false, .bool false, .int .i64 (.ofNat 2), .bool false, .bool false, .int .i64 (.ofNat 2), 
    .bool false, .bool false, .int .i64 (.ofNat 2), .bool false, .bool false, .int .i64 (.ofNat 2), .bool false, .bool false, .int .i64 (.ofNat 2), 
    .bool false, .bool false, .int .i64 (.ofNat 2), .bool false, .bool false, .int .i64 (.ofNat 2), .bool false, .bool false, .int .i64 (.ofNat 2), 
    .bool false, .bool false, .int .i64 (.ofNat 2), .bool false, .bool false, .int .i64 (.ofNat 2)]

/-- 'ast.forms', cell by cell. -/
def tbl1 : List AV := [.bool false, .bool false, .bool false, .int .i64 (.ofNat 0), .bool false, .bool false, .bool true, .bool false, .bool false, .int .i64 (.ofNat 1), 
    .bool false, .bool false, .bool true, .bool true, .bool true, .int .i64 (.ofNat 0), .bool false, .bool false, .bool false, .bool true, .bool true, 
    .int .i64 (.ofNat 1), .bool false, .bool false, .bool true, .bool true, .bool true, .int .i64 (.ofNat 2), .bool false, .bool false, .bool true, 
    .bool true, .bool true, .int .i64 (.ofNat 1), .bool false, .bool false, .bool true, .bool true, .bool true, .int .i64 (.ofNat 1), .bool false, 
    .bool false, .bool false, .bool false, .bool true, .int .i64 (.ofNat 0), .bool false, .bool false, .bool false, .bool false, .bool false, 
    .int .i64 (.ofNat 1), .bool false, .bool false, .bool false, .bool false, .bool false, .int .i64 (.ofNat 1), .bool false, .bool false, .bool false, 
    .bool false, .bool false, .int .i64 (.ofNat 1), .bool true, .bool true, .bool false, .bool false, .bool false, .int .i64 (.ofNat 1), .bool true, 
    .bool false]

def gl : Glob := fun g => if Nat.beq g 0 then some tbl0 else if Nat.beq g 1 then some tbl1 else none

set_option maxRecDepth 100000

theorem follows : Tryd.prog.follows .mixedOrders = true := by kernel_rfl

theorem noNumAll : (Tryd.prog.funcs.toList.all fun fn => !(fn.name == "runtime.NumGoroutine")) = true := by kernel_rfl

theorem noNum : NoNum Tryd.prog := fun g fn h => by
  have h1 := List.all_eq_true.1 noNumAll fn (Array.mem_toList_iff.2 (Array.mem_of_getElem? h))
  simpa using h1

theorem laid_skip {P : Program} {W : World} {name : String} {d : DataW Unit} {rest : List (String × DataW Unit)} {ps : List MemPlace} (h : DataW.LaidVars P W ((name, d) :: rest) ps) : ∃ qs, DataW.LaidVars P W rest qs := by
  obtain ⟨_, _, _, _, _, q, _, _, _, _, hr, _⟩ := h
  exact ⟨q, hr⟩

theorem n0 : Tryd.prog.globalNamed "cantilever/ast.shapes" = some 0 := by kernel_rfl
theorem ty0 : (Tryd.prog.globals[0]?).map (·.type) = some 92 := by kernel_rfl
theorem av0 : avOf Tryd.prog 6 92 (Rows.laid_cantilever_ast_shapes (H := Unit)) = some tbl0 := by kernel_rfl
theorem n1 : Tryd.prog.globalNamed "cantilever/ast.forms" = some 1 := by kernel_rfl
theorem ty1 : (Tryd.prog.globals[1]?).map (·.type) = some 95 := by kernel_rfl
theorem av1 : avOf Tryd.prog 6 95 (Rows.laid_cantilever_ast_forms (H := Unit)) = some tbl1 := by kernel_rfl

theorem globs {W : World} (h : laidMetH Tryd.prog [("cantilever/ast.shapes", Rows.laid_cantilever_ast_shapes), ("cantilever/ast.forms", Rows.laid_cantilever_ast_forms)] W) : GlOK gl (snap0 W) := by
  have h' : laidMet Tryd.prog [("cantilever/ast.shapes", Rows.laid_cantilever_ast_shapes), ("cantilever/ast.forms", Rows.laid_cantilever_ast_forms)] W := h
  obtain ⟨_, hv, _⟩ := id h'
  obtain ⟨m0, _⟩ := laid_glob n0 ty0 av0 hv
  have h' := laidMet.tail h'
  obtain ⟨_, hv, _⟩ := id h'
  obtain ⟨m1, _⟩ := laid_glob n1 ty1 av1 hv
  intro g cs hg
  unfold gl at hg
  split at hg
  · rename_i e; have := Nat.eq_of_beq_eq_true e; subst this; simp at hg; subst hg; exact m0
  split at hg
  · rename_i e; have := Nat.eq_of_beq_eq_true e; subst this; simp at hg; subst hg; exact m1
  cases hg

end Go.Proofs.YtajhailaofchlaaDoor.runLives
end

/-
  Expressions: may they be (the program's answer); how many, how deep (the program's answer); its CheckExpr.
-/
section
set_option linter.unusedVariables false
set_option linter.unusedSimpArgs false
namespace Go.Proofs.YtajhailaofchlaaDoor.lex
open Go.Abs Go.RowKit
set_option maxRecDepth 100000
set_option maxHeartbeats 4000000

def isWordF (f : Nat) (xs : List AV) : Option AV := match f with
  | 37 => match xs with | [.str s, .bool m] => if s.length ≤ 9223372036854775807 then some (.bool (if m then wordB s else s == [])) else none | _ => none
  | _ => none
theorem isWordF_sound {gl : Glob} : OrcSound Tryd.prog gl (orcZ isWordF) := orcZ_sound fun f xs r h => by
  unfold isWordF at h
  split at h
  · split at h <;> try (cases h; done)
    split at h <;> cases h
    rename_i hs
    exact ⟨rfl, isWord_ok _ hs _⟩
  · cases h
theorem wordB_nil : wordB [] = false := rfl
theorem rightX_ok (e : Ex) (rest : List AV) (d : Int) (hok : okE e) : ValOK Tryd.prog runLives.gl 39 [.rp (e.cells ++ rest), .int .i64 d] (.bool (ownE e)) := by
  obtain ⟨⟨hn1, hn2⟩, _⟩ := okE_kids hok
  have hb : hasBody Tryd.prog 37 = true := by kernel_rfl
  have key : ∀ (op num : Int) (name : List UInt8) (v : AV) (n : Nat), (∃ cs, v = .rs n 4 cs) → name.length ≤ 9223372036854775807 → ValOK Tryd.prog runLives.gl 39 [.rp (.int .i64 op :: .int .i64 num :: .str name :: v :: rest), .int .i64 d] (.bool (ownF op num name n)) := by
    intro op num name v n hv hname
    have q : ∀ (m : Bool) (H : AHeap), acall Tryd.prog (orcZ isWordF) H 37 [.str name, .bool m] = some (.bool (if m then wordB name else name == []), H) := fun m H => callZ hb rfl (by simp only [isWordF]; rw [if_pos hname])
    by_cases h1 : op < 1
    · have e1 : decide (op < 1) = true := by simpa using h1
      have hk : kidsI op = -1 := by unfold kidsI; rw [if_neg (by omega), if_neg (by omega), if_neg (by omega)]
      obtain ⟨cs, rfl⟩ := hv
      all_goals
        refine fn_val follows noNum isWordF_sound Tryd.func39 rfl ?_
        repeat' ((conv => whnf); first | (refine exI (q _ _) ?_) | (first | (with_reducible refine condT ?_ ?_; (focus ((first | assumption | decide | (simp; done) | (simp; omega)); done))) | (with_reducible refine condF ?_ ?_; (focus ((first | assumption | decide | (simp; done) | (simp; omega)); done))) | with_reducible refine condB (fun h => ?_) (fun h => ?_) | with_reducible refine exI rfl ?_ | with_reducible refine eqR rfl ?_ | (with_reducible refine exW (wrapN1 ?_) ?_; (focus (omega))) | (with_reducible refine exW (wrapN ?_) ?_; (focus (omega))) | (with_reducible refine exW (wrapB ?_ ?_) ?_; (focus (omega)); (focus (omega))) | with_reducible refine exW rfl ?_ | (with_reducible refine ixJ _ rfl ?_ ?_; (focus ((first | decide | omega | (simp; done) | (simp; omega)); done))) | (with_reducible refine ixJ' _ rfl ?_ ?_; (focus ((first | decide | omega | (simp; done) | (simp; omega)); done))) | (refine ixJ (Int.toNat _) ?_ ?_ ?_; (focus ((first | rfl | decide | omega | (simp; done)); done)); (focus ((first | decide | omega | (simp; done) | (simp; omega)); done))) | (refine ixJ' (Int.toNat _) ?_ ?_ ?_; (focus ((first | rfl | decide | omega | (simp; done)); done)); (focus ((first | decide | omega | (simp; done) | (simp; omega)); done))) | with_reducible refine ixS _ rfl (by assumption) ?_ | (with_reducible refine shlI ?_ ?_; (focus (first | decide | omega))) | (refine exI (callZ rfl rfl (if_pos ?_)) ?_; (focus ((first | decide | omega | (simp; done) | (simp; omega)); done)))))
      all_goals (show AV.bool _ = AV.bool _; congr 1; unfold ownF; rw [hk])
      all_goals (first | rfl | (symm; simp; intros; omega))
    · have e1 : decide (op < 1) = false := by simpa using h1
      by_cases h2 : 16 < op
      · have e2 : decide (op > 16) = true := by simpa using h2
        have hk : kidsI op = -1 := by unfold kidsI; rw [if_neg (by omega), if_neg (by omega), if_neg (by omega)]
        obtain ⟨cs, rfl⟩ := hv
        all_goals
          refine fn_val follows noNum isWordF_sound Tryd.func39 rfl ?_
          repeat' ((conv => whnf); first | (refine exI (q _ _) ?_) | (first | (with_reducible refine condT ?_ ?_; (focus ((first | assumption | decide | (simp; done) | (simp; omega)); done))) | (with_reducible refine condF ?_ ?_; (focus ((first | assumption | decide | (simp; done) | (simp; omega)); done))) | with_reducible refine condB (fun h => ?_) (fun h => ?_) | with_reducible refine exI rfl ?_ | with_reducible refine eqR rfl ?_ | (with_reducible refine exW (wrapN1 ?_) ?_; (focus (omega))) | (with_reducible refine exW (wrapN ?_) ?_; (focus (omega))) | (with_reducible refine exW (wrapB ?_ ?_) ?_; (focus (omega)); (focus (omega))) | with_reducible refine exW rfl ?_ | (with_reducible refine ixJ _ rfl ?_ ?_; (focus ((first | decide | omega | (simp; done) | (simp; omega)); done))) | (with_reducible refine ixJ' _ rfl ?_ ?_; (focus ((first | decide | omega | (simp; done) | (simp; omega)); done))) | (refine ixJ (Int.toNat _) ?_ ?_ ?_; (focus ((first | rfl | decide | omega | (simp; done)); done)); (focus ((first | decide | omega | (simp; done) | (simp; omega)); done))) | (refine ixJ' (Int.toNat _) ?_ ?_ ?_; (focus ((first | rfl | decide | omega | (simp; done)); done)); (focus ((first | decide | omega | (simp; done) | (simp; omega)); done))) | with_reducible refine ixS _ rfl (by assumption) ?_ | (with_reducible refine shlI ?_ ?_; (focus (first | decide | omega))) | (refine exI (callZ rfl rfl (if_pos ?_)) ?_; (focus ((first | decide | omega | (simp; done) | (simp; omega)); done)))))
        all_goals (show AV.bool _ = AV.bool _; congr 1; unfold ownF; rw [hk])
        all_goals (first | rfl | (symm; simp; intros; omega))
      · clear e1
        have hop : op = 1 ∨ op = 2 ∨ op = 3 ∨ op = 4 ∨ op = 5 ∨ op = 6 ∨ op = 7 ∨ op = 8 ∨ op = 9 ∨ op = 10 ∨ op = 11 ∨ op = 12 ∨ op = 13 ∨ op = 14 ∨ op = 15 ∨ op = 16 := by omega
        clear h1 h2
        rcases hop with rfl | rfl | rfl | rfl | rfl | rfl | rfl | rfl | rfl | rfl | rfl | rfl | rfl | rfl | rfl | rfl
        all_goals (obtain ⟨cs, rfl⟩ := hv)
        all_goals (refine fn_val follows noNum isWordF_sound Tryd.func39 rfl ?_)
        all_goals (repeat' ((conv => whnf); first | (refine exI (q _ _) ?_) | (first | (with_reducible refine condT ?_ ?_; (focus ((first | assumption | decide | (simp; done) | (simp; omega)); done))) | (with_reducible refine condF ?_ ?_; (focus ((first | assumption | decide | (simp; done) | (simp; omega)); done))) | with_reducible refine condB (fun h => ?_) (fun h => ?_) | with_reducible refine exI rfl ?_ | with_reducible refine eqR rfl ?_ | (with_reducible refine exW (wrapN1 ?_) ?_; (focus (omega))) | (with_reducible refine exW (wrapN ?_) ?_; (focus (omega))) | (with_reducible refine exW (wrapB ?_ ?_) ?_; (focus (omega)); (focus (omega))) | with_reducible refine exW rfl ?_ | (with_reducible refine ixJ _ rfl ?_ ?_; (focus ((first | decide | omega | (simp; done) | (simp; omega)); done))) | (with_reducible refine ixJ' _ rfl ?_ ?_; (focus ((first | decide | omega | (simp; done) | (simp; omega)); done))) | (refine ixJ (Int.toNat _) ?_ ?_ ?_; (focus ((first | rfl | decide | omega | (simp; done)); done)); (focus ((first | decide | omega | (simp; done) | (simp; omega)); done))) | (refine ixJ' (Int.toNat _) ?_ ?_ ?_; (focus ((first | rfl | decide | omega | (simp; done)); done)); (focus ((first | decide | omega | (simp; done) | (simp; omega)); done))) | with_reducible refine ixS _ rfl (by assumption) ?_ | (with_reducible refine shlI ?_ ?_; (focus (first | decide | omega))) | (refine exI (callZ rfl rfl (if_pos ?_)) ?_; (focus ((first | decide | omega | (simp; done) | (simp; omega)); done))))))
        all_goals (first | rfl | (show AV.bool _ = AV.bool _; clear q hb hok hn1 hn2; simp_all [ownF, kidsI]; done) | (show AV.bool _ = AV.bool _; clear q hb hok hn1 hn2; simp_all [ownF, kidsI]; omega) | skip)
        all_goals (clear q hb hok hn1 hn2)
        all_goals (show AV.bool _ = AV.bool _; rw [AV.bool.injEq, Bool.eq_iff_iff])
        all_goals (first | (simp_all [ownF, kidsI, wordB_nil]; done) | (simp_all [ownF, kidsI, wordB_nil]; omega))
  obtain ⟨op, num, name, kids⟩ := e
  simp only [Ex.cells]; exact key op num name _ kids.length ⟨_, rfl⟩ hn1
end Go.Proofs.YtajhailaofchlaaDoor.lex
end

/-
  Statements: may one be, what is in it left aside (the program's answer).
-/
section
set_option linter.unusedVariables false
set_option linter.unusedSimpArgs false
namespace Go.Proofs.YtajhailaofchlaaDoor.lex
open Go.Abs Go.RowKit
set_option maxRecDepth 100000
set_option maxHeartbeats 8000000

def isW (m : Bool) (s : List UInt8) : Bool := if m then wordB s else s == []
def hasN (k : Int) : Bool := k == 1 || (k == 2 || (k == 4 || (k == 5 || k == 6)))
def hasL (k : Int) : Bool := decide (2 ≤ k ∧ k ≤ 6)
def hasO (k : Int) : Bool := decide (2 ≤ k ∧ k ≤ 7)
def hasX (k : Int) : Nat := if k = 2 ∨ k = 7 then 0 else if k = 4 then 2 else 1
def hasT (k : Int) : Bool := k == 10 || k == 11
def hasE (k : Int) : Bool := k == 10
def ownSF (kind : Int) (name loc : List UInt8) (order : Int) (nx nt ne : Nat) : Bool :=
  decide (1 ≤ kind ∧ kind ≤ 11) && (isW (hasN kind) name && (isW (hasL kind) loc && ((if hasO kind then decide (1 ≤ order ∧ order ≤ 6) else order == 0) && (decide (nx = hasX kind) && ((hasT kind || decide (nt = 0)) && (hasE kind || decide (ne = 0)))))))
def ownS (x : St) : Bool := ownSF x.kind x.name x.loc x.order x.exprs.length x.thn.length x.els.length
theorem rightS_key (kind : Int) (name loc : List UInt8) (order : Int) (nx nt ne : Nat) (cx ct ce rest : List AV) (d : Int) (hn : name.length ≤ 9223372036854775807) (hl : loc.length ≤ 9223372036854775807) :
    ValOK Tryd.prog runLives.gl 40 [.rp (.int .i64 kind :: .str name :: .str loc :: .int .i64 order :: .rs nx 4 cx :: .rs nt 7 ct :: .rs ne 7 ce :: rest), .int .i64 d] (.bool (ownSF kind name loc order nx nt ne)) := by
  have hb : hasBody Tryd.prog 37 = true := by kernel_rfl
  have q1 : ∀ (m : Bool) (H : AHeap), acall Tryd.prog (orcZ isWordF) H 37 [.str name, .bool m] = some (.bool (isW m name), H) := fun m H => callZ hb rfl (by simp only [isWordF, isW]; rw [if_pos hn])
  have q2 : ∀ (m : Bool) (H : AHeap), acall Tryd.prog (orcZ isWordF) H 37 [.str loc, .bool m] = some (.bool (isW m loc), H) := fun m H => callZ hb rfl (by simp only [isWordF, isW]; rw [if_pos hl])
  by_cases h1 : kind < 1
  · have e1 : decide (kind < 1) = true := by simpa using h1
    refine fn_val follows noNum isWordF_sound Tryd.func40 rfl ?_
    repeat' ((conv => whnf); (first | (with_reducible refine condT ?_ ?_; (focus ((first | assumption | decide | (simp; done) | (simp; omega)); done))) | (with_reducible refine condF ?_ ?_; (focus ((first | assumption | decide | (simp; done) | (simp; omega)); done))) | with_reducible refine condB (fun h => ?_) (fun h => ?_) | with_reducible refine exI rfl ?_ | with_reducible refine eqR rfl ?_ | (with_reducible refine exW (wrapN1 ?_) ?_; (focus (omega))) | (with_reducible refine exW (wrapN ?_) ?_; (focus (omega))) | (with_reducible refine exW (wrapB ?_ ?_) ?_; (focus (omega)); (focus (omega))) | with_reducible refine exW rfl ?_ | (with_reducible refine ixJ _ rfl ?_ ?_; (focus ((first | decide | omega | (simp; done) | (simp; omega)); done))) | (with_reducible refine ixJ' _ rfl ?_ ?_; (focus ((first | decide | omega | (simp; done) | (simp; omega)); done))) | (refine ixJ (Int.toNat _) ?_ ?_ ?_; (focus ((first | rfl | decide | omega | (simp; done)); done)); (focus ((first | decide | omega | (simp; done) | (simp; omega)); done))) | (refine ixJ' (Int.toNat _) ?_ ?_ ?_; (focus ((first | rfl | decide | omega | (simp; done)); done)); (focus ((first | decide | omega | (simp; done) | (simp; omega)); done))) | with_reducible refine ixS _ rfl (by assumption) ?_ | (with_reducible refine shlI ?_ ?_; (focus (first | decide | omega))) | (refine exI (callZ rfl rfl (if_pos ?_)) ?_; (focus ((first | decide | omega | (simp; done) | (simp; omega)); done)))))
    all_goals (show AV.bool _ = AV.bool _; congr 1; unfold ownSF; symm; rw [Bool.and_eq_false_iff]; left; simpa using fun h => absurd h (by omega))
  · have e1 : decide (kind < 1) = false := by simpa using h1
    by_cases h2 : 11 < kind
    · have e2 : decide (kind > 11) = true := by simpa using h2
      refine fn_val follows noNum isWordF_sound Tryd.func40 rfl ?_
      repeat' ((conv => whnf); (first | (with_reducible refine condT ?_ ?_; (focus ((first | assumption | decide | (simp; done) | (simp; omega)); done))) | (with_reducible refine condF ?_ ?_; (focus ((first | assumption | decide | (simp; done) | (simp; omega)); done))) | with_reducible refine condB (fun h => ?_) (fun h => ?_) | with_reducible refine exI rfl ?_ | with_reducible refine eqR rfl ?_ | (with_reducible refine exW (wrapN1 ?_) ?_; (focus (omega))) | (with_reducible refine exW (wrapN ?_) ?_; (focus (omega))) | (with_reducible refine exW (wrapB ?_ ?_) ?_; (focus (omega)); (focus (omega))) | with_reducible refine exW rfl ?_ | (with_reducible refine ixJ _ rfl ?_ ?_; (focus ((first | decide | omega | (simp; done) | (simp; omega)); done))) | (with_reducible refine ixJ' _ rfl ?_ ?_; (focus ((first | decide | omega | (simp; done) | (simp; omega)); done))) | (refine ixJ (Int.toNat _) ?_ ?_ ?_; (focus ((first | rfl | decide | omega | (simp; done)); done)); (focus ((first | decide | omega | (simp; done) | (simp; omega)); done))) | (refine ixJ' (Int.toNat _) ?_ ?_ ?_; (focus ((first | rfl | decide | omega | (simp; done)); done)); (focus ((first | decide | omega | (simp; done) | (simp; omega)); done))) | with_reducible refine ixS _ rfl (by assumption) ?_ | (with_reducible refine shlI ?_ ?_; (focus (first | decide | omega))) | (refine exI (callZ rfl rfl (if_pos ?_)) ?_; (focus ((first | decide | omega | (simp; done) | (simp; omega)); done)))))
      all_goals (show AV.bool _ = AV.bool _; congr 1; unfold ownSF; symm; rw [Bool.and_eq_false_iff]; left; simpa using fun _ => h2)
    · clear e1
      have hop : kind = 1 ∨ kind = 2 ∨ kind = 3 ∨ kind = 4 ∨ kind = 5 ∨ kind = 6 ∨ kind = 7 ∨ kind = 8 ∨ kind = 9 ∨ kind = 10 ∨ kind = 11 := by omega
      clear h1 h2
      have b1 : ∀ m, isW m name = true ∨ isW m name = false := fun m => by cases isW m name <;> simp
      have b2 : ∀ m, isW m loc = true ∨ isW m loc = false := fun m => by cases isW m loc <;> simp
      rcases hop with rfl | rfl | rfl | rfl | rfl | rfl | rfl | rfl | rfl | rfl | rfl
      all_goals (refine fn_val follows noNum isWordF_sound Tryd.func40 rfl ?_)
      all_goals (repeat' ((conv => whnf); first | (refine exI (q1 _ _) ?_) | (refine exI (q2 _ _) ?_) | (first | (with_reducible refine condT ?_ ?_; (focus ((first | assumption | decide | (simp; done) | (simp; omega)); done))) | (with_reducible refine condF ?_ ?_; (focus ((first | assumption | decide | (simp; done) | (simp; omega)); done))) | with_reducible refine condB (fun h => ?_) (fun h => ?_) | with_reducible refine exI rfl ?_ | with_reducible refine eqR rfl ?_ | (with_reducible refine exW (wrapN1 ?_) ?_; (focus (omega))) | (with_reducible refine exW (wrapN ?_) ?_; (focus (omega))) | (with_reducible refine exW (wrapB ?_ ?_) ?_; (focus (omega)); (focus (omega))) | with_reducible refine exW rfl ?_ | (with_reducible refine ixJ _ rfl ?_ ?_; (focus ((first | decide | omega | (simp; done) | (simp; omega)); done))) | (with_reducible refine ixJ' _ rfl ?_ ?_; (focus ((first | decide | omega | (simp; done) | (simp; omega)); done))) | (refine ixJ (Int.toNat _) ?_ ?_ ?_; (focus ((first | rfl | decide | omega | (simp; done)); done)); (focus ((first | decide | omega | (simp; done) | (simp; omega)); done))) | (refine ixJ' (Int.toNat _) ?_ ?_ ?_; (focus ((first | rfl | decide | omega | (simp; done)); done)); (focus ((first | decide | omega | (simp; done) | (simp; omega)); done))) | with_reducible refine ixS _ rfl (by assumption) ?_ | (with_reducible refine shlI ?_ ?_; (focus (first | decide | omega))) | (refine exI (callZ rfl rfl (if_pos ?_)) ?_; (focus ((first | decide | omega | (simp; done) | (simp; omega)); done))))))
      all_goals (clear q1 q2 hb b1 b2)
      all_goals (first | rfl | (show AV.bool _ = AV.bool _; rw [AV.bool.injEq, Bool.eq_iff_iff]; simp_all [ownSF, hasN, hasL, hasO, hasX, hasT, hasE]; done) | (show AV.bool _ = AV.bool _; rw [AV.bool.injEq, Bool.eq_iff_iff]; simp_all [ownSF, hasN, hasL, hasO, hasX, hasT, hasE]; omega) | skip)
      all_goals trace_state
end Go.Proofs.YtajhailaofchlaaDoor.lex
end

/-
  Statements and expressions: may they be, what is in them too (the program's answer); CheckExpr.
-/
section
set_option linter.unusedVariables false
set_option linter.unusedSimpArgs false
namespace Go.Proofs.YtajhailaofchlaaDoor.lex
open Go.Abs Go.RowKit
set_option maxRecDepth 100000
set_option maxHeartbeats 4000000

theorem noI_of {sn : Snap} {ι : IMap} {W : World} (h : R sn ι [] W) : ι = noI := by
  funext b
  cases hb : ι b with
  | none => rfl
  | some p => have := (h.dom b).2 ⟨p, hb⟩; simp at this
theorem mem_of_val {P : Program} {gl : Glob} {f : Nat} {args : List AV} {r : AV} (h : ValOK P gl f args r) (hp : plain r = true) : MemOK P gl f args [] r [] := by
  intro sn ι W cargs hg hR ha
  have := noI_of hR; subst this
  refine (h sn W cargs hg hR ha).mono ?_
  rintro e W' ⟨v, rfl, hx, hv⟩
  exact ⟨v, sn, noI, rfl, plain_VR hp hv, Stp.ext hR hx⟩
theorem val_of_mem {P : Program} {gl : Glob} {f : Nat} {args : List AV} {r : AV} (h : MemOK P gl f args [] r []) (hp : plain r = true) : ValOK P gl f args r := by
  intro sn W cargs hg hR ha
  refine (h sn noI W cargs hg hR ha).mono ?_
  rintro e W' ⟨v, sn', ι', rfl, hv, hs⟩
  exact ⟨v, rfl, ⟨fun c hc => hs.frame c hc fun b o p hb => by simp at hb, hs.size, hs.os, hs.tape, hs.output⟩, plain_VR hp hv⟩

/-! what rightExpr and rightStmt say of all -/
def rE (e : Ex) (_ : Int) (s : Unit) : Bool × Unit := (ownE e, s)
def rS (x : St) (_ : Int) (s : Unit) : Bool × Unit := (ownS x, s)
mutual
def rightS : St → Bool
  | .mk k n l o x t e => ownS (.mk k n l o x t e) && (rightL x && (rightSL t && rightSL e))
def rightSL : List St → Bool
  | [] => true
  | x :: l => rightS x && rightSL l
end
theorem rightS_eq : ∀ x : St, rightS x = (ownS x && (rightL x.exprs && (rightSL x.thn && rightSL x.els)))
  | .mk _ _ _ _ _ _ _ => by simp only [rightS, St.exprs, St.thn, St.els]
mutual
theorem goE_r : ∀ (e : Ex) (d : Int) (s : Unit), goE rE e d s = (rightE e, ())
  | .mk o n s k, d, t => by
    have := goL_r k (d + 1) ()
    simp only [goE, rE, ownE, Ex.op, Ex.num, Ex.name, Ex.kids, rightE, this]
    cases ownF o n s k.length <;> rfl
theorem goL_r : ∀ (l : List Ex) (d : Int) (s : Unit), goL rE l d s = (rightL l, ())
  | [], d, s => by simp only [goL, rightL]
  | e :: l, d, s => by
    simp only [goL, goE_r e d s, goL_r l d (), rightL]
    cases rightE e <;> rfl
end
mutual
theorem goS_r : ∀ (x : St) (d : Int) (s : Unit), goS rE rS x d s = (rightS x, ())
  | .mk k n l o x t e, d, s => by
    simp only [goS, rS, rightS, goL_r x (d + 1) (), goSL_r t (d + 1) (), goSL_r e (d + 1) (), thenB]
    cases ownS (.mk k n l o x t e) <;> cases rightL x <;> cases rightSL t <;> rfl
theorem goSL_r : ∀ (l : List St) (d : Int) (s : Unit), goSL rE rS l d s = (rightSL l, ())
  | [], d, s => by simp only [goSL, rightSL]
  | x :: l, d, s => by
    simp only [goSL, goS_r x d s, goSL_r l d (), rightSL, thenB]
    cases rightS x <;> rfl
end
/-- The walk with both. -/
def rV : TvS runLives.gl where
  σ := Unit
  Mem := fun _ => []
  k := 0
  len := fun _ => rfl
  same := fun _ => ⟨trivial, rfl, rfl⟩
  evo := fun _ _ => rfl
  inj := fun _ _ _ => rfl
  I := fun d s m => 0 ≤ d ∧ d + m ≤ 1152921504606846976
  up := fun d s m h0 h => ⟨h0, by have := h.2; omega⟩
  less := fun d s m h => ⟨h.1, by have := h.2; omega⟩
  bnd := fun d s m h => ⟨h.1, by have := h.2; omega⟩
  gE := 39
  cE := []
  hE := rE
  bodyE := by kernel_rfl
  wkE := trivial
  okE := fun e rest d s m ho _ => mem_of_val (rightX_ok e rest d ho) rfl
  downE := fun e d s m h _ => ⟨by have := h.1; omega, by have := h.2; omega⟩
  gS := 40
  cS := []
  hS := rS
  bodyS := by kernel_rfl
  wkS := trivial
  okS := fun x rest d s m ho _ => by
    refine mem_of_val ?_ rfl
    obtain ⟨k1, k2, _⟩ := okS_parts ho
    obtain ⟨k, n, l, o, x, t, e⟩ := x
    simp only [St.cells, exA]
    exact rightS_key k n l o x.length t.length e.length _ _ _ rest d k1 k2
  downS := fun e d s m h _ => ⟨by have := h.1; omega, by have := h.2; omega⟩
theorem stmts_r (l : List St) (d : Int) (hok : okSL l) (hl : l.length ≤ 9223372036854775807) (h0 : 0 ≤ d) (h1 : d + sizeSL l ≤ 1152921504606846976) : ValOK Tryd.prog runLives.gl 38 [stA l, .int .i64 d, .func (.func 39) [] [], .func (.func 40) [] []] (.bool (rightSL l)) := by
  have := TvS.stmts rV (sizeSL l) l d () 0 (Nat.le_refl _) hok hl ⟨h0, h1⟩
  have e : (goSL rV.hE rV.hS l d ()).1 = rightSL l := by
    have := goSL_r l d ()
    show (goSL rE rS l d ()).1 = _
    rw [this]
  rw [e] at this
  exact val_of_mem this rfl
theorem exprs_r (l : List Ex) (d : Int) (hok : okL l) (hl : l.length ≤ 9223372036854775807) (h0 : 0 ≤ d) (h1 : d + sizeL l ≤ 1152921504606846976) : ValOK Tryd.prog runLives.gl 41 [exA l, .int .i64 d, .func (.func 39) [] []] (.bool (rightL l)) := by
  have := TvE.exprs rV.toTvE follows (sizeL l) l d () 0 (Nat.le_refl _) hok hl ⟨h0, h1⟩
  have e : (goL rV.hE l d ()).1 = rightL l := by
    have := goL_r l d ()
    show (goL rE l d ()).1 = _
    rw [this]
  rw [e] at this
  exact val_of_mem this rfl

/-! counting, with limits -/
def cE (_ : Ex) (d : Int) (n : Nat) : Bool × Nat := (decide (((n + 1 : Nat) : Int) ≤ 2000) && decide (d ≤ 32), n + 1)
def cS (_ : St) (d : Int) (n : Nat) : Bool × Nat := (decide (((n + 1 : Nat) : Int) ≤ 2000) && decide (d ≤ 32), n + 1)
/-- A count: how many more, how deep at most. -/
def Cnt (r : Bool × Nat) (n a : Nat) (D : Int) : Prop := (r.1 = true ↔ n + a ≤ 2000 ∧ D ≤ 33) ∧ (r.1 = true → r.2 = n + a)
theorem cnt_then {r : Bool × Nat} {f : Nat → Bool × Nat} {n a b : Nat} {D1 D2 : Int} (h1 : Cnt r n a D1) (h2 : n + a ≤ 2000 → D1 ≤ 33 → Cnt (f (n + a)) (n + a) b D2) : Cnt (thenB r f) n (a + b) (max D1 D2) := by
  obtain ⟨g1, g2⟩ := h1
  unfold thenB
  by_cases h : r.1 = true
  · rw [if_pos h, g2 h]
    have h3 := g1.1 h
    obtain ⟨k1, k2⟩ := h2 h3.1 h3.2
    refine ⟨?_, fun h4 => by rw [k2 h4]; omega⟩
    rw [k1]
    constructor <;> (intro h; omega)
  · rw [if_neg h]
    refine ⟨⟨fun h => (by cases h), fun h3 => absurd (g1.2 (by omega)) h⟩, fun h => (by cases h)⟩
theorem cnt_one (d : Int) (n : Nat) : Cnt (decide (((n + 1 : Nat) : Int) ≤ 2000) && decide (d ≤ 32), n + 1) n 1 (d + 1) := by
  refine ⟨?_, fun _ => rfl⟩
  simp only [Bool.and_eq_true, decide_eq_true_eq]
  constructor <;> (intro h; omega)
theorem Cnt.to {r : Bool × Nat} {n a b : Nat} {D E : Int} (h : Cnt r n a D) (e1 : a = b) (e2 : D = E) : Cnt r n b E := by subst e1; subst e2; exact h
mutual
theorem goE_c : ∀ (e : Ex) (d : Int) (n : Nat), Cnt (goE cE e d n) n (sizeE e) (d + deepE e)
  | .mk o num s k, d, n => by
    have : goE cE (.mk o num s k) d n = thenB (cE (.mk o num s k) d n) fun n => goL cE k (d + 1) n := by simp only [goE, thenB]
    rw [this]
    exact (cnt_then (cnt_one d n) fun h1 h2 => goL_c k (d + 1) (n + 1) h1 h2).to (by simp only [sizeE]) (by simp only [deepE]; omega)
theorem goL_c : ∀ (l : List Ex) (d : Int) (n : Nat), n ≤ 2000 → d ≤ 33 → Cnt (goL cE l d n) n (sizeL l) (d + deepL l)
  | [], d, n, h1, h2 => by simp only [goL, sizeL, deepL]; exact ⟨⟨fun _ => by omega, fun _ => rfl⟩, fun _ => rfl⟩
  | e :: l, d, n, h1, h2 => by
    have : goL cE (e :: l) d n = thenB (goE cE e d n) fun n => goL cE l d n := by simp only [goL, thenB]
    rw [this]
    exact (cnt_then (goE_c e d n) fun h1 _ => goL_c l d _ h1 h2).to (by simp only [sizeL]) (by simp only [deepL]; omega)
end
mutual
theorem goS_c : ∀ (x : St) (d : Int) (n : Nat), Cnt (goS cE cS x d n) n (sizeS x) (d + deepS x)
  | .mk k nm lc o x t e, d, n => by
    simp only [goS]
    refine Cnt.to (cnt_then (cnt_one d n) fun h1 h2 => cnt_then (goL_c x (d + 1) (n + 1) h1 h2) fun h1 _ => cnt_then (goSL_c t (d + 1) _ h1 h2) fun h1 _ => goSL_c e (d + 1) _ h1 h2) ?_ ?_
    · simp only [sizeS]; omega
    · simp only [deepS]; omega
theorem goSL_c : ∀ (l : List St) (d : Int) (n : Nat), n ≤ 2000 → d ≤ 33 → Cnt (goSL cE cS l d n) n (sizeSL l) (d + deepSL l)
  | [], d, n, h1, h2 => by simp only [goSL, sizeSL, deepSL]; exact ⟨⟨fun _ => by omega, fun _ => rfl⟩, fun _ => rfl⟩
  | e :: l, d, n, h1, h2 => by
    simp only [goSL]
    exact (cnt_then (goS_c e d n) fun h1 _ => goSL_c l d _ h1 h2).to (by simp only [sizeSL]) (by simp only [deepSL]; omega)
end
end Go.Proofs.YtajhailaofchlaaDoor.lex
end

/-
  Expressions: the program's CheckExpr.
-/
section
set_option linter.unusedVariables false
set_option linter.unusedSimpArgs false
namespace Go.Proofs.YtajhailaofchlaaDoor.lex
open Go.Abs Go.RowKit
set_option maxRecDepth 100000
set_option maxHeartbeats 4000000

/-- What the counting closure keeps: itself, and the number. -/
def keepH (n : Nat) : AHeap := [⟨true, 0, 0, .cells [.func (.func 71) [] [.ptr 1 0]] 57⟩, ⟨true, 1, 0, .cells [.int .i64 n] 3⟩]
theorem keep1_ok (cs : List AV) (d : Int) (n : Nat) (hn : n ≤ 2000) : MemOK Tryd.prog runLives.gl 42 [.rp cs, .int .i64 d, .ptr 0 0] (keepH n) (.bool (decide (((n + 1 : Nat) : Int) ≤ 2000) && decide (d ≤ 32))) (keepH (n + 1)) := by
  refine fn_mem (k := 2) follows noNum (orcN_sound follows noNum isWordF_sound 3) rfl Tryd.func42 rfl (wcall_ok (isC := fun _ => false) 3) ?_
  repeat' ((conv => whnf); first | (with_reducible refine condT ?_ ?_; (focus ((first | assumption | decide | (simp; done) | (simp; omega)); done))) | (with_reducible refine condF ?_ ?_; (focus ((first | assumption | decide | (simp; done) | (simp; omega)); done))) | with_reducible refine condB (fun h => ?_) (fun h => ?_) | with_reducible refine exI rfl ?_ | with_reducible refine eqR rfl ?_ | (with_reducible refine exW (wrapN1 ?_) ?_; (focus (omega))) | (with_reducible refine exW (wrapN ?_) ?_; (focus (omega))) | (with_reducible refine exW (wrapB ?_ ?_) ?_; (focus (omega)); (focus (omega))) | with_reducible refine exW rfl ?_ | (with_reducible refine ixJ _ rfl ?_ ?_; (focus ((first | decide | omega | (simp; done) | (simp; omega)); done))) | (with_reducible refine ixJ' _ rfl ?_ ?_; (focus ((first | decide | omega | (simp; done) | (simp; omega)); done))) | (refine ixJ (Int.toNat _) ?_ ?_ ?_; (focus ((first | rfl | decide | omega | (simp; done)); done)); (focus ((first | decide | omega | (simp; done) | (simp; omega)); done))) | (refine ixJ' (Int.toNat _) ?_ ?_ ?_; (focus ((first | rfl | decide | omega | (simp; done)); done)); (focus ((first | decide | omega | (simp; done) | (simp; omega)); done))) | with_reducible refine ixS _ rfl (by assumption) ?_ | (with_reducible refine shlI ?_ ?_; (focus (first | decide | omega))) | (refine exI (callZ rfl rfl (if_pos ?_)) ?_; (focus ((first | decide | omega | (simp; done) | (simp; omega)); done))))
  all_goals (conv => whnf)
  · exact ⟨by rw [h]; rfl, rfl, rfl⟩
  · exact ⟨by rw [h]; rfl, rfl, rfl⟩
theorem keepH_inj {n m : Nat} (h : keepH n = keepH m) : n = m := by
  simp only [keepH, List.cons.injEq, AObj.mk.injEq, ABody.cells.injEq, AV.int.injEq, and_true, true_and] at h
  omega
theorem ceV_ok (e : Ex) (rest : List AV) (d : Int) (s : Nat) (h : s ≤ 2000) : MemOK Tryd.prog runLives.gl 42 ([.rp (e.cells ++ rest), .int .i64 d] ++ [.ptr 0 0]) (keepH s) (.bool (lex.cE e d s).1) (keepH (lex.cE e d s).2) :=
  keep1_ok (e.cells ++ rest) d s h
theorem ceV_down (e : Ex) (d : Int) (s : Nat) (h : 0 ≤ d ∧ d ≤ 33 ∧ s ≤ 2000) (ht : (lex.cE e d s).1 = true) : 0 ≤ d + 1 ∧ d + 1 ≤ 33 ∧ (lex.cE e d s).2 ≤ 2000 :=
  have h2 : s + 1 ≤ 2000 ∧ d + 1 ≤ 33 := (cnt_one d s).1.1 ht
  have h3 : 0 ≤ d := h.1
  ⟨by clear h ht h2; omega, h2.2, h2.1⟩
def ceV : TvE runLives.gl where
  σ := Nat
  Mem := keepH
  k := 2
  len := fun _ => rfl
  same := fun s => ⟨⟨⟨rfl, rfl, rfl, rfl, BodyGe.cellsL ⟨Wk.func trivial ⟨Wk.ptr rfl rfl, trivial⟩, trivial⟩⟩, ⟨rfl, rfl, rfl, rfl, BodyGe.pre (rest := []) rfl rfl⟩, trivial⟩, rfl, rfl⟩
  evo := fun _ _ => rfl
  inj := fun _ _ h => keepH_inj h
  I := fun d s m => 0 ≤ d ∧ d ≤ 33 ∧ s ≤ 2000
  up := fun d s m h0 h => ⟨h0, by have := h.2.1; omega, h.2.2⟩
  less := fun d s m h => h
  bnd := fun d s m h => ⟨h.1, by have := h.2.1; omega⟩
  gE := 42
  cE := [.ptr 0 0]
  hE := lex.cE
  bodyE := by kernel_rfl
  wkE := ⟨Wk.ptr rfl rfl, trivial⟩
  okE := fun e rest d s m _ h => by
    exact ceV_ok e rest d s h.2.2
  downE := fun e d s m h ht => ceV_down e d s h ht
/-- The caller's memory where the counting begins. -/
def ceH (cs : List AV) (n : Nat) : AHeap := [⟨true, 0, 0, .cells cs 36⟩, ⟨true, 1, 0, .cells [.int .i64 n] 3⟩, ⟨true, 2, 0, .cells cs 36⟩, ⟨true, 3, 0, .cells [.func (.func 71) [] [.ptr 1 0]] 57⟩]
theorem ce_fact (e : Ex) (hok : okE e) : MemOK Tryd.prog runLives.gl 41 [.slice 2 0 1 1 4, .int .i64 1, .func (.func 42) [] [.ptr 3 0]] (ceH e.cells 0) (.bool (goL cE [e] 1 0).1) (ceH e.cells (goL cE [e] 1 0).2) := by
  have hM := TvE.exprs ceV follows (sizeL [e]) [e] 1 (0 : Nat) 0 (Nat.le_refl _) (by simp only [okL]; exact ⟨hok, trivial⟩) (by simp) ⟨by omega, by omega, by omega⟩
  have hM : MemOK Tryd.prog runLives.gl 41 [exA [e], .int .i64 1, .func (.func 42) [] [.ptr 0 0]] (keepH 0) (.bool (goL cE [e] 1 0).1) (keepH (goL cE [e] 1 0).2) := hM
  simp only [exA, exC, List.append_nil] at hM
  generalize hb : (goL cE [e] 1 0).1 = b at *
  generalize hn : (goL cE [e] 1 0).2 = n at *
  have h := mem_frame (m := [3, 1]) (n := 3) (Hc := ceH e.cells 0) (cargs := [.slice 2 0 1 1 4, .int .i64 1, .func (.func 42) [] [.ptr 3 0]]) hM ?_ ?_ rfl rfl rfl rfl rfl rfl
  · have e1 : updM [3, 1] (keepH n) 0 (ceH e.cells 0) = ceH e.cells n := rfl
    rw [e1] at h
    exact h
  · obtain ⟨op, num, name, kids⟩ := e
    simp only [Ex.cells]; rfl
  · exact ⟨⟨rfl, rfl, rfl, rfl, BodyGe.cellsL ⟨Wk.func trivial ⟨Wk.ptr rfl rfl, trivial⟩, trivial⟩⟩, ⟨rfl, rfl, rfl, rfl, BodyGe.pre (rest := []) rfl rfl⟩, trivial⟩
section
open Classical
/-- The second call: is each of the right form. -/
noncomputable def ceF (cs : List AV) (r : Bool) : Nat → List AV → Option AV := fun f a => if f = 41 ∧ a = [.rs 1 4 cs, .int .i64 1, .func (.func 39) [] []] then some (.bool r) else none
end
theorem wk_check (e : Ex) : ((goL cE [e] 1 0).1 = true ↔ ¬ (2000 < sizeE e ∨ 32 < deepE e)) := by
  rw [(goL_c [e] 1 0 (by omega) (by omega)).1]
  simp only [sizeL, deepL]; omega
theorem checkEX_ok (e : Ex) (hok : okE e) (hs : sizeE e ≤ 1048576) : ValOK Tryd.prog runLives.gl 10 [.agg e.cells] (.int .i64 (checkE e)) := by
  have hI := ce_fact e hok
  have hw := wk_check e
  have hr : ValOK Tryd.prog runLives.gl 41 [.rs 1 4 e.cells, .int .i64 1, .func (.func 39) [] []] (.bool (rightE e)) := by
    have h := exprs_r [e] 1 (by simp only [okL]; exact ⟨hok, trivial⟩) (by simp) (by omega) (by simp only [sizeL]; omega)
    simpa only [exA, exC, List.append_nil, List.length_singleton, rightL, Bool.and_true] using h
  have hZ := orcZ_sound (P := Tryd.prog) (gl := runLives.gl) (F := ceF e.cells (rightE e)) fun f args r h => by
    unfold ceF at h
    split at h
    · rename_i h2
      obtain ⟨rfl, rfl⟩ := h2
      simp only [Option.some.injEq] at h
      subst h
      exact ⟨rfl, hr⟩
    · cases h
  unfold checkE
  generalize hb : (goL cE [e] 1 0).1 = b at *
  generalize hn : (goL cE [e] 1 0).2 = n at *
  have hO1 := orcI_sound (P := Tryd.prog) (gl := runLives.gl) (I := Unit) (G := fun _ => True) (fF := fun _ => 41) (fA := fun _ => [.slice 2 0 1 1 4, .int .i64 1, .func (.func 42) [] [.ptr 3 0]]) (fH := fun _ => ceH e.cells 0) (fR := fun _ => .bool b) (fO := fun _ => ceH e.cells n) fun _ _ => hI
  have hO := orcOr_sound hO1 hZ
  have q1 : acall Tryd.prog (orcOr (orcI (fun _ : Unit => True) (fun _ => 41) (fun _ => [.slice 2 0 1 1 4, .int .i64 1, .func (.func 42) [] [.ptr 3 0]]) (fun _ => ceH e.cells 0) (fun _ => .bool b) (fun _ => ceH e.cells n)) (orcZ (ceF e.cells (rightE e)))) (ceH e.cells 0) 41 [.slice 2 0 1 1 4, .int .i64 1, .func (.func 42) [] [.ptr 3 0]] = some (.bool b, ceH e.cells n) :=
    callOr1 (by kernel_rfl) (callI (fun _ _ _ _ _ _ _ => ⟨rfl, rfl⟩) (by kernel_rfl) () trivial rfl rfl rfl)
  have q2 : acall Tryd.prog (orcOr (orcI (fun _ : Unit => True) (fun _ => 41) (fun _ => [.slice 2 0 1 1 4, .int .i64 1, .func (.func 42) [] [.ptr 3 0]]) (fun _ => ceH e.cells 0) (fun _ => .bool b) (fun _ => ceH e.cells n)) (orcZ (ceF e.cells (rightE e)))) (ceH e.cells n) 41 [.slice 2 0 1 1 4, .int .i64 1, .func (.func 39) [] []] = some (.bool (rightE e), ceH e.cells n) := by
    refine callOr2 (by kernel_rfl) (orcI_none fun _ _ _ h => ?_) (callZ (fa := [.rs 1 4 e.cells, .int .i64 1, .func (.func 39) [] []]) (by kernel_rfl) ?_ ?_)
    · simp at h
    · obtain ⟨op, num, name, kids⟩ := e; rfl
    · unfold ceF; rw [if_pos ⟨rfl, rfl⟩]
  generalize orcOr (orcI (fun _ : Unit => True) (fun _ => 41) (fun _ => [.slice 2 0 1 1 4, .int .i64 1, .func (.func 42) [] [.ptr 3 0]]) (fun _ => ceH e.cells 0) (fun _ => .bool b) (fun _ => ceH e.cells n)) (orcZ (ceF e.cells (rightE e))) = O at *
  clear hI hr hZ hO1 hn hb
  generalize sizeE e = sz at *
  generalize deepE e = dp at *
  generalize rightE e = r at *
  obtain ⟨op, num, name, kids⟩ := e
  simp only [Ex.cells] at *
  refine fn_valI (fun g => Nat.beq g 41) 2 follows noNum hO Tryd.func10 rfl ?_
  repeat' ((conv => whnf); first | (refine exI q1 ?_) | (refine exI q2 ?_) | (first | (with_reducible refine condT ?_ ?_; (focus ((first | assumption | decide | (simp; done) | (simp; omega)); done))) | (with_reducible refine condF ?_ ?_; (focus ((first | assumption | decide | (simp; done) | (simp; omega)); done))) | with_reducible refine condB (fun h => ?_) (fun h => ?_) | with_reducible refine exI rfl ?_ | with_reducible refine eqR rfl ?_ | (with_reducible refine exW (wrapN1 ?_) ?_; (focus (omega))) | (with_reducible refine exW (wrapN ?_) ?_; (focus (omega))) | (with_reducible refine exW (wrapB ?_ ?_) ?_; (focus (omega)); (focus (omega))) | with_reducible refine exW rfl ?_ | (with_reducible refine ixJ _ rfl ?_ ?_; (focus ((first | decide | omega | (simp; done) | (simp; omega)); done))) | (with_reducible refine ixJ' _ rfl ?_ ?_; (focus ((first | decide | omega | (simp; done) | (simp; omega)); done))) | (refine ixJ (Int.toNat _) ?_ ?_ ?_; (focus ((first | rfl | decide | omega | (simp; done)); done)); (focus ((first | decide | omega | (simp; done) | (simp; omega)); done))) | (refine ixJ' (Int.toNat _) ?_ ?_ ?_; (focus ((first | rfl | decide | omega | (simp; done)); done)); (focus ((first | decide | omega | (simp; done) | (simp; omega)); done))) | with_reducible refine ixS _ rfl (by assumption) ?_ | (with_reducible refine shlI ?_ ?_; (focus (first | decide | omega))) | (refine exI (callZ rfl rfl (if_pos ?_)) ?_; (focus ((first | decide | omega | (simp; done) | (simp; omega)); done)))))
  all_goals (conv => whnf)
  all_goals (show AV.int _ _ = AV.int _ _; congr 1; clear q1 q2 hO; subst_vars)
  all_goals (by_cases hq : 2000 < sz ∨ 32 < dp <;> cases r <;> simp_all)
end Go.Proofs.YtajhailaofchlaaDoor.lex
end

/-
  Programs: how many parts, how deep (the program's answers): what is told of each part.
-/
section
set_option linter.unusedVariables false
set_option linter.unusedSimpArgs false
namespace Go.Proofs.YtajhailaofchlaaDoor.lex
open Go.Abs Go.RowKit
set_option maxRecDepth 100000
set_option maxHeartbeats 4000000

/-! Size -/
def szH (n : Nat) : AHeap := [⟨true, 0, 0, .cells [.int .i64 n] 3⟩, ⟨true, 1, 0, .cells [.func (.func 51) [] [.ptr 0 0]] 57⟩]
def szE (_ : Ex) (_ : Int) (n : Nat) : Bool × Nat := (true, n + 1)
def szS (_ : St) (_ : Int) (n : Nat) : Bool × Nat := (true, n + 1)
theorem sz1_ok (cs : List AV) (d : Int) (n : Nat) (hn : n ≤ 1152921504606846976) : MemOK Tryd.prog runLives.gl 72 [.rp cs, .int .i64 d, .ptr 1 0] (szH n) (.bool true) (szH (n + 1)) := by
  refine fn_mem (k := 2) follows noNum (orcN_sound follows noNum isWordF_sound 3) rfl Tryd.func72 rfl (wcall_ok (isC := fun _ => false) 3) ?_
  repeat' ((conv => whnf); first | (with_reducible refine condT ?_ ?_; (focus (assumption))) | (with_reducible refine condF ?_ ?_; (focus (assumption))) | (with_reducible refine condT ?_ ?_; (focus (decide))) | (with_reducible refine condF ?_ ?_; (focus (decide))) | (with_reducible refine condT ?_ ?_; (focus ((first | assumption | decide | (simp; done) | (simp; omega)); done))) | (with_reducible refine condF ?_ ?_; (focus ((first | assumption | decide | (simp; done) | (simp; omega)); done))) | with_reducible refine condB (fun h => ?_) (fun h => ?_) | with_reducible refine exI rfl ?_ | with_reducible refine eqR rfl ?_ | (with_reducible refine exW (wrapN1 ?_) ?_; (focus (omega))) | (with_reducible refine exW (wrapN ?_) ?_; (focus (omega))) | (with_reducible refine exW (wrapB ?_ ?_) ?_; (focus (omega)); (focus (omega))) | with_reducible refine exW rfl ?_ | (with_reducible refine ixJ _ rfl ?_ ?_; (focus ((first | decide | omega | (simp; done) | (simp; omega)); done))) | (with_reducible refine ixJ' _ rfl ?_ ?_; (focus ((first | decide | omega | (simp; done) | (simp; omega)); done))) | (refine ixJ (Int.toNat _) ?_ ?_ ?_; (focus ((first | rfl | decide | omega | (simp; done)); done)); (focus ((first | decide | omega | (simp; done) | (simp; omega)); done))) | (refine ixJ' (Int.toNat _) ?_ ?_ ?_; (focus ((first | rfl | decide | omega | (simp; done)); done)); (focus ((first | decide | omega | (simp; done) | (simp; omega)); done))) | with_reducible refine ixS _ rfl (by assumption) ?_ | (with_reducible refine shlI ?_ ?_; (focus (first | decide | omega))) | (refine exI (callZ rfl rfl (if_pos ?_)) ?_; (focus ((first | decide | omega | (simp; done) | (simp; omega)); done))))
  all_goals (conv => whnf)
  all_goals (exact ⟨rfl, rfl⟩)
theorem sz2_ok (cs : List AV) (d : Int) (n : Nat) (hn : n ≤ 1152921504606846976) : MemOK Tryd.prog runLives.gl 73 [.rp cs, .int .i64 d, .ptr 1 0] (szH n) (.bool true) (szH (n + 1)) := by
  refine fn_mem (k := 2) follows noNum (orcN_sound follows noNum isWordF_sound 3) rfl Tryd.func73 rfl (wcall_ok (isC := fun _ => false) 3) ?_
  repeat' ((conv => whnf); first | (with_reducible refine condT ?_ ?_; (focus (assumption))) | (with_reducible refine condF ?_ ?_; (focus (assumption))) | (with_reducible refine condT ?_ ?_; (focus (decide))) | (with_reducible refine condF ?_ ?_; (focus (decide))) | (with_reducible refine condT ?_ ?_; (focus ((first | assumption | decide | (simp; done) | (simp; omega)); done))) | (with_reducible refine condF ?_ ?_; (focus ((first | assumption | decide | (simp; done) | (simp; omega)); done))) | with_reducible refine condB (fun h => ?_) (fun h => ?_) | with_reducible refine exI rfl ?_ | with_reducible refine eqR rfl ?_ | (with_reducible refine exW (wrapN1 ?_) ?_; (focus (omega))) | (with_reducible refine exW (wrapN ?_) ?_; (focus (omega))) | (with_reducible refine exW (wrapB ?_ ?_) ?_; (focus (omega)); (focus (omega))) | with_reducible refine exW rfl ?_ | (with_reducible refine ixJ _ rfl ?_ ?_; (focus ((first | decide | omega | (simp; done) | (simp; omega)); done))) | (with_reducible refine ixJ' _ rfl ?_ ?_; (focus ((first | decide | omega | (simp; done) | (simp; omega)); done))) | (refine ixJ (Int.toNat _) ?_ ?_ ?_; (focus ((first | rfl | decide | omega | (simp; done)); done)); (focus ((first | decide | omega | (simp; done) | (simp; omega)); done))) | (refine ixJ' (Int.toNat _) ?_ ?_ ?_; (focus ((first | rfl | decide | omega | (simp; done)); done)); (focus ((first | decide | omega | (simp; done) | (simp; omega)); done))) | with_reducible refine ixS _ rfl (by assumption) ?_ | (with_reducible refine shlI ?_ ?_; (focus (first | decide | omega))) | (refine exI (callZ rfl rfl (if_pos ?_)) ?_; (focus ((first | decide | omega | (simp; done) | (simp; omega)); done))))
  all_goals (conv => whnf)
  all_goals (exact ⟨rfl, rfl⟩)
theorem szH_inj {n m : Nat} (h : szH n = szH m) : n = m := by
  simp only [szH, List.cons.injEq, AObj.mk.injEq, ABody.cells.injEq, AV.int.injEq, and_true, true_and] at h
  omega
mutual
theorem goE_sz : ∀ (e : Ex) (d : Int) (n : Nat), goE szE e d n = (true, n + sizeE e)
  | .mk o num s k, d, n => by
    simp only [goE, szE, if_true, sizeE, goL_sz k (d + 1) (n + 1)]
    rw [Nat.add_assoc]
theorem goL_sz : ∀ (l : List Ex) (d : Int) (n : Nat), goL szE l d n = (true, n + sizeL l)
  | [], d, n => by simp only [goL, sizeL, Nat.add_zero]
  | e :: l, d, n => by
    simp only [goL, goE_sz e d n, if_true, goL_sz l d, sizeL]
    rw [Nat.add_assoc]
end
mutual
theorem goS_sz : ∀ (x : St) (d : Int) (n : Nat), goS szE szS x d n = (true, n + sizeS x)
  | .mk k nm lc o x t e, d, n => by
    simp only [goS, szS, thenB, if_true, goL_sz, goSL_sz t, goSL_sz e, sizeS]
    congr 1; omega
theorem goSL_sz : ∀ (l : List St) (d : Int) (n : Nat), goSL szE szS l d n = (true, n + sizeSL l)
  | [], d, n => by simp only [goSL, sizeSL, Nat.add_zero]
  | e :: l, d, n => by
    simp only [goSL, thenB, goS_sz e d n, if_true, goSL_sz l d, sizeSL]
    rw [Nat.add_assoc]
end
theorem szV_E (e : Ex) (rest : List AV) (d : Int) (s m : Nat) (h : 0 ≤ d ∧ d + ((m + 1 : Nat) : Int) ≤ 576460752303423488 ∧ s + (m + 1) ≤ 576460752303423488) : MemOK Tryd.prog runLives.gl 72 ([.rp (e.cells ++ rest), .int .i64 d] ++ [.ptr 1 0]) (szH s) (.bool (szE e d s).1) (szH (szE e d s).2) :=
  sz1_ok _ d s (by omega)
theorem szV_S (x : St) (rest : List AV) (d : Int) (s m : Nat) (h : 0 ≤ d ∧ d + ((m + 1 : Nat) : Int) ≤ 576460752303423488 ∧ s + (m + 1) ≤ 576460752303423488) : MemOK Tryd.prog runLives.gl 73 ([.rp (x.cells ++ rest), .int .i64 d] ++ [.ptr 1 0]) (szH s) (.bool (szS x d s).1) (szH (szS x d s).2) :=
  sz2_ok _ d s (by omega)
theorem szV_down (d : Int) (s m : Nat) (h : 0 ≤ d ∧ d + ((m + 1 : Nat) : Int) ≤ 576460752303423488 ∧ s + (m + 1) ≤ 576460752303423488) : 0 ≤ d + 1 ∧ d + 1 + (m : Int) ≤ 576460752303423488 ∧ s + 1 + m ≤ 576460752303423488 := by omega
theorem szV_less (d : Int) (s m : Nat) (h : 0 ≤ d ∧ d + ((m + 1 : Nat) : Int) ≤ 576460752303423488 ∧ s + (m + 1) ≤ 576460752303423488) : 0 ≤ d ∧ d + (m : Int) ≤ 576460752303423488 ∧ s + m ≤ 576460752303423488 := by omega
theorem szV_up (d : Int) (s m : Nat) (h0 : 0 ≤ d) (h : 0 ≤ d + 1 ∧ d + 1 + (m : Int) ≤ 576460752303423488 ∧ s + m ≤ 576460752303423488) : 0 ≤ d ∧ d + (m : Int) ≤ 576460752303423488 ∧ s + m ≤ 576460752303423488 := by omega
theorem szV_bnd (d : Int) (s m : Nat) (h : 0 ≤ d ∧ d + (m : Int) ≤ 576460752303423488 ∧ s + m ≤ 576460752303423488) : 0 ≤ d ∧ d ≤ 1152921504606846976 := by omega
def szV : TvS runLives.gl where
  σ := Nat
  Mem := szH
  k := 2
  len := fun _ => rfl
  same := fun s => ⟨⟨⟨rfl, rfl, rfl, rfl, BodyGe.pre (rest := []) rfl rfl⟩, ⟨rfl, rfl, rfl, rfl, BodyGe.cellsL ⟨Wk.func trivial ⟨Wk.ptr rfl rfl, trivial⟩, trivial⟩⟩, trivial⟩, rfl, rfl⟩
  evo := fun _ _ => rfl
  inj := fun _ _ h => szH_inj h
  I := fun d s m => 0 ≤ d ∧ d + (m : Int) ≤ 576460752303423488 ∧ s + m ≤ 576460752303423488
  up := fun d s m h0 h => szV_up d s m h0 h
  less := fun d s m h => szV_less d s m h
  bnd := fun d s m h => szV_bnd d s m h
  gE := 72
  cE := [.ptr 1 0]
  hE := szE
  bodyE := by kernel_rfl
  wkE := ⟨Wk.ptr rfl rfl, trivial⟩
  okE := fun e rest d s m _ h => szV_E e rest d s m h
  downE := fun e d s m h _ => szV_down d s m h
  gS := 73
  cS := [.ptr 1 0]
  hS := szS
  bodyS := by kernel_rfl
  wkS := ⟨Wk.ptr rfl rfl, trivial⟩
  okS := fun x rest d s m _ h => szV_S x rest d s m h
  downS := fun e d s m h _ => szV_down d s m h
def szF : AV := .func (.func 72) [] [.ptr 1 0]
def szG : AV := .func (.func 73) [] [.ptr 1 0]
theorem sz_stmts (l : List St) (n : Nat) (hok : okSL l) (hl : l.length ≤ 9223372036854775807) (h : 1 + n + sizeSL l ≤ 1048576) : MemOK Tryd.prog runLives.gl 38 [stA l, .int .i64 1, szF, szG] (szH n) (.bool true) (szH (n + sizeSL l)) := by
  have := TvS.stmts szV (sizeSL l) l 1 n 0 (Nat.le_refl _) hok hl (by show (0 : Int) ≤ 1 ∧ (1 : Int) + ((sizeSL l + 0 : Nat) : Int) ≤ 576460752303423488 ∧ n + (sizeSL l + 0) ≤ 576460752303423488; omega)
  have e : goSL szV.hE szV.hS l 1 n = (true, n + sizeSL l) := goSL_sz l 1 n
  rw [e] at this
  exact this

def sizeTL : List (List St) → Nat
  | [] => 0
  | l :: t => sizeSL l + sizeTL t
def okTL : List (List St) → Prop
  | [] => True
  | l :: t => okSL l ∧ l.length ≤ 9223372036854775807 ∧ okTL t
theorem okTL_get : ∀ {t : List (List St)}, okTL t → ∀ l ∈ t, okSL l ∧ l.length ≤ 9223372036854775807
  | x :: t, h, l, hl => by
    rcases List.mem_cons.1 hl with rfl | hl
    · exact ⟨h.1, h.2.1⟩
    · exact okTL_get h.2.2 l hl
theorem sizeTL_take : ∀ (t : List (List St)) (i : Nat) (h : i < t.length), sizeTL (t.take (i + 1)) = sizeTL (t.take i) + sizeSL t[i]
  | e :: l, 0, h => by simp only [List.take_succ_cons, List.take_zero, sizeTL, List.getElem_cons_zero]; omega
  | e :: l, i + 1, h => by
    have := sizeTL_take l i (by simpa using h)
    simp only [List.take_succ_cons, sizeTL, List.getElem_cons_succ] at this ⊢; omega
theorem sizeTL_le : ∀ (t : List (List St)) (i : Nat) (h : i < t.length), sizeTL (t.take i) + sizeSL t[i] ≤ sizeTL t
  | e :: l, 0, h => by simp only [List.take_zero, sizeTL, List.getElem_cons_zero]; omega
  | e :: l, i + 1, h => by
    have := sizeTL_le l i (by simpa using h)
    simp only [List.take_succ_cons, sizeTL, List.getElem_cons_succ] at this ⊢; omega
theorem th1 (t : List (List St)) (i : Nat) (h : i < t.length) : tk 1 ((t.map stA).drop (i * 1)) = some [stA t[i]] := tk1_map stA t i h (by omega)
/-- The memory of the walk: what is counted, the program, what is told. -/
def ndH (v : AV) (g nd nt : Nat) (cd ct : List AV) : AHeap := [⟨true, 0, 0, .cells [v] 3⟩, ⟨true, 1, 0, .cells [.rs nd 3 cd, .rs nt 1 ct] 25⟩, ⟨true, 2, 0, .cells [.func (.func g) [] [.ptr 0 0]] 57⟩]
def ndF : AV := .func (.func 72) [] [.ptr 2 0]
def ndG : AV := .func (.func 73) [] [.ptr 2 0]
theorem sz_nd (nd nt : Nat) (cd ct : List AV) (l : List St) (n : Nat) (hok : okSL l) (hl : l.length ≤ 9223372036854775807) (h : 1 + n + sizeSL l ≤ 1048576) : MemOK Tryd.prog runLives.gl 38 [stA l, .int .i64 1, ndF, ndG] (ndH (.int .i64 n) 51 nd nt cd ct) (.bool true) (ndH (.int .i64 (n + sizeSL l : Nat)) 51 nd nt cd ct) := by
  have hM := sz_stmts l n hok hl h
  have h := mem_frame (m := [0, 2]) (n := 3) (Hc := ndH (.int .i64 n) 51 nd nt cd ct) (cargs := [stA l, .int .i64 1, ndF, ndG]) hM ?_ ?_ rfl rfl rfl rfl rfl rfl
  · have e1 : updM [0, 2] (szH (n + sizeSL l)) 0 (ndH (.int .i64 n) 51 nd nt cd ct) = ndH (.int .i64 (n + sizeSL l : Nat)) 51 nd nt cd ct := rfl
    rw [e1] at h
    exact h
  · rfl
  · exact ⟨⟨rfl, rfl, rfl, rfl, BodyGe.pre (rest := []) rfl rfl⟩, ⟨rfl, rfl, rfl, rfl, BodyGe.cellsL ⟨Wk.func trivial ⟨Wk.ptr rfl rfl, trivial⟩, trivial⟩⟩, trivial⟩
theorem ndH_inj {v w : AV} {g nd nt : Nat} {cd ct : List AV} (h : ndH v g nd nt cd ct = ndH w g nd nt cd ct) : v = w := by
  simp only [ndH, List.cons.injEq, AObj.mk.injEq, ABody.cells.injEq, and_true, true_and] at h
  exact h
theorem nodes_sz (ts : List (List St)) (nd : Nat) (cd : List AV) (n : Nat) (hok : okTL ts) (hl : ts.length ≤ 9223372036854775807) (h : 1 + n + sizeTL ts ≤ 1048576) :
    MemOK Tryd.prog runLives.gl 35 [.agg [.rs nd 3 cd, .rs ts.length 1 (ts.map stA)], .func (.func 51) [] [.ptr 0 0]] [⟨true, 0, 0, .cells [.int .i64 n] 3⟩] (.tuple []) [⟨true, 0, 0, .cells [.int .i64 (n + sizeTL ts : Nat)] 3⟩] := by
  obtain ⟨O, hO, ⟨p1, -⟩, -⟩ := famsM (P := Tryd.prog) (gl := runLives.gl) [{ I := List St × Nat, f := 38, G := (fun p => okSL p.1 ∧ p.1.length ≤ 9223372036854775807 ∧ 1 + p.2 + sizeSL p.1 ≤ 1048576), A := (fun p => [stA p.1, .int .i64 1, ndF, ndG]), H := (fun p => ndH (.int .i64 p.2) 51 nd ts.length cd (ts.map stA)), R := (fun p => .bool true), O := (fun p => ndH (.int .i64 (p.2 + sizeSL p.1 : Nat)) 51 nd ts.length cd (ts.map stA)), body := (by kernel_rfl), inj := (fun p q _ _ ha hh => by simp only [List.cons.injEq, and_true] at ha; have := ndH_inj hh; simp only [AV.int.injEq, true_and] at this; rw [stA_inj ha, show p.2 = q.2 by omega]; exact ⟨rfl, rfl⟩), ok := (fun p hp => sz_nd _ _ _ _ p.1 p.2 hp.1 hp.2.1 hp.2.2) }] [] rfl
  have q1 : ∀ l n, okSL l → l.length ≤ 9223372036854775807 → 1 + n + sizeSL l ≤ 1048576 → acall Tryd.prog O (ndH (.int .i64 (n : Nat)) 51 nd ts.length cd (ts.map stA)) 38 [stA l, .int .i64 1, ndF, ndG] = some (.bool true, ndH (.int .i64 (n + sizeSL l : Nat)) 51 nd ts.length cd (ts.map stA)) := fun l n h1 h2 h3 => p1 (l, n) ⟨h1, h2, h3⟩
  clear p1
  refine fn_mem (k := 1) follows noNum hO rfl Tryd.func35 rfl (cw0_ok _ _) ?_
  repeat' ((conv => whnf); first | (with_reducible refine condT ?_ ?_; (focus (assumption))) | (with_reducible refine condF ?_ ?_; (focus (assumption))) | (with_reducible refine condT ?_ ?_; (focus (decide))) | (with_reducible refine condF ?_ ?_; (focus (decide))) | (with_reducible refine condT ?_ ?_; (focus ((first | assumption | decide | (simp; done) | (simp; omega)); done))) | (with_reducible refine condF ?_ ?_; (focus ((first | assumption | decide | (simp; done) | (simp; omega)); done))) | with_reducible refine condB (fun h => ?_) (fun h => ?_) | with_reducible refine exI rfl ?_ | with_reducible refine eqR rfl ?_ | (with_reducible refine exW (wrapN1 ?_) ?_; (focus (omega))) | (with_reducible refine exW (wrapN ?_) ?_; (focus (omega))) | (with_reducible refine exW (wrapB ?_ ?_) ?_; (focus (omega)); (focus (omega))) | with_reducible refine exW rfl ?_ | (with_reducible refine ixJ _ rfl ?_ ?_; (focus ((first | decide | omega | (simp; done) | (simp; omega)); done))) | (with_reducible refine ixJ' _ rfl ?_ ?_; (focus ((first | decide | omega | (simp; done) | (simp; omega)); done))) | (refine ixJ (Int.toNat _) ?_ ?_ ?_; (focus ((first | rfl | decide | omega | (simp; done)); done)); (focus ((first | decide | omega | (simp; done) | (simp; omega)); done))) | (refine ixJ' (Int.toNat _) ?_ ?_ ?_; (focus ((first | rfl | decide | omega | (simp; done)); done)); (focus ((first | decide | omega | (simp; done) | (simp; omega)); done))) | with_reducible refine ixS _ rfl (by assumption) ?_ | (with_reducible refine shlI ?_ ?_; (focus (first | decide | omega))) | (refine exI (callZ rfl rfl (if_pos ?_)) ?_; (focus ((first | decide | omega | (simp; done) | (simp; omega)); done))))
  conv => whnf
  refine ⟨Nat, (fun i => i ≤ ts.length), (fun i => [(4, ndF), (5, ndG), (11, .rs ts.length 1 (ts.map stA)), (12, .int .i64 ts.length), (13, .int .i64 i)]), (fun i => ndH (.int .i64 (n + sizeTL (ts.take i) : Nat)) 51 nd ts.length cd (ts.map stA)), (fun i => ts.length - i), ⟨0, Nat.zero_le _, FgLK.mk [0, 1, 2] rfl rfl ?_ ⟨⟨rfl, rfl, rfl, rfl, BodyGe.pre (rest := []) rfl rfl⟩, ⟨rfl, rfl, rfl, rfl, BodyGe.pre (rest := []) rfl rfl⟩, ⟨rfl, rfl, rfl, rfl, BodyGe.cellsL ⟨Wk.func trivial ⟨Wk.ptr rfl rfl, trivial⟩, trivial⟩⟩, trivial⟩ rfl⟩, ?_⟩
  · refine And.intro (Wk.func trivial ⟨Wk.ptr rfl rfl, trivial⟩) ?_
    refine And.intro (Wk.func trivial ⟨Wk.ptr rfl rfl, trivial⟩) ?_
    refine And.intro (Wk.noref rfl) ?_
    refine And.intro (Wk.int rfl) ?_
    exact ⟨Wk.int rfl, trivial⟩
  intro i hi
  dsimp only
  by_cases hlt : i < ts.length
  · have e1 : decide ((i : Int) < (ts.length : Int)) = true := by simpa using hlt
    have hs := sizeTL_take ts i hlt
    have hle := sizeTL_le ts i hlt
    have hx := th1 ts i hlt
    obtain ⟨k1, k2⟩ := okTL_get hok _ (get_mem hlt)
    have q2 := q1 ts[i] (n + sizeTL (ts.take i)) k1 k2 (by omega)
    generalize ts[i] = l at *
    simp only [stA] at hx
    simp only [stA, ndF, ndG, ndH] at q2
    repeat' ((conv => whnf); first | (refine exI hx ?_) | (refine exI q2 ?_) | (with_reducible refine ixJ i rfl ?_ ?_; (focus (omega))) | (first | (with_reducible refine condT ?_ ?_; (focus (assumption))) | (with_reducible refine condF ?_ ?_; (focus (assumption))) | (with_reducible refine condT ?_ ?_; (focus (decide))) | (with_reducible refine condF ?_ ?_; (focus (decide))) | (with_reducible refine condT ?_ ?_; (focus ((first | assumption | decide | (simp; done) | (simp; omega)); done))) | (with_reducible refine condF ?_ ?_; (focus ((first | assumption | decide | (simp; done) | (simp; omega)); done))) | with_reducible refine condB (fun h => ?_) (fun h => ?_) | with_reducible refine exI rfl ?_ | with_reducible refine eqR rfl ?_ | (with_reducible refine exW (wrapN1 ?_) ?_; (focus (omega))) | (with_reducible refine exW (wrapN ?_) ?_; (focus (omega))) | (with_reducible refine exW (wrapB ?_ ?_) ?_; (focus (omega)); (focus (omega))) | with_reducible refine exW rfl ?_ | (with_reducible refine ixJ _ rfl ?_ ?_; (focus ((first | decide | omega | (simp; done) | (simp; omega)); done))) | (with_reducible refine ixJ' _ rfl ?_ ?_; (focus ((first | decide | omega | (simp; done) | (simp; omega)); done))) | (refine ixJ (Int.toNat _) ?_ ?_ ?_; (focus ((first | rfl | decide | omega | (simp; done)); done)); (focus ((first | decide | omega | (simp; done) | (simp; omega)); done))) | (refine ixJ' (Int.toNat _) ?_ ?_ ?_; (focus ((first | rfl | decide | omega | (simp; done)); done)); (focus ((first | decide | omega | (simp; done) | (simp; omega)); done))) | with_reducible refine ixS _ rfl (by assumption) ?_ | (with_reducible refine shlI ?_ ?_; (focus (first | decide | omega))) | (refine exI (callZ rfl rfl (if_pos ?_)) ?_; (focus ((first | decide | omega | (simp; done) | (simp; omega)); done)))))
    conv => whnf
    refine ⟨i + 1, hlt, by show ts.length - (i + 1) < ts.length - i; omega, FgLK.mk [0, 1, 2] rfl rfl ?_ ⟨⟨rfl, rfl, rfl, rfl, ?_⟩, ⟨rfl, rfl, rfl, rfl, BodyGe.pre (rest := []) rfl rfl⟩, ⟨rfl, rfl, rfl, rfl, BodyGe.cellsL ⟨Wk.func trivial ⟨Wk.ptr rfl rfl, trivial⟩, trivial⟩⟩, trivial⟩ rfl⟩
    · refine And.intro (Wk.func trivial ⟨Wk.ptr rfl rfl, trivial⟩) ?_
      refine And.intro (Wk.func trivial ⟨Wk.ptr rfl rfl, trivial⟩) ?_
      refine And.intro (Wk.noref rfl) ?_
      refine And.intro (Wk.int rfl) ?_
      exact ⟨Wk.int rfl, trivial⟩
    · rw [hs, ← Nat.add_assoc]
      exact BodyGe.pre (rest := []) rfl rfl
  · have e1 : decide ((i : Int) < (ts.length : Int)) = false := by simpa using hlt
    have hi2 : i = ts.length := by have := hi; omega
    subst hi2
    rw [List.take_length]
    repeat' ((conv => whnf); first | (with_reducible refine condT ?_ ?_; (focus (assumption))) | (with_reducible refine condF ?_ ?_; (focus (assumption))) | (with_reducible refine condT ?_ ?_; (focus (decide))) | (with_reducible refine condF ?_ ?_; (focus (decide))) | (with_reducible refine condT ?_ ?_; (focus ((first | assumption | decide | (simp; done) | (simp; omega)); done))) | (with_reducible refine condF ?_ ?_; (focus ((first | assumption | decide | (simp; done) | (simp; omega)); done))) | with_reducible refine condB (fun h => ?_) (fun h => ?_) | with_reducible refine exI rfl ?_ | with_reducible refine eqR rfl ?_ | (with_reducible refine exW (wrapN1 ?_) ?_; (focus (omega))) | (with_reducible refine exW (wrapN ?_) ?_; (focus (omega))) | (with_reducible refine exW (wrapB ?_ ?_) ?_; (focus (omega)); (focus (omega))) | with_reducible refine exW rfl ?_ | (with_reducible refine ixJ _ rfl ?_ ?_; (focus ((first | decide | omega | (simp; done) | (simp; omega)); done))) | (with_reducible refine ixJ' _ rfl ?_ ?_; (focus ((first | decide | omega | (simp; done) | (simp; omega)); done))) | (refine ixJ (Int.toNat _) ?_ ?_ ?_; (focus ((first | rfl | decide | omega | (simp; done)); done)); (focus ((first | decide | omega | (simp; done) | (simp; omega)); done))) | (refine ixJ' (Int.toNat _) ?_ ?_ ?_; (focus ((first | rfl | decide | omega | (simp; done)); done)); (focus ((first | decide | omega | (simp; done) | (simp; omega)); done))) | with_reducible refine ixS _ rfl (by assumption) ?_ | (with_reducible refine shlI ?_ ?_; (focus (first | decide | omega))) | (refine exI (callZ rfl rfl (if_pos ?_)) ?_; (focus ((first | decide | omega | (simp; done) | (simp; omega)); done))))
    all_goals (conv => whnf)
    all_goals (exact ⟨rfl, rfl⟩)
end Go.Proofs.YtajhailaofchlaaDoor.lex
end

/-
  Programs: how deep (the program's answer): what is told of each part.
-/
section
set_option linter.unusedVariables false
set_option linter.unusedSimpArgs false
namespace Go.Proofs.YtajhailaofchlaaDoor.lex
open Go.Abs Go.RowKit
set_option maxRecDepth 100000
set_option maxHeartbeats 4000000


/-! Deep -/
def mx (n d : Int) : Int := if d > n then d else n
def dpH (n : Int) : AHeap := [⟨true, 0, 0, .cells [.int .i64 n] 3⟩, ⟨true, 1, 0, .cells [.func (.func 43) [] [.ptr 0 0]] 57⟩]
def dpE (_ : Ex) (d : Int) (n : Int) : Bool × Int := (true, mx n d)
def dpS (_ : St) (d : Int) (n : Int) : Bool × Int := (true, mx n d)
theorem dp1_ok (cs : List AV) (d n : Int) : MemOK Tryd.prog runLives.gl 72 [.rp cs, .int .i64 d, .ptr 1 0] (dpH n) (.bool true) (dpH (mx n d)) := by
  refine fn_mem (k := 2) follows noNum (orcN_sound follows noNum isWordF_sound 3) rfl Tryd.func72 rfl (wcall_ok (isC := fun _ => false) 3) ?_
  repeat' ((conv => whnf); first | (with_reducible refine condT ?_ ?_; (focus (assumption))) | (with_reducible refine condF ?_ ?_; (focus (assumption))) | (with_reducible refine condT ?_ ?_; (focus (decide))) | (with_reducible refine condF ?_ ?_; (focus (decide))) | (with_reducible refine condT ?_ ?_; (focus ((first | assumption | decide | (simp; done) | (simp; omega)); done))) | (with_reducible refine condF ?_ ?_; (focus ((first | assumption | decide | (simp; done) | (simp; omega)); done))) | with_reducible refine condB (fun h => ?_) (fun h => ?_) | with_reducible refine exI rfl ?_ | with_reducible refine eqR rfl ?_ | (with_reducible refine exW (wrapN1 ?_) ?_; (focus (omega))) | (with_reducible refine exW (wrapN ?_) ?_; (focus (omega))) | (with_reducible refine exW (wrapB ?_ ?_) ?_; (focus (omega)); (focus (omega))) | with_reducible refine exW rfl ?_ | (with_reducible refine ixJ _ rfl ?_ ?_; (focus ((first | decide | omega | (simp; done) | (simp; omega)); done))) | (with_reducible refine ixJ' _ rfl ?_ ?_; (focus ((first | decide | omega | (simp; done) | (simp; omega)); done))) | (refine ixJ (Int.toNat _) ?_ ?_ ?_; (focus ((first | rfl | decide | omega | (simp; done)); done)); (focus ((first | decide | omega | (simp; done) | (simp; omega)); done))) | (refine ixJ' (Int.toNat _) ?_ ?_ ?_; (focus ((first | rfl | decide | omega | (simp; done)); done)); (focus ((first | decide | omega | (simp; done) | (simp; omega)); done))) | with_reducible refine ixS _ rfl (by assumption) ?_ | (with_reducible refine shlI ?_ ?_; (focus (first | decide | omega))) | (refine exI (callZ rfl rfl (if_pos ?_)) ?_; (focus ((first | decide | omega | (simp; done) | (simp; omega)); done))))
  all_goals (conv => whnf)
  all_goals (exact ⟨by unfold mx; rfl, rfl⟩)
theorem dp2_ok (cs : List AV) (d n : Int) : MemOK Tryd.prog runLives.gl 73 [.rp cs, .int .i64 d, .ptr 1 0] (dpH n) (.bool true) (dpH (mx n d)) := by
  refine fn_mem (k := 2) follows noNum (orcN_sound follows noNum isWordF_sound 3) rfl Tryd.func73 rfl (wcall_ok (isC := fun _ => false) 3) ?_
  repeat' ((conv => whnf); first | (with_reducible refine condT ?_ ?_; (focus (assumption))) | (with_reducible refine condF ?_ ?_; (focus (assumption))) | (with_reducible refine condT ?_ ?_; (focus (decide))) | (with_reducible refine condF ?_ ?_; (focus (decide))) | (with_reducible refine condT ?_ ?_; (focus ((first | assumption | decide | (simp; done) | (simp; omega)); done))) | (with_reducible refine condF ?_ ?_; (focus ((first | assumption | decide | (simp; done) | (simp; omega)); done))) | with_reducible refine condB (fun h => ?_) (fun h => ?_) | with_reducible refine exI rfl ?_ | with_reducible refine eqR rfl ?_ | (with_reducible refine exW (wrapN1 ?_) ?_; (focus (omega))) | (with_reducible refine exW (wrapN ?_) ?_; (focus (omega))) | (with_reducible refine exW (wrapB ?_ ?_) ?_; (focus (omega)); (focus (omega))) | with_reducible refine exW rfl ?_ | (with_reducible refine ixJ _ rfl ?_ ?_; (focus ((first | decide | omega | (simp; done) | (simp; omega)); done))) | (with_reducible refine ixJ' _ rfl ?_ ?_; (focus ((first | decide | omega | (simp; done) | (simp; omega)); done))) | (refine ixJ (Int.toNat _) ?_ ?_ ?_; (focus ((first | rfl | decide | omega | (simp; done)); done)); (focus ((first | decide | omega | (simp; done) | (simp; omega)); done))) | (refine ixJ' (Int.toNat _) ?_ ?_ ?_; (focus ((first | rfl | decide | omega | (simp; done)); done)); (focus ((first | decide | omega | (simp; done) | (simp; omega)); done))) | with_reducible refine ixS _ rfl (by assumption) ?_ | (with_reducible refine shlI ?_ ?_; (focus (first | decide | omega))) | (refine exI (callZ rfl rfl (if_pos ?_)) ?_; (focus ((first | decide | omega | (simp; done) | (simp; omega)); done))))
  all_goals (conv => whnf)
  all_goals (exact ⟨by unfold mx; rfl, rfl⟩)
theorem dpH_inj {n m : Int} (h : dpH n = dpH m) : n = m := by
  simp only [dpH, List.cons.injEq, AObj.mk.injEq, ABody.cells.injEq, AV.int.injEq, and_true, true_and] at h
  exact h
theorem mx_max (n d : Int) : mx n d = max n d := by unfold mx; split <;> omega
theorem thenB_tt {σ : Type} (x : σ) (f : σ → Bool × σ) : thenB (true, x) f = f x := rfl
mutual
theorem goE_dp : ∀ (e : Ex) (d n : Int), goE dpE e d n = (true, max n (d - 1 + deepE e))
  | .mk o num s k, d, n => by
    simp only [goE, dpE, if_true, deepE, goL_dp k (d + 1) (mx n d) (by rw [mx_max]; omega)]
    rw [mx_max]; congr 1; omega
theorem goL_dp : ∀ (l : List Ex) (d n : Int), d - 1 ≤ n → goL dpE l d n = (true, max n (d - 1 + deepL l))
  | [], d, n, h => by simp only [goL, deepL]; congr 1; omega
  | e :: l, d, n, h => by
    simp only [goL, goE_dp e d n, if_true, goL_dp l d _ (show d - 1 ≤ max n (d - 1 + (deepE e : Int)) by omega), deepL]
    congr 1; omega
end
mutual
theorem goS_dp : ∀ (x : St) (d n : Int), goS dpE dpS x d n = (true, max n (d - 1 + deepS x))
  | .mk k nm lc o x t e, d, n => by
    have h0 : d ≤ mx n d := by rw [mx_max]; omega
    simp only [goS]
    rw [show dpS (.mk k nm lc o x t e) d n = (true, mx n d) from rfl, thenB_tt, goL_dp x (d + 1) (mx n d) (by omega), thenB_tt, goSL_dp t (d + 1) _ (by omega), thenB_tt, goSL_dp e (d + 1) _ (by omega)]
    rw [mx_max]
    simp only [deepS]
    congr 1; omega
theorem goSL_dp : ∀ (l : List St) (d n : Int), d - 1 ≤ n → goSL dpE dpS l d n = (true, max n (d - 1 + deepSL l))
  | [], d, n, h => by simp only [goSL, deepSL]; congr 1; omega
  | e :: l, d, n, h => by
    simp only [goSL, thenB, goS_dp e d n, if_true, goSL_dp l d _ (show d - 1 ≤ max n (d - 1 + (deepS e : Int)) by omega), deepSL]
    congr 1; omega
end
theorem dpV_down (d : Int) (m : Nat) (h : 0 ≤ d ∧ d + ((m + 1 : Nat) : Int) ≤ 576460752303423488) : 0 ≤ d + 1 ∧ d + 1 + (m : Int) ≤ 576460752303423488 := by omega
theorem dpV_less (d : Int) (m : Nat) (h : 0 ≤ d ∧ d + ((m + 1 : Nat) : Int) ≤ 576460752303423488) : 0 ≤ d ∧ d + (m : Int) ≤ 576460752303423488 := by omega
theorem dpV_up (d : Int) (m : Nat) (h0 : 0 ≤ d) (h : 0 ≤ d + 1 ∧ d + 1 + (m : Int) ≤ 576460752303423488) : 0 ≤ d ∧ d + (m : Int) ≤ 576460752303423488 := by omega
theorem dpV_bnd (d : Int) (m : Nat) (h : 0 ≤ d ∧ d + (m : Int) ≤ 576460752303423488) : 0 ≤ d ∧ d ≤ 1152921504606846976 := by omega
def dpV : TvS runLives.gl where
  σ := Int
  Mem := dpH
  k := 2
  len := fun _ => rfl
  same := fun s => ⟨⟨⟨rfl, rfl, rfl, rfl, BodyGe.pre (rest := []) rfl rfl⟩, ⟨rfl, rfl, rfl, rfl, BodyGe.cellsL ⟨Wk.func trivial ⟨Wk.ptr rfl rfl, trivial⟩, trivial⟩⟩, trivial⟩, rfl, rfl⟩
  evo := fun _ _ => rfl
  inj := fun _ _ h => dpH_inj h
  I := fun d s m => 0 ≤ d ∧ d + (m : Int) ≤ 576460752303423488
  up := fun d s m h0 h => dpV_up d m h0 h
  less := fun d s m h => dpV_less d m h
  bnd := fun d s m h => dpV_bnd d m h
  gE := 72
  cE := [.ptr 1 0]
  hE := dpE
  bodyE := by kernel_rfl
  wkE := ⟨Wk.ptr rfl rfl, trivial⟩
  okE := fun e rest d s m _ h => dp1_ok (e.cells ++ rest) d s
  downE := fun e d s m h _ => dpV_down d m h
  gS := 73
  cS := [.ptr 1 0]
  hS := dpS
  bodyS := by kernel_rfl
  wkS := ⟨Wk.ptr rfl rfl, trivial⟩
  okS := fun x rest d s m _ h => dp2_ok (x.cells ++ rest) d s
  downS := fun e d s m h _ => dpV_down d m h
theorem dp_stmts (l : List St) (n : Nat) (hok : okSL l) (hl : l.length ≤ 9223372036854775807) (h : sizeSL l ≤ 1048576) : MemOK Tryd.prog runLives.gl 38 [stA l, .int .i64 1, szF, szG] (dpH n) (.bool true) (dpH (max n (deepSL l) : Nat)) := by
  have := TvS.stmts dpV (sizeSL l) l 1 (n : Int) 0 (Nat.le_refl _) hok hl (by show (0 : Int) ≤ 1 ∧ (1 : Int) + ((sizeSL l + 0 : Nat) : Int) ≤ 576460752303423488; omega)
  have e : goSL dpV.hE dpV.hS l 1 (n : Int) = (true, ((max n (deepSL l) : Nat) : Int)) := by
    have := goSL_dp l 1 n (by omega)
    show goSL dpE dpS l 1 (n : Int) = _
    rw [this]; congr 1; omega
  rw [e] at this
  exact this
def deepTL : List (List St) → Nat
  | [] => 0
  | l :: t => max (deepSL l) (deepTL t)
theorem deepTL_take : ∀ (t : List (List St)) (i : Nat) (h : i < t.length), deepTL (t.take (i + 1)) = max (deepTL (t.take i)) (deepSL t[i])
  | e :: l, 0, h => by simp only [List.take_succ_cons, List.take_zero, deepTL, List.getElem_cons_zero]; omega
  | e :: l, i + 1, h => by
    have := deepTL_take l i (by simpa using h)
    simp only [List.take_succ_cons, deepTL, List.getElem_cons_succ] at this ⊢; omega
theorem dp_nd (nd nt : Nat) (cd ct : List AV) (l : List St) (n : Nat) (hok : okSL l) (hl : l.length ≤ 9223372036854775807) (h : sizeSL l ≤ 1048576) : MemOK Tryd.prog runLives.gl 38 [stA l, .int .i64 1, ndF, ndG] (ndH (.int .i64 n) 43 nd nt cd ct) (.bool true) (ndH (.int .i64 (max n (deepSL l) : Nat)) 43 nd nt cd ct) := by
  have hM := dp_stmts l n hok hl h
  have h := mem_frame (m := [0, 2]) (n := 3) (Hc := ndH (.int .i64 n) 43 nd nt cd ct) (cargs := [stA l, .int .i64 1, ndF, ndG]) hM ?_ ?_ rfl rfl rfl rfl rfl rfl
  · have e1 : updM [0, 2] (dpH (max n (deepSL l) : Nat)) 0 (ndH (.int .i64 n) 43 nd nt cd ct) = ndH (.int .i64 (max n (deepSL l) : Nat)) 43 nd nt cd ct := rfl
    rw [e1] at h
    exact h
  · rfl
  · exact ⟨⟨rfl, rfl, rfl, rfl, BodyGe.pre (rest := []) rfl rfl⟩, ⟨rfl, rfl, rfl, rfl, BodyGe.cellsL ⟨Wk.func trivial ⟨Wk.ptr rfl rfl, trivial⟩, trivial⟩⟩, trivial⟩
theorem nodes_dp (ts : List (List St)) (nd : Nat) (cd : List AV) (n : Nat) (hok : okTL ts) (hl : ts.length ≤ 9223372036854775807) (h : sizeTL ts ≤ 1048576) :
    MemOK Tryd.prog runLives.gl 35 [.agg [.rs nd 3 cd, .rs ts.length 1 (ts.map stA)], .func (.func 43) [] [.ptr 0 0]] [⟨true, 0, 0, .cells [.int .i64 n] 3⟩] (.tuple []) [⟨true, 0, 0, .cells [.int .i64 (max n (deepTL ts) : Nat)] 3⟩] := by
  obtain ⟨O, hO, ⟨p1, -⟩, -⟩ := famsM (P := Tryd.prog) (gl := runLives.gl) [{ I := List St × Nat, f := 38, G := (fun p => okSL p.1 ∧ p.1.length ≤ 9223372036854775807 ∧ sizeSL p.1 ≤ 1048576), A := (fun p => [stA p.1, .int .i64 1, ndF, ndG]), H := (fun p => ndH (.int .i64 p.2) 43 nd ts.length cd (ts.map stA)), R := (fun p => .bool true), O := (fun p => ndH (.int .i64 (max p.2 (deepSL p.1) : Nat)) 43 nd ts.length cd (ts.map stA)), body := (by kernel_rfl), inj := (fun p q _ _ ha hh => by simp only [List.cons.injEq, and_true] at ha; have := ndH_inj hh; simp only [AV.int.injEq, true_and] at this; rw [stA_inj ha, show p.2 = q.2 by omega]; exact ⟨rfl, rfl⟩), ok := (fun p hp => dp_nd _ _ _ _ p.1 p.2 hp.1 hp.2.1 hp.2.2) }] [] rfl
  have q1 : ∀ l n, okSL l → l.length ≤ 9223372036854775807 → sizeSL l ≤ 1048576 → acall Tryd.prog O (ndH (.int .i64 (n : Nat)) 43 nd ts.length cd (ts.map stA)) 38 [stA l, .int .i64 1, ndF, ndG] = some (.bool true, ndH (.int .i64 (max n (deepSL l) : Nat)) 43 nd ts.length cd (ts.map stA)) := fun l n h1 h2 h3 => p1 (l, n) ⟨h1, h2, h3⟩
  clear p1
  refine fn_mem (k := 1) follows noNum hO rfl Tryd.func35 rfl (cw0_ok _ _) ?_
  repeat' ((conv => whnf); first | (with_reducible refine condT ?_ ?_; (focus (assumption))) | (with_reducible refine condF ?_ ?_; (focus (assumption))) | (with_reducible refine condT ?_ ?_; (focus (decide))) | (with_reducible refine condF ?_ ?_; (focus (decide))) | (with_reducible refine condT ?_ ?_; (focus ((first | assumption | decide | (simp; done) | (simp; omega)); done))) | (with_reducible refine condF ?_ ?_; (focus ((first | assumption | decide | (simp; done) | (simp; omega)); done))) | with_reducible refine condB (fun h => ?_) (fun h => ?_) | with_reducible refine exI rfl ?_ | with_reducible refine eqR rfl ?_ | (with_reducible refine exW (wrapN1 ?_) ?_; (focus (omega))) | (with_reducible refine exW (wrapN ?_) ?_; (focus (omega))) | (with_reducible refine exW (wrapB ?_ ?_) ?_; (focus (omega)); (focus (omega))) | with_reducible refine exW rfl ?_ | (with_reducible refine ixJ _ rfl ?_ ?_; (focus ((first | decide | omega | (simp; done) | (simp; omega)); done))) | (with_reducible refine ixJ' _ rfl ?_ ?_; (focus ((first | decide | omega | (simp; done) | (simp; omega)); done))) | (refine ixJ (Int.toNat _) ?_ ?_ ?_; (focus ((first | rfl | decide | omega | (simp; done)); done)); (focus ((first | decide | omega | (simp; done) | (simp; omega)); done))) | (refine ixJ' (Int.toNat _) ?_ ?_ ?_; (focus ((first | rfl | decide | omega | (simp; done)); done)); (focus ((first | decide | omega | (simp; done) | (simp; omega)); done))) | with_reducible refine ixS _ rfl (by assumption) ?_ | (with_reducible refine shlI ?_ ?_; (focus (first | decide | omega))) | (refine exI (callZ rfl rfl (if_pos ?_)) ?_; (focus ((first | decide | omega | (simp; done) | (simp; omega)); done))))
  conv => whnf
  refine ⟨Nat, (fun i => i ≤ ts.length), (fun i => [(4, ndF), (5, ndG), (11, .rs ts.length 1 (ts.map stA)), (12, .int .i64 ts.length), (13, .int .i64 i)]), (fun i => ndH (.int .i64 (max n (deepTL (ts.take i)) : Nat)) 43 nd ts.length cd (ts.map stA)), (fun i => ts.length - i), ⟨0, Nat.zero_le _, FgLK.mk [0, 1, 2] rfl rfl ?_ ⟨⟨rfl, rfl, rfl, rfl, BodyGe.pre (rest := []) (by simp [deepTL]) rfl⟩, ⟨rfl, rfl, rfl, rfl, BodyGe.pre (rest := []) rfl rfl⟩, ⟨rfl, rfl, rfl, rfl, BodyGe.cellsL ⟨Wk.func trivial ⟨Wk.ptr rfl rfl, trivial⟩, trivial⟩⟩, trivial⟩ rfl⟩, ?_⟩
  · refine And.intro (Wk.func trivial ⟨Wk.ptr rfl rfl, trivial⟩) ?_
    refine And.intro (Wk.func trivial ⟨Wk.ptr rfl rfl, trivial⟩) ?_
    refine And.intro (Wk.noref rfl) ?_
    refine And.intro (Wk.int rfl) ?_
    exact ⟨Wk.int rfl, trivial⟩
  intro i hi
  dsimp only
  by_cases hlt : i < ts.length
  · have e1 : decide ((i : Int) < (ts.length : Int)) = true := by simpa using hlt
    have hs := deepTL_take ts i hlt
    have hle := sizeTL_le ts i hlt
    have hx := th1 ts i hlt
    obtain ⟨k1, k2⟩ := okTL_get hok _ (get_mem hlt)
    have q2 := q1 ts[i] (max n (deepTL (ts.take i))) k1 k2 (by omega)
    generalize ts[i] = l at *
    simp only [stA] at hx
    simp only [stA, ndF, ndG, ndH] at q2
    repeat' ((conv => whnf); first | (refine exI hx ?_) | (refine exI q2 ?_) | (with_reducible refine ixJ i rfl ?_ ?_; (focus (omega))) | (first | (with_reducible refine condT ?_ ?_; (focus (assumption))) | (with_reducible refine condF ?_ ?_; (focus (assumption))) | (with_reducible refine condT ?_ ?_; (focus (decide))) | (with_reducible refine condF ?_ ?_; (focus (decide))) | (with_reducible refine condT ?_ ?_; (focus ((first | assumption | decide | (simp; done) | (simp; omega)); done))) | (with_reducible refine condF ?_ ?_; (focus ((first | assumption | decide | (simp; done) | (simp; omega)); done))) | with_reducible refine condB (fun h => ?_) (fun h => ?_) | with_reducible refine exI rfl ?_ | with_reducible refine eqR rfl ?_ | (with_reducible refine exW (wrapN1 ?_) ?_; (focus (omega))) | (with_reducible refine exW (wrapN ?_) ?_; (focus (omega))) | (with_reducible refine exW (wrapB ?_ ?_) ?_; (focus (omega)); (focus (omega))) | with_reducible refine exW rfl ?_ | (with_reducible refine ixJ _ rfl ?_ ?_; (focus ((first | decide | omega | (simp; done) | (simp; omega)); done))) | (with_reducible refine ixJ' _ rfl ?_ ?_; (focus ((first | decide | omega | (simp; done) | (simp; omega)); done))) | (refine ixJ (Int.toNat _) ?_ ?_ ?_; (focus ((first | rfl | decide | omega | (simp; done)); done)); (focus ((first | decide | omega | (simp; done) | (simp; omega)); done))) | (refine ixJ' (Int.toNat _) ?_ ?_ ?_; (focus ((first | rfl | decide | omega | (simp; done)); done)); (focus ((first | decide | omega | (simp; done) | (simp; omega)); done))) | with_reducible refine ixS _ rfl (by assumption) ?_ | (with_reducible refine shlI ?_ ?_; (focus (first | decide | omega))) | (refine exI (callZ rfl rfl (if_pos ?_)) ?_; (focus ((first | decide | omega | (simp; done) | (simp; omega)); done)))))
    conv => whnf
    refine ⟨i + 1, hlt, by show ts.length - (i + 1) < ts.length - i; omega, FgLK.mk [0, 1, 2] rfl rfl ?_ ⟨⟨rfl, rfl, rfl, rfl, ?_⟩, ⟨rfl, rfl, rfl, rfl, BodyGe.pre (rest := []) rfl rfl⟩, ⟨rfl, rfl, rfl, rfl, BodyGe.cellsL ⟨Wk.func trivial ⟨Wk.ptr rfl rfl, trivial⟩, trivial⟩⟩, trivial⟩ rfl⟩
    · refine And.intro (Wk.func trivial ⟨Wk.ptr rfl rfl, trivial⟩) ?_
      refine And.intro (Wk.func trivial ⟨Wk.ptr rfl rfl, trivial⟩) ?_
      refine And.intro (Wk.noref rfl) ?_
      refine And.intro (Wk.int rfl) ?_
      exact ⟨Wk.int rfl, trivial⟩
    · rw [hs, ← Nat.max_assoc]
      exact BodyGe.pre (rest := []) rfl rfl
  · have e1 : decide ((i : Int) < (ts.length : Int)) = false := by simpa using hlt
    have hi2 : i = ts.length := by have := hi; omega
    subst hi2
    rw [List.take_length]
    repeat' ((conv => whnf); first | (with_reducible refine condT ?_ ?_; (focus (assumption))) | (with_reducible refine condF ?_ ?_; (focus (assumption))) | (with_reducible refine condT ?_ ?_; (focus (decide))) | (with_reducible refine condF ?_ ?_; (focus (decide))) | (with_reducible refine condT ?_ ?_; (focus ((first | assumption | decide | (simp; done) | (simp; omega)); done))) | (with_reducible refine condF ?_ ?_; (focus ((first | assumption | decide | (simp; done) | (simp; omega)); done))) | with_reducible refine condB (fun h => ?_) (fun h => ?_) | with_reducible refine exI rfl ?_ | with_reducible refine eqR rfl ?_ | (with_reducible refine exW (wrapN1 ?_) ?_; (focus (omega))) | (with_reducible refine exW (wrapN ?_) ?_; (focus (omega))) | (with_reducible refine exW (wrapB ?_ ?_) ?_; (focus (omega)); (focus (omega))) | with_reducible refine exW rfl ?_ | (with_reducible refine ixJ _ rfl ?_ ?_; (focus ((first | decide | omega | (simp; done) | (simp; omega)); done))) | (with_reducible refine ixJ' _ rfl ?_ ?_; (focus ((first | decide | omega | (simp; done) | (simp; omega)); done))) | (refine ixJ (Int.toNat _) ?_ ?_ ?_; (focus ((first | rfl | decide | omega | (simp; done)); done)); (focus ((first | decide | omega | (simp; done) | (simp; omega)); done))) | (refine ixJ' (Int.toNat _) ?_ ?_ ?_; (focus ((first | rfl | decide | omega | (simp; done)); done)); (focus ((first | decide | omega | (simp; done) | (simp; omega)); done))) | with_reducible refine ixS _ rfl (by assumption) ?_ | (with_reducible refine shlI ?_ ?_; (focus (first | decide | omega))) | (refine exI (callZ rfl rfl (if_pos ?_)) ?_; (focus ((first | decide | omega | (simp; done) | (simp; omega)); done))))
    all_goals (conv => whnf)
    all_goals (exact ⟨rfl, rfl⟩)
end Go.Proofs.YtajhailaofchlaaDoor.lex
end

/-
  Programs: the program's Check: what is told of each part.
-/
section
set_option linter.unusedVariables false
set_option linter.unusedSimpArgs false
namespace Go.Proofs.YtajhailaofchlaaDoor.lex
open Go.Abs Go.RowKit
set_option maxRecDepth 100000
set_option maxHeartbeats 4000000

/-- The number, whether all was well, the function that counts. -/
def ckB (n : Nat) (g : Bool) : AHeap := [⟨true, 0, 0, .cells [.int .i64 n] 3⟩, ⟨true, 1, 0, .cells [.bool g] 4⟩, ⟨true, 2, 0, .cells [.func (.func 71) [] [.ptr 0 0]] 57⟩]
def ckH (s : Nat × Bool) : AHeap := [⟨true, 0, 0, .cells [.int .i64 s.1] 3⟩, ⟨true, 1, 0, .cells [.bool s.2] 4⟩, ⟨true, 2, 0, .cells [.func (.func 71) [] [.ptr 0 0]] 57⟩, ⟨true, 3, 0, .cells [.func (.func 36) [] [.ptr 2 0, .ptr 1 0]] 57⟩]
def lim (n : Nat) (d : Int) : Bool := decide (((n + 1 : Nat) : Int) ≤ 2000) && decide (d ≤ 32)
def ckE (_ : Ex) (d : Int) (s : Nat × Bool) : Bool × (Nat × Bool) := (lim s.1 d, (s.1 + 1, lim s.1 d))
def ckS (_ : St) (d : Int) (s : Nat × Bool) : Bool × (Nat × Bool) := (lim s.1 d, (s.1 + 1, lim s.1 d))
theorem ck1_ok (cs : List AV) (d : Int) (n : Nat) (g : Bool) (hn : n ≤ 2000) : MemOK Tryd.prog runLives.gl 72 [.rp cs, .int .i64 d, .ptr 3 0] (ckH (n, g)) (.bool (lim n d)) (ckH (n + 1, lim n d)) := by
  refine fn_mem (k := 4) follows noNum (orcN_sound follows noNum isWordF_sound 4) rfl Tryd.func72 rfl (wcall_ok (isC := fun _ => false) 4) ?_
  repeat' ((conv => whnf); first | (with_reducible refine condT ?_ ?_; (focus (assumption))) | (with_reducible refine condF ?_ ?_; (focus (assumption))) | (with_reducible refine condT ?_ ?_; (focus (decide))) | (with_reducible refine condF ?_ ?_; (focus (decide))) | (with_reducible refine condT ?_ ?_; (focus ((first | assumption | decide | (simp; done) | (simp; omega)); done))) | (with_reducible refine condF ?_ ?_; (focus ((first | assumption | decide | (simp; done) | (simp; omega)); done))) | with_reducible refine condB (fun h => ?_) (fun h => ?_) | with_reducible refine exI rfl ?_ | with_reducible refine eqR rfl ?_ | (with_reducible refine exW (wrapN1 ?_) ?_; (focus (omega))) | (with_reducible refine exW (wrapN ?_) ?_; (focus (omega))) | (with_reducible refine exW (wrapB ?_ ?_) ?_; (focus (omega)); (focus (omega))) | with_reducible refine exW rfl ?_ | (with_reducible refine ixJ _ rfl ?_ ?_; (focus ((first | decide | omega | (simp; done) | (simp; omega)); done))) | (with_reducible refine ixJ' _ rfl ?_ ?_; (focus ((first | decide | omega | (simp; done) | (simp; omega)); done))) | (refine ixJ (Int.toNat _) ?_ ?_ ?_; (focus ((first | rfl | decide | omega | (simp; done)); done)); (focus ((first | decide | omega | (simp; done) | (simp; omega)); done))) | (refine ixJ' (Int.toNat _) ?_ ?_ ?_; (focus ((first | rfl | decide | omega | (simp; done)); done)); (focus ((first | decide | omega | (simp; done) | (simp; omega)); done))) | with_reducible refine ixS _ rfl (by assumption) ?_ | (with_reducible refine shlI ?_ ?_; (focus (first | decide | omega))) | (refine exI (callZ rfl rfl (if_pos ?_)) ?_; (focus ((first | decide | omega | (simp; done) | (simp; omega)); done))))
  all_goals (conv => whnf)
  all_goals (exact ⟨by unfold lim; rw [h]; rfl, by unfold lim; rw [h]; rfl, rfl⟩)
theorem ck2_ok (cs : List AV) (d : Int) (n : Nat) (g : Bool) (hn : n ≤ 2000) : MemOK Tryd.prog runLives.gl 73 [.rp cs, .int .i64 d, .ptr 3 0] (ckH (n, g)) (.bool (lim n d)) (ckH (n + 1, lim n d)) := by
  refine fn_mem (k := 4) follows noNum (orcN_sound follows noNum isWordF_sound 4) rfl Tryd.func73 rfl (wcall_ok (isC := fun _ => false) 4) ?_
  repeat' ((conv => whnf); first | (with_reducible refine condT ?_ ?_; (focus (assumption))) | (with_reducible refine condF ?_ ?_; (focus (assumption))) | (with_reducible refine condT ?_ ?_; (focus (decide))) | (with_reducible refine condF ?_ ?_; (focus (decide))) | (with_reducible refine condT ?_ ?_; (focus ((first | assumption | decide | (simp; done) | (simp; omega)); done))) | (with_reducible refine condF ?_ ?_; (focus ((first | assumption | decide | (simp; done) | (simp; omega)); done))) | with_reducible refine condB (fun h => ?_) (fun h => ?_) | with_reducible refine exI rfl ?_ | with_reducible refine eqR rfl ?_ | (with_reducible refine exW (wrapN1 ?_) ?_; (focus (omega))) | (with_reducible refine exW (wrapN ?_) ?_; (focus (omega))) | (with_reducible refine exW (wrapB ?_ ?_) ?_; (focus (omega)); (focus (omega))) | with_reducible refine exW rfl ?_ | (with_reducible refine ixJ _ rfl ?_ ?_; (focus ((first | decide | omega | (simp; done) | (simp; omega)); done))) | (with_reducible refine ixJ' _ rfl ?_ ?_; (focus ((first | decide | omega | (simp; done) | (simp; omega)); done))) | (refine ixJ (Int.toNat _) ?_ ?_ ?_; (focus ((first | rfl | decide | omega | (simp; done)); done)); (focus ((first | decide | omega | (simp; done) | (simp; omega)); done))) | (refine ixJ' (Int.toNat _) ?_ ?_ ?_; (focus ((first | rfl | decide | omega | (simp; done)); done)); (focus ((first | decide | omega | (simp; done) | (simp; omega)); done))) | with_reducible refine ixS _ rfl (by assumption) ?_ | (with_reducible refine shlI ?_ ?_; (focus (first | decide | omega))) | (refine exI (callZ rfl rfl (if_pos ?_)) ?_; (focus ((first | decide | omega | (simp; done) | (simp; omega)); done))))
  all_goals (conv => whnf)
  all_goals (exact ⟨by unfold lim; rw [h]; rfl, by unfold lim; rw [h]; rfl, rfl⟩)
theorem ckH_inj {a b : Nat × Bool} (h : ckH a = ckH b) : a = b := by
  simp only [ckH, List.cons.injEq, AObj.mk.injEq, ABody.cells.injEq, AV.int.injEq, AV.bool.injEq, and_true, true_and] at h
  obtain ⟨x, y⟩ := a
  obtain ⟨z, w⟩ := b
  simp only at h
  rw [show x = z by omega, h.2]
/-- The same counting, with a word on how it went. -/
def tw (r : Bool × Nat) : Bool × (Nat × Bool) := (r.1, (r.2, r.1))
theorem tw_then {r : Bool × Nat} {f : Nat → Bool × Nat} {f' : Nat × Bool → Bool × (Nat × Bool)} (h : ∀ n, f' (n, true) = tw (f n)) : thenB (tw r) f' = tw (thenB r f) := by
  obtain ⟨b, n⟩ := r
  cases b with
  | true => exact h n
  | false => rfl
mutual
theorem goE_ck : ∀ (e : Ex) (d : Int) (n : Nat), goE ckE e d (n, true) = tw (goE cE e d n)
  | .mk o num s k, d, n => by
    have e1 : goE ckE (.mk o num s k) d (n, true) = thenB (tw (cE (.mk o num s k) d n)) fun s => goL ckE k (d + 1) s := by simp only [goE]; rfl
    have e2 : goE cE (.mk o num s k) d n = thenB (cE (.mk o num s k) d n) fun s => goL cE k (d + 1) s := by simp only [goE, thenB]
    rw [e1, e2]
    exact tw_then fun n => goL_ck k (d + 1) n
theorem goL_ck : ∀ (l : List Ex) (d : Int) (n : Nat), goL ckE l d (n, true) = tw (goL cE l d n)
  | [], d, n => by simp only [goL, tw]
  | e :: l, d, n => by
    have e1 : goL ckE (e :: l) d (n, true) = thenB (goE ckE e d (n, true)) fun s => goL ckE l d s := by simp only [goL, thenB]
    have e2 : goL cE (e :: l) d n = thenB (goE cE e d n) fun s => goL cE l d s := by simp only [goL, thenB]
    rw [e1, e2, goE_ck e d n]
    exact tw_then fun n => goL_ck l d n
end
mutual
theorem goS_ck : ∀ (x : St) (d : Int) (n : Nat), goS ckE ckS x d (n, true) = tw (goS cE cS x d n)
  | .mk k nm lc o x t e, d, n => by
    simp only [goS]
    rw [show ckS (.mk k nm lc o x t e) d (n, true) = tw (cS (.mk k nm lc o x t e) d n) from rfl]
    exact tw_then fun n => by
      rw [goL_ck x (d + 1) n]
      exact tw_then fun n => by
        rw [goSL_ck t (d + 1) n]
        exact tw_then fun n => goSL_ck e (d + 1) n
theorem goSL_ck : ∀ (l : List St) (d : Int) (n : Nat), goSL ckE ckS l d (n, true) = tw (goSL cE cS l d n)
  | [], d, n => by simp only [goSL, tw]
  | e :: l, d, n => by
    simp only [goSL]
    rw [goS_ck e d n]
    exact tw_then fun n => goSL_ck l d n
end
theorem ckV_down (d : Int) (s : Nat × Bool) (h : 0 ≤ d ∧ d ≤ 33 ∧ s.1 ≤ 2000) (ht : lim s.1 d = true) : 0 ≤ d + 1 ∧ d + 1 ≤ 33 ∧ s.1 + 1 ≤ 2000 :=
  have h2 : s.1 + 1 ≤ 2000 ∧ d + 1 ≤ 33 := (cnt_one d s.1).1.1 ht
  have h3 : 0 ≤ d := h.1
  ⟨by clear h ht h2; omega, h2.2, h2.1⟩
theorem ckV_up (d : Int) (s : Nat × Bool) (h0 : 0 ≤ d) (h : 0 ≤ d + 1 ∧ d + 1 ≤ 33 ∧ s.1 ≤ 2000) : 0 ≤ d ∧ d ≤ 33 ∧ s.1 ≤ 2000 := ⟨h0, by have := h.2.1; clear h; omega, h.2.2⟩
theorem ckV_bnd (d : Int) (s : Nat × Bool) (h : 0 ≤ d ∧ d ≤ 33 ∧ s.1 ≤ 2000) : 0 ≤ d ∧ d ≤ 1152921504606846976 := ⟨h.1, by have := h.2.1; clear h; omega⟩
def ckV : TvS runLives.gl where
  σ := Nat × Bool
  Mem := ckH
  k := 4
  len := fun _ => rfl
  same := fun s => ⟨⟨⟨rfl, rfl, rfl, rfl, BodyGe.pre (rest := []) rfl rfl⟩, ⟨rfl, rfl, rfl, rfl, BodyGe.pre (rest := []) rfl rfl⟩, ⟨rfl, rfl, rfl, rfl, BodyGe.cellsL ⟨Wk.func trivial ⟨Wk.ptr rfl rfl, trivial⟩, trivial⟩⟩, ⟨rfl, rfl, rfl, rfl, BodyGe.cellsL ⟨Wk.func trivial ⟨Wk.ptr rfl rfl, Wk.ptr rfl rfl, trivial⟩, trivial⟩⟩, trivial⟩, rfl, rfl⟩
  evo := fun _ _ => rfl
  inj := fun _ _ h => ckH_inj h
  I := fun d s m => 0 ≤ d ∧ d ≤ 33 ∧ s.1 ≤ 2000
  up := fun d s m h0 h => ckV_up d s h0 h
  less := fun d s m h => h
  bnd := fun d s m h => ckV_bnd d s h
  gE := 72
  cE := [.ptr 3 0]
  hE := ckE
  bodyE := by kernel_rfl
  wkE := ⟨Wk.ptr rfl rfl, trivial⟩
  okE := fun e rest d s m _ h => ck1_ok (e.cells ++ rest) d s.1 s.2 h.2.2
  downE := fun e d s m h ht => ckV_down d s h ht
  gS := 73
  cS := [.ptr 3 0]
  hS := ckS
  bodyS := by kernel_rfl
  wkS := ⟨Wk.ptr rfl rfl, trivial⟩
  okS := fun x rest d s m _ h => ck2_ok (x.cells ++ rest) d s.1 s.2 h.2.2
  downS := fun e d s m h ht => ckV_down d s h ht
def ckF : AV := .func (.func 72) [] [.ptr 3 0]
def ckG : AV := .func (.func 73) [] [.ptr 3 0]
theorem ck_stmts (l : List St) (n : Nat) (hok : okSL l) (hl : l.length ≤ 9223372036854775807) (hn : n ≤ 2000) : MemOK Tryd.prog runLives.gl 38 [stA l, .int .i64 1, ckF, ckG] (ckH (n, true)) (.bool (goSL cE cS l 1 n).1) (ckH ((goSL cE cS l 1 n).2, (goSL cE cS l 1 n).1)) := by
  have := TvS.stmts ckV (sizeSL l) l 1 (n, true) 0 (Nat.le_refl _) hok hl ⟨by decide, by decide, hn⟩
  have e : goSL ckV.hE ckV.hS l 1 (n, true) = tw (goSL cE cS l 1 n) := goSL_ck l 1 n
  rw [e] at this
  exact this
/-- The memory of the walk. -/
def cnH (n : Nat) (g : Bool) (nd nt : Nat) (cd ct : List AV) : AHeap := [⟨true, 0, 0, .cells [.int .i64 n] 3⟩, ⟨true, 1, 0, .cells [.bool g] 4⟩, ⟨true, 2, 0, .cells [.func (.func 71) [] [.ptr 0 0]] 57⟩, ⟨true, 3, 0, .cells [.rs nd 3 cd, .rs nt 1 ct] 25⟩, ⟨true, 4, 0, .cells [.func (.func 36) [] [.ptr 2 0, .ptr 1 0]] 57⟩]
def cnF : AV := .func (.func 72) [] [.ptr 4 0]
def cnG : AV := .func (.func 73) [] [.ptr 4 0]
theorem ck_nd (nd nt : Nat) (cd ct : List AV) (l : List St) (n : Nat) (hok : okSL l) (hl : l.length ≤ 9223372036854775807) (hn : n ≤ 2000) : MemOK Tryd.prog runLives.gl 38 [stA l, .int .i64 1, cnF, cnG] (cnH n true nd nt cd ct) (.bool (goSL cE cS l 1 n).1) (cnH (goSL cE cS l 1 n).2 (goSL cE cS l 1 n).1 nd nt cd ct) := by
  have hM := ck_stmts l n hok hl hn
  generalize goSL cE cS l 1 n = r at *
  have h := mem_frame (m := [0, 1, 2, 4]) (n := 5) (Hc := cnH n true nd nt cd ct) (cargs := [stA l, .int .i64 1, cnF, cnG]) hM ?_ ?_ rfl rfl rfl rfl rfl rfl
  · have e1 : updM [0, 1, 2, 4] (ckH (r.2, r.1)) 0 (cnH n true nd nt cd ct) = cnH r.2 r.1 nd nt cd ct := rfl
    rw [e1] at h
    exact h
  · rfl
  · exact ⟨⟨rfl, rfl, rfl, rfl, BodyGe.pre (rest := []) rfl rfl⟩, ⟨rfl, rfl, rfl, rfl, BodyGe.pre (rest := []) rfl rfl⟩, ⟨rfl, rfl, rfl, rfl, BodyGe.cellsL ⟨Wk.func trivial ⟨Wk.ptr rfl rfl, trivial⟩, trivial⟩⟩, ⟨rfl, rfl, rfl, rfl, BodyGe.cellsL ⟨Wk.func trivial ⟨Wk.ptr rfl rfl, Wk.ptr rfl rfl, trivial⟩, trivial⟩⟩, trivial⟩

/-! all threads -/
def goT (g : List St → Nat → Bool × Nat) : List (List St) → Nat → Bool × Nat
  | [], n => (true, n)
  | l :: t, n => thenB (g l n) fun n => goT g t n
theorem goT_at {g : List St → Nat → Bool × Nat} : ∀ (t : List (List St)) (n i : Nat) (hi : i < t.length), (goT g (t.take i) n).1 = true → goT g (t.take (i + 1)) n = g t[i] (goT g (t.take i) n).2
  | e :: l, n, 0, _, _ => by
    simp only [List.take_zero, List.take_succ_cons, goT, List.getElem_cons_zero, thenB]
    split
    · rename_i h2; rw [← h2]
    · rename_i h2; rw [← Bool.eq_false_iff.2 h2]
  | e :: l, n, i + 1, hi, ht => by
    simp only [List.take_succ_cons, goT, List.getElem_cons_succ, thenB] at ht ⊢
    split
    · rename_i h2
      rw [if_pos h2] at ht
      exact goT_at l _ i (by simpa using hi) ht
    · rename_i h2; rw [if_neg h2] at ht; cases ht
theorem goT_stop {g : List St → Nat → Bool × Nat} : ∀ (t : List (List St)) (n i : Nat), (goT g (t.take i) n).1 = false → goT g t n = goT g (t.take i) n
  | [], n, i, hf => by simp
  | e :: l, n, 0, hf => by simp only [List.take_zero, goT] at hf; cases hf
  | e :: l, n, i + 1, hf => by
    simp only [List.take_succ_cons, goT, thenB] at hf ⊢
    split
    · rename_i h2
      rw [if_pos h2] at hf
      exact goT_stop l _ i hf
    · rfl
def cT (ts : List (List St)) (n : Nat) : Bool × Nat := goT (fun l n => goSL cE cS l 1 n) ts n
theorem cT_cnt : ∀ (ts : List (List St)) (n : Nat), n ≤ 2000 → Cnt (cT ts n) n (sizeTL ts) (1 + deepTL ts)
  | [], n, h => by
    simp only [cT, goT, sizeTL, deepTL]
    exact ⟨⟨fun _ => by omega, fun _ => rfl⟩, fun _ => rfl⟩
  | l :: t, n, h => by
    have := cnt_then (f := fun n => cT t n) (goSL_c l 1 n h (by omega)) fun h1 _ => cT_cnt t _ h1
    refine Cnt.to this (by simp only [sizeTL]) ?_
    simp only [deepTL]; omega
theorem nodes_ck (ts : List (List St)) (nd : Nat) (cd : List AV) (hok : okTL ts) (hl : ts.length ≤ 9223372036854775807) :
    MemOK Tryd.prog runLives.gl 35 [.agg [.rs nd 3 cd, .rs ts.length 1 (ts.map stA)], .func (.func 36) [] [.ptr 2 0, .ptr 1 0]] (ckB 0 true) (.tuple []) (ckB (cT ts 0).2 (cT ts 0).1) := by
  obtain ⟨O, hO, ⟨p1, -⟩, -⟩ := famsM (P := Tryd.prog) (gl := runLives.gl) [{ I := List St × Nat, f := 38, G := (fun p => okSL p.1 ∧ p.1.length ≤ 9223372036854775807 ∧ p.2 ≤ 2000), A := (fun p => [stA p.1, .int .i64 1, cnF, cnG]), H := (fun p => cnH p.2 true nd ts.length cd (ts.map stA)), R := (fun p => .bool (goSL cE cS p.1 1 p.2).1), O := (fun p => cnH (goSL cE cS p.1 1 p.2).2 (goSL cE cS p.1 1 p.2).1 nd ts.length cd (ts.map stA)), body := (by kernel_rfl), inj := (fun p q _ _ ha hh => by simp only [List.cons.injEq, and_true] at ha; simp only [cnH, List.cons.injEq, AObj.mk.injEq, ABody.cells.injEq, AV.int.injEq, and_true, true_and] at hh; rw [stA_inj ha, show p.2 = q.2 by omega]; exact ⟨rfl, rfl⟩), ok := (fun p hp => ck_nd _ _ _ _ p.1 p.2 hp.1 hp.2.1 hp.2.2) }] [] rfl
  have q1 : ∀ l n, okSL l → l.length ≤ 9223372036854775807 → n ≤ 2000 → acall Tryd.prog O (cnH n true nd ts.length cd (ts.map stA)) 38 [stA l, .int .i64 1, cnF, cnG] = some (.bool (goSL cE cS l 1 n).1, cnH (goSL cE cS l 1 n).2 (goSL cE cS l 1 n).1 nd ts.length cd (ts.map stA)) := fun l n h1 h2 h3 => p1 (l, n) ⟨h1, h2, h3⟩
  clear p1
  refine fn_mem (k := 3) follows noNum hO rfl Tryd.func35 rfl (cw0_ok _ _) ?_
  repeat' ((conv => whnf); first | (with_reducible refine condT ?_ ?_; (focus (assumption))) | (with_reducible refine condF ?_ ?_; (focus (assumption))) | (with_reducible refine condT ?_ ?_; (focus (decide))) | (with_reducible refine condF ?_ ?_; (focus (decide))) | (with_reducible refine condT ?_ ?_; (focus ((first | assumption | decide | (simp; done) | (simp; omega)); done))) | (with_reducible refine condF ?_ ?_; (focus ((first | assumption | decide | (simp; done) | (simp; omega)); done))) | with_reducible refine condB (fun h => ?_) (fun h => ?_) | with_reducible refine exI rfl ?_ | with_reducible refine eqR rfl ?_ | (with_reducible refine exW (wrapN1 ?_) ?_; (focus (omega))) | (with_reducible refine exW (wrapN ?_) ?_; (focus (omega))) | (with_reducible refine exW (wrapB ?_ ?_) ?_; (focus (omega)); (focus (omega))) | with_reducible refine exW rfl ?_ | (with_reducible refine ixJ _ rfl ?_ ?_; (focus ((first | decide | omega | (simp; done) | (simp; omega)); done))) | (with_reducible refine ixJ' _ rfl ?_ ?_; (focus ((first | decide | omega | (simp; done) | (simp; omega)); done))) | (refine ixJ (Int.toNat _) ?_ ?_ ?_; (focus ((first | rfl | decide | omega | (simp; done)); done)); (focus ((first | decide | omega | (simp; done) | (simp; omega)); done))) | (refine ixJ' (Int.toNat _) ?_ ?_ ?_; (focus ((first | rfl | decide | omega | (simp; done)); done)); (focus ((first | decide | omega | (simp; done) | (simp; omega)); done))) | with_reducible refine ixS _ rfl (by assumption) ?_ | (with_reducible refine shlI ?_ ?_; (focus (first | decide | omega))) | (refine exI (callZ rfl rfl (if_pos ?_)) ?_; (focus ((first | decide | omega | (simp; done) | (simp; omega)); done))))
  conv => whnf
  refine ⟨Nat, (fun i => i ≤ ts.length ∧ (cT (ts.take i) 0).1 = true), (fun i => [(4, cnF), (5, cnG), (11, .rs ts.length 1 (ts.map stA)), (12, .int .i64 ts.length), (13, .int .i64 i)]), (fun i => cnH (cT (ts.take i) 0).2 true nd ts.length cd (ts.map stA)), (fun i => ts.length - i), ⟨0, ⟨Nat.zero_le _, rfl⟩, FgLK.mk [0, 1, 2, 3, 4] rfl rfl ?_ ⟨⟨rfl, rfl, rfl, rfl, BodyGe.pre (rest := []) rfl rfl⟩, ⟨rfl, rfl, rfl, rfl, BodyGe.pre (rest := []) rfl rfl⟩, ⟨rfl, rfl, rfl, rfl, BodyGe.cellsL ⟨Wk.func trivial ⟨Wk.ptr rfl rfl, trivial⟩, trivial⟩⟩, ⟨rfl, rfl, rfl, rfl, BodyGe.pre (rest := []) rfl rfl⟩, ⟨rfl, rfl, rfl, rfl, BodyGe.cellsL ⟨Wk.func trivial ⟨Wk.ptr rfl rfl, Wk.ptr rfl rfl, trivial⟩, trivial⟩⟩, trivial⟩ rfl⟩, ?_⟩
  · refine And.intro (Wk.func trivial ⟨Wk.ptr rfl rfl, trivial⟩) ?_
    refine And.intro (Wk.func trivial ⟨Wk.ptr rfl rfl, trivial⟩) ?_
    refine And.intro (Wk.noref rfl) ?_
    refine And.intro (Wk.int rfl) ?_
    exact ⟨Wk.int rfl, trivial⟩
  rintro i ⟨hi, hall⟩
  dsimp only
  have hb : (cT (ts.take i) 0).2 ≤ 2000 := by
    have h1 := cT_cnt (ts.take i) 0 (by decide)
    rw [h1.2 hall]; exact (h1.1.1 hall).1
  by_cases hlt : i < ts.length
  · have e1 : decide ((i : Int) < (ts.length : Int)) = true := by simpa using hlt
    have hat : cT (ts.take (i + 1)) 0 = goSL cE cS ts[i] 1 (cT (ts.take i) 0).2 := goT_at ts 0 i hlt hall
    have hst : (cT (ts.take (i + 1)) 0).1 = false → cT ts 0 = cT (ts.take (i + 1)) 0 := goT_stop ts 0 (i + 1)
    have hx := th1 ts i hlt
    obtain ⟨k1, k2⟩ := okTL_get hok _ (get_mem hlt)
    have q2 := q1 ts[i] (cT (ts.take i) 0).2 k1 k2 hb
    generalize (cT (ts.take i) 0).2 = n at *
    generalize ts[i] = l at *
    generalize goSL cE cS l 1 n = r at *
    obtain ⟨b, n2⟩ := r
    simp only [stA] at hx
    simp only [stA, cnF, cnG, cnH] at q2
    cases b with
    | true =>
      repeat' ((conv => whnf); first | (refine exI hx ?_) | (refine exI q2 ?_) | (with_reducible refine ixJ i rfl ?_ ?_; (focus (omega))) | (first | (with_reducible refine condT ?_ ?_; (focus (assumption))) | (with_reducible refine condF ?_ ?_; (focus (assumption))) | (with_reducible refine condT ?_ ?_; (focus (decide))) | (with_reducible refine condF ?_ ?_; (focus (decide))) | (with_reducible refine condT ?_ ?_; (focus ((first | assumption | decide | (simp; done) | (simp; omega)); done))) | (with_reducible refine condF ?_ ?_; (focus ((first | assumption | decide | (simp; done) | (simp; omega)); done))) | with_reducible refine condB (fun h => ?_) (fun h => ?_) | with_reducible refine exI rfl ?_ | with_reducible refine eqR rfl ?_ | (with_reducible refine exW (wrapN1 ?_) ?_; (focus (omega))) | (with_reducible refine exW (wrapN ?_) ?_; (focus (omega))) | (with_reducible refine exW (wrapB ?_ ?_) ?_; (focus (omega)); (focus (omega))) | with_reducible refine exW rfl ?_ | (with_reducible refine ixJ _ rfl ?_ ?_; (focus ((first | decide | omega | (simp; done) | (simp; omega)); done))) | (with_reducible refine ixJ' _ rfl ?_ ?_; (focus ((first | decide | omega | (simp; done) | (simp; omega)); done))) | (refine ixJ (Int.toNat _) ?_ ?_ ?_; (focus ((first | rfl | decide | omega | (simp; done)); done)); (focus ((first | decide | omega | (simp; done) | (simp; omega)); done))) | (refine ixJ' (Int.toNat _) ?_ ?_ ?_; (focus ((first | rfl | decide | omega | (simp; done)); done)); (focus ((first | decide | omega | (simp; done) | (simp; omega)); done))) | with_reducible refine ixS _ rfl (by assumption) ?_ | (with_reducible refine shlI ?_ ?_; (focus (first | decide | omega))) | (refine exI (callZ rfl rfl (if_pos ?_)) ?_; (focus ((first | decide | omega | (simp; done) | (simp; omega)); done)))))
      conv => whnf
      refine ⟨i + 1, ⟨hlt, by rw [hat]⟩, by show ts.length - (i + 1) < ts.length - i; omega, FgLK.mk [0, 1, 2, 3, 4] rfl rfl ?_ ⟨⟨rfl, rfl, rfl, rfl, ?_⟩, ⟨rfl, rfl, rfl, rfl, BodyGe.pre (rest := []) rfl rfl⟩, ⟨rfl, rfl, rfl, rfl, BodyGe.cellsL ⟨Wk.func trivial ⟨Wk.ptr rfl rfl, trivial⟩, trivial⟩⟩, ⟨rfl, rfl, rfl, rfl, BodyGe.pre (rest := []) rfl rfl⟩, ⟨rfl, rfl, rfl, rfl, BodyGe.cellsL ⟨Wk.func trivial ⟨Wk.ptr rfl rfl, Wk.ptr rfl rfl, trivial⟩, trivial⟩⟩, trivial⟩ rfl⟩
      · refine And.intro (Wk.func trivial ⟨Wk.ptr rfl rfl, trivial⟩) ?_
        refine And.intro (Wk.func trivial ⟨Wk.ptr rfl rfl, trivial⟩) ?_
        refine And.intro (Wk.noref rfl) ?_
        refine And.intro (Wk.int rfl) ?_
        exact ⟨Wk.int rfl, trivial⟩
      · rw [hat]
        exact BodyGe.pre (rest := []) rfl rfl
    | false =>
      rw [hst (by rw [hat]), hat]
      repeat' ((conv => whnf); first | (refine exI hx ?_) | (refine exI q2 ?_) | (with_reducible refine ixJ i rfl ?_ ?_; (focus (omega))) | (first | (with_reducible refine condT ?_ ?_; (focus (assumption))) | (with_reducible refine condF ?_ ?_; (focus (assumption))) | (with_reducible refine condT ?_ ?_; (focus (decide))) | (with_reducible refine condF ?_ ?_; (focus (decide))) | (with_reducible refine condT ?_ ?_; (focus ((first | assumption | decide | (simp; done) | (simp; omega)); done))) | (with_reducible refine condF ?_ ?_; (focus ((first | assumption | decide | (simp; done) | (simp; omega)); done))) | with_reducible refine condB (fun h => ?_) (fun h => ?_) | with_reducible refine exI rfl ?_ | with_reducible refine eqR rfl ?_ | (with_reducible refine exW (wrapN1 ?_) ?_; (focus (omega))) | (with_reducible refine exW (wrapN ?_) ?_; (focus (omega))) | (with_reducible refine exW (wrapB ?_ ?_) ?_; (focus (omega)); (focus (omega))) | with_reducible refine exW rfl ?_ | (with_reducible refine ixJ _ rfl ?_ ?_; (focus ((first | decide | omega | (simp; done) | (simp; omega)); done))) | (with_reducible refine ixJ' _ rfl ?_ ?_; (focus ((first | decide | omega | (simp; done) | (simp; omega)); done))) | (refine ixJ (Int.toNat _) ?_ ?_ ?_; (focus ((first | rfl | decide | omega | (simp; done)); done)); (focus ((first | decide | omega | (simp; done) | (simp; omega)); done))) | (refine ixJ' (Int.toNat _) ?_ ?_ ?_; (focus ((first | rfl | decide | omega | (simp; done)); done)); (focus ((first | decide | omega | (simp; done) | (simp; omega)); done))) | with_reducible refine ixS _ rfl (by assumption) ?_ | (with_reducible refine shlI ?_ ?_; (focus (first | decide | omega))) | (refine exI (callZ rfl rfl (if_pos ?_)) ?_; (focus ((first | decide | omega | (simp; done) | (simp; omega)); done)))))
      all_goals (conv => whnf)
      all_goals (exact ⟨rfl, rfl⟩)
  · have e1 : decide ((i : Int) < (ts.length : Int)) = false := by simpa using hlt
    have hi2 : i = ts.length := by have := hi; omega
    subst hi2
    rw [List.take_length] at hall ⊢
    rw [hall]
    generalize (cT ts 0).2 = n at *
    repeat' ((conv => whnf); first | (with_reducible refine condT ?_ ?_; (focus (assumption))) | (with_reducible refine condF ?_ ?_; (focus (assumption))) | (with_reducible refine condT ?_ ?_; (focus (decide))) | (with_reducible refine condF ?_ ?_; (focus (decide))) | (with_reducible refine condT ?_ ?_; (focus ((first | assumption | decide | (simp; done) | (simp; omega)); done))) | (with_reducible refine condF ?_ ?_; (focus ((first | assumption | decide | (simp; done) | (simp; omega)); done))) | with_reducible refine condB (fun h => ?_) (fun h => ?_) | with_reducible refine exI rfl ?_ | with_reducible refine eqR rfl ?_ | (with_reducible refine exW (wrapN1 ?_) ?_; (focus (omega))) | (with_reducible refine exW (wrapN ?_) ?_; (focus (omega))) | (with_reducible refine exW (wrapB ?_ ?_) ?_; (focus (omega)); (focus (omega))) | with_reducible refine exW rfl ?_ | (with_reducible refine ixJ _ rfl ?_ ?_; (focus ((first | decide | omega | (simp; done) | (simp; omega)); done))) | (with_reducible refine ixJ' _ rfl ?_ ?_; (focus ((first | decide | omega | (simp; done) | (simp; omega)); done))) | (refine ixJ (Int.toNat _) ?_ ?_ ?_; (focus ((first | rfl | decide | omega | (simp; done)); done)); (focus ((first | decide | omega | (simp; done) | (simp; omega)); done))) | (refine ixJ' (Int.toNat _) ?_ ?_ ?_; (focus ((first | rfl | decide | omega | (simp; done)); done)); (focus ((first | decide | omega | (simp; done) | (simp; omega)); done))) | with_reducible refine ixS _ rfl (by assumption) ?_ | (with_reducible refine shlI ?_ ?_; (focus (first | decide | omega))) | (refine exI (callZ rfl rfl (if_pos ?_)) ?_; (focus ((first | decide | omega | (simp; done) | (simp; omega)); done))))
    all_goals (conv => whnf)
    all_goals (exact ⟨rfl, rfl⟩)
end Go.Proofs.YtajhailaofchlaaDoor.lex
end

/-
  Statements: how great they are, how deep, may they be (the document's answer).
-/
section
set_option linter.unusedVariables false
set_option linter.unusedSimpArgs false
namespace Go.Proofs.YtajhailaofchlaaDoor.lex
open Go.Abs Go.RowKit
set_option maxRecDepth 100000
set_option maxHeartbeats 4000000
variable {gl : Glob}

/-- Facts on one function of one list of statements each. -/
def famSL {g : Nat} (hb : hasBody Tryd.prog g = true) (r : List St → AV) (G : List St → Prop) (each : ∀ x, G x → ValOK Tryd.prog gl g [stA x] (r x)) : Fam Tryd.prog gl where
  I := List St
  f := g
  G := G
  A := fun x => [stA x]
  R := r
  body := hb
  inj := fun i j _ _ h => by simp only [List.cons.injEq, and_true] at h; rw [stA_inj h]
  ok := fun x hx => ⟨rfl, each x hx⟩
def famX {g : Nat} (hb : hasBody Tryd.prog g = true) (r : Ex → AV) (G : Ex → Prop) (each : ∀ k, G k → ValOK Tryd.prog gl g [.agg k.cells] (r k)) : Fam Tryd.prog gl where
  I := Ex
  f := g
  G := G
  A := fun k => [.agg k.cells]
  R := r
  body := hb
  inj := fun i j _ _ h => by rw [agg_inj h]
  ok := fun k hk => ⟨ex_refs k, each k hk⟩
theorem sizesR_ok : ∀ (n : Nat) (l : List St), sizeSL l ≤ n → sizeSL l ≤ 1048576 → ValOK Tryd.prog gl 52 [stA l] (.int .i64 (sizeSL l))
  | n, l, h, hb => by
    obtain ⟨O, hO, p1, p2, -⟩ := fams (P := Tryd.prog) (gl := gl) [famSL (g := 52) (by kernel_rfl) (fun x => .int .i64 (sizeSL x)) (fun x => sizeSL x < n ∧ sizeSL x ≤ 1048576) (fun x hx => match n, hx with | n + 1, hx => sizesR_ok n x (by omega) hx.2),
      famX (g := 48) (by kernel_rfl) (fun k => .int .i64 (sizeE k)) (fun k => sizeE k ≤ 1048576) (fun k hk => sizeR_ok _ k (Nat.le_refl _) hk)] rfl
    have q1 : ∀ x, sizeSL x < n ∧ sizeSL x ≤ 1048576 → ∀ H, acall Tryd.prog O H 52 [stA x] = some (.int .i64 (sizeSL x), H) := p1
    have q2 : ∀ k, sizeE k ≤ 1048576 → ∀ H, acall Tryd.prog O H 48 [.agg k.cells] = some (.int .i64 (sizeE k), H) := p2
    clear p1 p2
    have hlen := sizeSL_len l
    simp only [stA] at q1 ⊢
    refine fn_val follows noNum hO Tryd.func52 rfl ?_
    repeat' ((conv => whnf); first | (with_reducible refine condT ?_ ?_; (focus ((first | assumption | decide | (simp; done) | (simp; omega)); done))) | (with_reducible refine condF ?_ ?_; (focus ((first | assumption | decide | (simp; done) | (simp; omega)); done))) | with_reducible refine condB (fun h => ?_) (fun h => ?_) | with_reducible refine exI rfl ?_ | with_reducible refine eqR rfl ?_ | (with_reducible refine exW (wrapN1 ?_) ?_; (focus (omega))) | (with_reducible refine exW (wrapN ?_) ?_; (focus (omega))) | (with_reducible refine exW (wrapB ?_ ?_) ?_; (focus (omega)); (focus (omega))) | with_reducible refine exW rfl ?_ | (with_reducible refine ixJ _ rfl ?_ ?_; (focus ((first | decide | omega | (simp; done) | (simp; omega)); done))) | (with_reducible refine ixJ' _ rfl ?_ ?_; (focus ((first | decide | omega | (simp; done) | (simp; omega)); done))) | (refine ixJ (Int.toNat _) ?_ ?_ ?_; (focus ((first | rfl | decide | omega | (simp; done)); done)); (focus ((first | decide | omega | (simp; done) | (simp; omega)); done))) | (refine ixJ' (Int.toNat _) ?_ ?_ ?_; (focus ((first | rfl | decide | omega | (simp; done)); done)); (focus ((first | decide | omega | (simp; done) | (simp; omega)); done))) | with_reducible refine ixS _ rfl (by assumption) ?_ | (with_reducible refine shlI ?_ ?_; (focus (first | decide | omega))) | (refine exI (callZ rfl rfl (if_pos ?_)) ?_; (focus ((first | decide | omega | (simp; done) | (simp; omega)); done))))
    conv => whnf
    refine ⟨Nat, (fun i => i ≤ l.length), (fun i => [(0, .rs l.length 7 (stC l)), (3, .int .i64 (sizeSL (l.take i) : Nat)), (4, .int .i64 i)]), (fun _ => []), (fun i => l.length - i), ⟨0, Nat.zero_le _, FgL.mk0 rfl ?_⟩, ?_⟩
    · simp only [List.take_zero, sizeSL]; (repeat (first | exact trivial | (refine And.intro (Wk.int ?_) ?_; (focus (first | rfl | omega | (simp; done) | (simp; omega)))) | (refine And.intro (Wk.bool ?_) ?_; (focus (first | rfl | (simp; done)))) | refine And.intro (Wk.noref rfl) ?_ | refine And.intro (Wk.ptr rfl rfl) ?_ | (refine And.intro (Wk.slice rfl ?_ ?_ ?_ ?_ ?_) ?_; (focus (first | rfl | omega)); (focus (first | rfl | omega)); (focus (first | rfl | omega)); (focus (first | rfl | omega)); (focus rfl)) | refine And.intro Wk.nil ?_ | refine And.intro (Wk.func trivial ⟨Wk.ptr rfl rfl, trivial⟩) ?_ | refine And.intro (Wk.map rfl) ?_))
    intro i hi
    dsimp only
    by_cases hlt : i < l.length
    · have e1 : decide ((i : Int) < (l.length : Int)) = true := by simpa using hlt
      have hs := sizeSL_take l i hlt
      have hg := sizeSL_get l i hlt
      have hse := sizeS_eq l[i]
      have hx4 : tk 1 (((stC l).drop (i * 7)).drop 4) = some [exA l[i].exprs] := by rw [stC_at l i hlt]; exact cell_x _ _
      have hx5 : tk 1 (((stC l).drop (i * 7)).drop 5) = some [stA l[i].thn] := by rw [stC_at l i hlt]; exact cell_t _ _
      have hx6 : tk 1 (((stC l).drop (i * 7)).drop 6) = some [stA l[i].els] := by rw [stC_at l i hlt]; exact cell_e _ _
      have qt := q1 l[i].thn ⟨by omega, by omega⟩
      have qe := q1 l[i].els ⟨by omega, by omega⟩
      generalize l[i] = x at *
      simp only [exA, stA] at hx4 hx5 hx6
      have hxl := sizeL_len x.exprs
      generalize hT : sizeSL x.thn = zt at *
      generalize hE : sizeSL x.els = ze at *
      repeat' ((conv => whnf); first | (refine exI hx4 ?_) | (refine exI hx5 ?_) | (refine exI hx6 ?_) | (refine exI (qt _) ?_) | (refine exI (qe _) ?_) | (with_reducible refine ixJ i rfl ?_ ?_; (focus (omega))) | (first | (with_reducible refine condT ?_ ?_; (focus ((first | assumption | decide | (simp; done) | (simp; omega)); done))) | (with_reducible refine condF ?_ ?_; (focus ((first | assumption | decide | (simp; done) | (simp; omega)); done))) | with_reducible refine condB (fun h => ?_) (fun h => ?_) | with_reducible refine exI rfl ?_ | with_reducible refine eqR rfl ?_ | (with_reducible refine exW (wrapN1 ?_) ?_; (focus (omega))) | (with_reducible refine exW (wrapN ?_) ?_; (focus (omega))) | (with_reducible refine exW (wrapB ?_ ?_) ?_; (focus (omega)); (focus (omega))) | with_reducible refine exW rfl ?_ | (with_reducible refine ixJ _ rfl ?_ ?_; (focus ((first | decide | omega | (simp; done) | (simp; omega)); done))) | (with_reducible refine ixJ' _ rfl ?_ ?_; (focus ((first | decide | omega | (simp; done) | (simp; omega)); done))) | (refine ixJ (Int.toNat _) ?_ ?_ ?_; (focus ((first | rfl | decide | omega | (simp; done)); done)); (focus ((first | decide | omega | (simp; done) | (simp; omega)); done))) | (refine ixJ' (Int.toNat _) ?_ ?_ ?_; (focus ((first | rfl | decide | omega | (simp; done)); done)); (focus ((first | decide | omega | (simp; done) | (simp; omega)); done))) | with_reducible refine ixS _ rfl (by assumption) ?_ | (with_reducible refine shlI ?_ ?_; (focus (first | decide | omega))) | (refine exI (callZ rfl rfl (if_pos ?_)) ?_; (focus ((first | decide | omega | (simp; done) | (simp; omega)); done)))))
      conv => whnf
      refine ⟨Nat, (fun k => k ≤ x.exprs.length), (fun k => [(0, .rs l.length 7 (stC l)), (3, .int .i64 (sizeSL (l.take i) + 1 + zt + ze + sizeL (x.exprs.take k) : Nat)), (4, .int .i64 i), (5, .int .i64 k)]), (fun _ => []), (fun k => x.exprs.length - k), ⟨0, Nat.zero_le _, FgL.mk0 rfl ?_⟩, ?_⟩
      · simp only [List.take_zero, sizeL]; (repeat (first | exact trivial | (refine And.intro (Wk.int ?_) ?_; (focus (first | rfl | omega | (simp; done) | (simp; omega)))) | (refine And.intro (Wk.bool ?_) ?_; (focus (first | rfl | (simp; done)))) | refine And.intro (Wk.noref rfl) ?_ | refine And.intro (Wk.ptr rfl rfl) ?_ | (refine And.intro (Wk.slice rfl ?_ ?_ ?_ ?_ ?_) ?_; (focus (first | rfl | omega)); (focus (first | rfl | omega)); (focus (first | rfl | omega)); (focus (first | rfl | omega)); (focus rfl)) | refine And.intro Wk.nil ?_ | refine And.intro (Wk.func trivial ⟨Wk.ptr rfl rfl, trivial⟩) ?_ | refine And.intro (Wk.map rfl) ?_))
      intro k hk
      dsimp only
      by_cases hkt : k < x.exprs.length
      · have e2 : decide ((k : Int) < (x.exprs.length : Int)) = true := by simpa using hkt
        have hy := ex4 x.exprs k hkt
        have ht := sizeL_take x.exprs k hkt
        have hgk := sizeL_get x.exprs k hkt
        have qk := q2 x.exprs[k] (by omega)
        generalize x.exprs[k] = y at *
        repeat' ((conv => whnf); first | (refine exI hx4 ?_) | (refine exI hy ?_) | (refine exI (qk _) ?_) | (with_reducible refine ixJ i rfl ?_ ?_; (focus (omega))) | (with_reducible refine ixJ k rfl ?_ ?_; (focus (omega))) | (first | (with_reducible refine condT ?_ ?_; (focus ((first | assumption | decide | (simp; done) | (simp; omega)); done))) | (with_reducible refine condF ?_ ?_; (focus ((first | assumption | decide | (simp; done) | (simp; omega)); done))) | with_reducible refine condB (fun h => ?_) (fun h => ?_) | with_reducible refine exI rfl ?_ | with_reducible refine eqR rfl ?_ | (with_reducible refine exW (wrapN1 ?_) ?_; (focus (omega))) | (with_reducible refine exW (wrapN ?_) ?_; (focus (omega))) | (with_reducible refine exW (wrapB ?_ ?_) ?_; (focus (omega)); (focus (omega))) | with_reducible refine exW rfl ?_ | (with_reducible refine ixJ _ rfl ?_ ?_; (focus ((first | decide | omega | (simp; done) | (simp; omega)); done))) | (with_reducible refine ixJ' _ rfl ?_ ?_; (focus ((first | decide | omega | (simp; done) | (simp; omega)); done))) | (refine ixJ (Int.toNat _) ?_ ?_ ?_; (focus ((first | rfl | decide | omega | (simp; done)); done)); (focus ((first | decide | omega | (simp; done) | (simp; omega)); done))) | (refine ixJ' (Int.toNat _) ?_ ?_ ?_; (focus ((first | rfl | decide | omega | (simp; done)); done)); (focus ((first | decide | omega | (simp; done) | (simp; omega)); done))) | with_reducible refine ixS _ rfl (by assumption) ?_ | (with_reducible refine shlI ?_ ?_; (focus (first | decide | omega))) | (refine exI (callZ rfl rfl (if_pos ?_)) ?_; (focus ((first | decide | omega | (simp; done) | (simp; omega)); done)))))
        conv => whnf
        refine ⟨k + 1, hkt, by show x.exprs.length - (k + 1) < x.exprs.length - k; omega, FgL.mk0 rfl ?_⟩
        rw [ht]; (repeat (first | exact trivial | (refine And.intro (Wk.int ?_) ?_; (focus (first | rfl | omega | (simp; done) | (simp; omega)))) | (refine And.intro (Wk.bool ?_) ?_; (focus (first | rfl | (simp; done)))) | refine And.intro (Wk.noref rfl) ?_ | refine And.intro (Wk.ptr rfl rfl) ?_ | (refine And.intro (Wk.slice rfl ?_ ?_ ?_ ?_ ?_) ?_; (focus (first | rfl | omega)); (focus (first | rfl | omega)); (focus (first | rfl | omega)); (focus (first | rfl | omega)); (focus rfl)) | refine And.intro Wk.nil ?_ | refine And.intro (Wk.func trivial ⟨Wk.ptr rfl rfl, trivial⟩) ?_ | refine And.intro (Wk.map rfl) ?_))
      · have e2 : decide ((k : Int) < (x.exprs.length : Int)) = false := by simpa using hkt
        have hk2 : k = x.exprs.length := by have := hk; omega
        subst hk2
        repeat' ((conv => whnf); first | (refine exI hx4 ?_) | (with_reducible refine ixJ i rfl ?_ ?_; (focus (omega))) | (first | (with_reducible refine condT ?_ ?_; (focus ((first | assumption | decide | (simp; done) | (simp; omega)); done))) | (with_reducible refine condF ?_ ?_; (focus ((first | assumption | decide | (simp; done) | (simp; omega)); done))) | with_reducible refine condB (fun h => ?_) (fun h => ?_) | with_reducible refine exI rfl ?_ | with_reducible refine eqR rfl ?_ | (with_reducible refine exW (wrapN1 ?_) ?_; (focus (omega))) | (with_reducible refine exW (wrapN ?_) ?_; (focus (omega))) | (with_reducible refine exW (wrapB ?_ ?_) ?_; (focus (omega)); (focus (omega))) | with_reducible refine exW rfl ?_ | (with_reducible refine ixJ _ rfl ?_ ?_; (focus ((first | decide | omega | (simp; done) | (simp; omega)); done))) | (with_reducible refine ixJ' _ rfl ?_ ?_; (focus ((first | decide | omega | (simp; done) | (simp; omega)); done))) | (refine ixJ (Int.toNat _) ?_ ?_ ?_; (focus ((first | rfl | decide | omega | (simp; done)); done)); (focus ((first | decide | omega | (simp; done) | (simp; omega)); done))) | (refine ixJ' (Int.toNat _) ?_ ?_ ?_; (focus ((first | rfl | decide | omega | (simp; done)); done)); (focus ((first | decide | omega | (simp; done) | (simp; omega)); done))) | with_reducible refine ixS _ rfl (by assumption) ?_ | (with_reducible refine shlI ?_ ?_; (focus (first | decide | omega))) | (refine exI (callZ rfl rfl (if_pos ?_)) ?_; (focus ((first | decide | omega | (simp; done) | (simp; omega)); done)))))
        conv => whnf
        refine ⟨i + 1, hlt, by show l.length - (i + 1) < l.length - i; omega, FgL.mk0 rfl ?_⟩
        rw [hs, List.take_length, hse]; (repeat (first | exact trivial | (refine And.intro (Wk.int ?_) ?_; (focus (first | rfl | omega | (simp; done) | (simp; omega)))) | (refine And.intro (Wk.bool ?_) ?_; (focus (first | rfl | (simp; done)))) | refine And.intro (Wk.noref rfl) ?_ | refine And.intro (Wk.ptr rfl rfl) ?_ | (refine And.intro (Wk.slice rfl ?_ ?_ ?_ ?_ ?_) ?_; (focus (first | rfl | omega)); (focus (first | rfl | omega)); (focus (first | rfl | omega)); (focus (first | rfl | omega)); (focus rfl)) | refine And.intro Wk.nil ?_ | refine And.intro (Wk.func trivial ⟨Wk.ptr rfl rfl, trivial⟩) ?_ | refine And.intro (Wk.map rfl) ?_))
    · have e1 : decide ((i : Int) < (l.length : Int)) = false := by simpa using hlt
      have hi2 : i = l.length := by have := hi; omega
      subst hi2
      rw [List.take_length]
      repeat' ((conv => whnf); first | (with_reducible refine condT ?_ ?_; (focus ((first | assumption | decide | (simp; done) | (simp; omega)); done))) | (with_reducible refine condF ?_ ?_; (focus ((first | assumption | decide | (simp; done) | (simp; omega)); done))) | with_reducible refine condB (fun h => ?_) (fun h => ?_) | with_reducible refine exI rfl ?_ | with_reducible refine eqR rfl ?_ | (with_reducible refine exW (wrapN1 ?_) ?_; (focus (omega))) | (with_reducible refine exW (wrapN ?_) ?_; (focus (omega))) | (with_reducible refine exW (wrapB ?_ ?_) ?_; (focus (omega)); (focus (omega))) | with_reducible refine exW rfl ?_ | (with_reducible refine ixJ _ rfl ?_ ?_; (focus ((first | decide | omega | (simp; done) | (simp; omega)); done))) | (with_reducible refine ixJ' _ rfl ?_ ?_; (focus ((first | decide | omega | (simp; done) | (simp; omega)); done))) | (refine ixJ (Int.toNat _) ?_ ?_ ?_; (focus ((first | rfl | decide | omega | (simp; done)); done)); (focus ((first | decide | omega | (simp; done) | (simp; omega)); done))) | (refine ixJ' (Int.toNat _) ?_ ?_ ?_; (focus ((first | rfl | decide | omega | (simp; done)); done)); (focus ((first | decide | omega | (simp; done) | (simp; omega)); done))) | with_reducible refine ixS _ rfl (by assumption) ?_ | (with_reducible refine shlI ?_ ?_; (focus (first | decide | omega))) | (refine exI (callZ rfl rfl (if_pos ?_)) ?_; (focus ((first | decide | omega | (simp; done) | (simp; omega)); done))))
      all_goals rfl
theorem max_take {a b : Nat} : ((if decide ((a : Int) < (b : Int)) = true then (b : Int) else (a : Int)) : Int) = ((max a b : Nat) : Int) := by
  simp only [decide_eq_true_eq]; split <;> omega
theorem deepsR_ok : ∀ (n : Nat) (l : List St), sizeSL l ≤ n → sizeSL l ≤ 1048576 → ValOK Tryd.prog gl 53 [stA l] (.int .i64 (deepSL l))
  | n, l, h, hb => by
    obtain ⟨O, hO, p1, p2, -⟩ := fams (P := Tryd.prog) (gl := gl) [famSL (g := 53) (by kernel_rfl) (fun x => .int .i64 (deepSL x)) (fun x => sizeSL x < n ∧ sizeSL x ≤ 1048576) (fun x hx => match n, hx with | n + 1, hx => deepsR_ok n x (by omega) hx.2),
      famX (g := 49) (by kernel_rfl) (fun k => .int .i64 (deepE k)) (fun k => sizeE k ≤ 1048576) (fun k hk => deepR_ok _ k (Nat.le_refl _) hk)] rfl
    have q1 : ∀ x, sizeSL x < n ∧ sizeSL x ≤ 1048576 → ∀ H, acall Tryd.prog O H 53 [stA x] = some (.int .i64 (deepSL x), H) := p1
    have q2 : ∀ k, sizeE k ≤ 1048576 → ∀ H, acall Tryd.prog O H 49 [.agg k.cells] = some (.int .i64 (deepE k), H) := p2
    clear p1 p2
    have hlen := sizeSL_len l
    have hds := deepSL_size l
    simp only [stA] at q1 ⊢
    refine fn_val follows noNum hO Tryd.func53 rfl ?_
    repeat' ((conv => whnf); first | (with_reducible refine condT ?_ ?_; (focus ((first | assumption | decide | (simp; done) | (simp; omega)); done))) | (with_reducible refine condF ?_ ?_; (focus ((first | assumption | decide | (simp; done) | (simp; omega)); done))) | with_reducible refine condB (fun h => ?_) (fun h => ?_) | with_reducible refine exI rfl ?_ | with_reducible refine eqR rfl ?_ | (with_reducible refine exW (wrapN1 ?_) ?_; (focus (omega))) | (with_reducible refine exW (wrapN ?_) ?_; (focus (omega))) | (with_reducible refine exW (wrapB ?_ ?_) ?_; (focus (omega)); (focus (omega))) | with_reducible refine exW rfl ?_ | (with_reducible refine ixJ _ rfl ?_ ?_; (focus ((first | decide | omega | (simp; done) | (simp; omega)); done))) | (with_reducible refine ixJ' _ rfl ?_ ?_; (focus ((first | decide | omega | (simp; done) | (simp; omega)); done))) | (refine ixJ (Int.toNat _) ?_ ?_ ?_; (focus ((first | rfl | decide | omega | (simp; done)); done)); (focus ((first | decide | omega | (simp; done) | (simp; omega)); done))) | (refine ixJ' (Int.toNat _) ?_ ?_ ?_; (focus ((first | rfl | decide | omega | (simp; done)); done)); (focus ((first | decide | omega | (simp; done) | (simp; omega)); done))) | with_reducible refine ixS _ rfl (by assumption) ?_ | (with_reducible refine shlI ?_ ?_; (focus (first | decide | omega))) | (refine exI (callZ rfl rfl (if_pos ?_)) ?_; (focus ((first | decide | omega | (simp; done) | (simp; omega)); done))))
    conv => whnf
    refine ⟨Nat, (fun i => i ≤ l.length), (fun i => [(0, .rs l.length 7 (stC l)), (3, .int .i64 (deepSL (l.take i) : Nat)), (4, .int .i64 i)]), (fun _ => []), (fun i => l.length - i), ⟨0, Nat.zero_le _, FgL.mk0 rfl ?_⟩, ?_⟩
    · simp only [List.take_zero, deepSL]; (repeat (first | exact trivial | (refine And.intro (Wk.int ?_) ?_; (focus (first | rfl | omega | (simp; done) | (simp; omega)))) | (refine And.intro (Wk.bool ?_) ?_; (focus (first | rfl | (simp; done)))) | refine And.intro (Wk.noref rfl) ?_ | refine And.intro (Wk.ptr rfl rfl) ?_ | (refine And.intro (Wk.slice rfl ?_ ?_ ?_ ?_ ?_) ?_; (focus (first | rfl | omega)); (focus (first | rfl | omega)); (focus (first | rfl | omega)); (focus (first | rfl | omega)); (focus rfl)) | refine And.intro Wk.nil ?_ | refine And.intro (Wk.func trivial ⟨Wk.ptr rfl rfl, trivial⟩) ?_ | refine And.intro (Wk.map rfl) ?_))
    intro i hi
    dsimp only
    by_cases hlt : i < l.length
    · have e1 : decide ((i : Int) < (l.length : Int)) = true := by simpa using hlt
      have hs := deepSL_take l i hlt
      have hle := deepSL_le l i
      have hsz := sizeSL_mem _ _ (get_mem hlt)
      have hse := sizeS_eq l[i]
      have hde := deepS_eq l[i]
      have hx4 : tk 1 (((stC l).drop (i * 7)).drop 4) = some [exA l[i].exprs] := by rw [stC_at l i hlt]; exact cell_x _ _
      have hx5 : tk 1 (((stC l).drop (i * 7)).drop 5) = some [stA l[i].thn] := by rw [stC_at l i hlt]; exact cell_t _ _
      have hx6 : tk 1 (((stC l).drop (i * 7)).drop 6) = some [stA l[i].els] := by rw [stC_at l i hlt]; exact cell_e _ _
      have qt := q1 l[i].thn ⟨by omega, by omega⟩
      have qe := q1 l[i].els ⟨by omega, by omega⟩
      generalize l[i] = x at *
      simp only [exA, stA] at hx4 hx5 hx6
      have hxl := sizeL_len x.exprs
      have h1 := deepSL_size x.thn
      have h2 := deepSL_size x.els
      have h3 := deepL_size x.exprs
      generalize hT : deepSL x.thn = zt at *
      generalize hE : deepSL x.els = ze at *
      repeat' ((conv => whnf); first | (refine exI hx4 ?_) | (refine exI hx5 ?_) | (refine exI hx6 ?_) | (refine exI (qt _) ?_) | (refine exI (qe _) ?_) | (with_reducible refine ixJ i rfl ?_ ?_; (focus (omega))) | (first | (with_reducible refine condT ?_ ?_; (focus ((first | assumption | decide | (simp; done) | (simp; omega)); done))) | (with_reducible refine condF ?_ ?_; (focus ((first | assumption | decide | (simp; done) | (simp; omega)); done))) | with_reducible refine condB (fun h => ?_) (fun h => ?_) | with_reducible refine exI rfl ?_ | with_reducible refine eqR rfl ?_ | (with_reducible refine exW (wrapN1 ?_) ?_; (focus (omega))) | (with_reducible refine exW (wrapN ?_) ?_; (focus (omega))) | (with_reducible refine exW (wrapB ?_ ?_) ?_; (focus (omega)); (focus (omega))) | with_reducible refine exW rfl ?_ | (with_reducible refine ixJ _ rfl ?_ ?_; (focus ((first | decide | omega | (simp; done) | (simp; omega)); done))) | (with_reducible refine ixJ' _ rfl ?_ ?_; (focus ((first | decide | omega | (simp; done) | (simp; omega)); done))) | (refine ixJ (Int.toNat _) ?_ ?_ ?_; (focus ((first | rfl | decide | omega | (simp; done)); done)); (focus ((first | decide | omega | (simp; done) | (simp; omega)); done))) | (refine ixJ' (Int.toNat _) ?_ ?_ ?_; (focus ((first | rfl | decide | omega | (simp; done)); done)); (focus ((first | decide | omega | (simp; done) | (simp; omega)); done))) | with_reducible refine ixS _ rfl (by assumption) ?_ | (with_reducible refine shlI ?_ ?_; (focus (first | decide | omega))) | (refine exI (callZ rfl rfl (if_pos ?_)) ?_; (focus ((first | decide | omega | (simp; done) | (simp; omega)); done)))))
      conv => whnf
      refine ⟨Nat, (fun k => k ≤ x.exprs.length), (fun k => [(0, .rs l.length 7 (stC l)), (3, .int .i64 (deepSL (l.take i) : Nat)), (4, .int .i64 i), (5, .int .i64 (max (max zt ze) (deepL (x.exprs.take k)) : Nat)), (6, .int .i64 k)]), (fun _ => []), (fun k => x.exprs.length - k), ⟨0, Nat.zero_le _, FgL.mk0 rfl ?_⟩, ?_⟩
      · refine And.intro (Wk.noref rfl) ?_
        refine And.intro (Wk.noref rfl) ?_
        refine And.intro (Wk.noref rfl) ?_
        refine And.intro (Wk.int ?_) ?_
        · simp only [List.take_zero, deepL]; first | omega | (split <;> omega)
        exact ⟨Wk.int rfl, trivial⟩
      intro k hk
      dsimp only
      by_cases hkt : k < x.exprs.length
      · have e2 : decide ((k : Int) < (x.exprs.length : Int)) = true := by simpa using hkt
        have hy := ex4 x.exprs k hkt
        have ht := deepL_take x.exprs k hkt
        have hmk := sizeL_mem _ _ (get_mem hkt)
        have qk := q2 x.exprs[k] (by omega)
        generalize x.exprs[k] = y at *
        repeat' ((conv => whnf); first | (refine exI hx4 ?_) | (refine exI hy ?_) | (refine exI (qk _) ?_) | (with_reducible refine ixJ i rfl ?_ ?_; (focus (omega))) | (with_reducible refine ixJ k rfl ?_ ?_; (focus (omega))) | (first | (with_reducible refine condT ?_ ?_; (focus ((first | assumption | decide | (simp; done) | (simp; omega)); done))) | (with_reducible refine condF ?_ ?_; (focus ((first | assumption | decide | (simp; done) | (simp; omega)); done))) | with_reducible refine condB (fun h => ?_) (fun h => ?_) | with_reducible refine exI rfl ?_ | with_reducible refine eqR rfl ?_ | (with_reducible refine exW (wrapN1 ?_) ?_; (focus (omega))) | (with_reducible refine exW (wrapN ?_) ?_; (focus (omega))) | (with_reducible refine exW (wrapB ?_ ?_) ?_; (focus (omega)); (focus (omega))) | with_reducible refine exW rfl ?_ | (with_reducible refine ixJ _ rfl ?_ ?_; (focus ((first | decide | omega | (simp; done) | (simp; omega)); done))) | (with_reducible refine ixJ' _ rfl ?_ ?_; (focus ((first | decide | omega | (simp; done) | (simp; omega)); done))) | (refine ixJ (Int.toNat _) ?_ ?_ ?_; (focus ((first | rfl | decide | omega | (simp; done)); done)); (focus ((first | decide | omega | (simp; done) | (simp; omega)); done))) | (refine ixJ' (Int.toNat _) ?_ ?_ ?_; (focus ((first | rfl | decide | omega | (simp; done)); done)); (focus ((first | decide | omega | (simp; done) | (simp; omega)); done))) | with_reducible refine ixS _ rfl (by assumption) ?_ | (with_reducible refine shlI ?_ ?_; (focus (first | decide | omega))) | (refine exI (callZ rfl rfl (if_pos ?_)) ?_; (focus ((first | decide | omega | (simp; done) | (simp; omega)); done)))))
        conv => whnf
        refine ⟨k + 1, hkt, by show x.exprs.length - (k + 1) < x.exprs.length - k; omega, FgL.mk0 rfl ?_⟩
        refine And.intro (Wk.noref rfl) ?_
        refine And.intro (Wk.noref rfl) ?_
        refine And.intro (Wk.noref rfl) ?_
        refine And.intro (Wk.int ?_) ?_
        · rw [ht]; first | omega | (split <;> omega)
        exact ⟨Wk.int rfl, trivial⟩
      · have e2 : decide ((k : Int) < (x.exprs.length : Int)) = false := by simpa using hkt
        have hk2 : k = x.exprs.length := by have := hk; omega
        subst hk2
        rw [List.take_length]
        repeat' ((conv => whnf); first | (refine exI hx4 ?_) | (with_reducible refine ixJ i rfl ?_ ?_; (focus (omega))) | (first | (with_reducible refine condT ?_ ?_; (focus ((first | assumption | decide | (simp; done) | (simp; omega)); done))) | (with_reducible refine condF ?_ ?_; (focus ((first | assumption | decide | (simp; done) | (simp; omega)); done))) | with_reducible refine condB (fun h => ?_) (fun h => ?_) | with_reducible refine exI rfl ?_ | with_reducible refine eqR rfl ?_ | (with_reducible refine exW (wrapN1 ?_) ?_; (focus (omega))) | (with_reducible refine exW (wrapN ?_) ?_; (focus (omega))) | (with_reducible refine exW (wrapB ?_ ?_) ?_; (focus (omega)); (focus (omega))) | with_reducible refine exW rfl ?_ | (with_reducible refine ixJ _ rfl ?_ ?_; (focus ((first | decide | omega | (simp; done) | (simp; omega)); done))) | (with_reducible refine ixJ' _ rfl ?_ ?_; (focus ((first | decide | omega | (simp; done) | (simp; omega)); done))) | (refine ixJ (Int.toNat _) ?_ ?_ ?_; (focus ((first | rfl | decide | omega | (simp; done)); done)); (focus ((first | decide | omega | (simp; done) | (simp; omega)); done))) | (refine ixJ' (Int.toNat _) ?_ ?_ ?_; (focus ((first | rfl | decide | omega | (simp; done)); done)); (focus ((first | decide | omega | (simp; done) | (simp; omega)); done))) | with_reducible refine ixS _ rfl (by assumption) ?_ | (with_reducible refine shlI ?_ ?_; (focus (first | decide | omega))) | (refine exI (callZ rfl rfl (if_pos ?_)) ?_; (focus ((first | decide | omega | (simp; done) | (simp; omega)); done)))))
        conv => whnf
        refine ⟨i + 1, hlt, by show l.length - (i + 1) < l.length - i; omega, FgL.mk0 rfl ?_⟩
        refine And.intro (Wk.noref rfl) ?_
        refine And.intro (Wk.int ?_) ?_
        · rw [hs, hde]; first | omega | (split <;> omega)
        exact ⟨Wk.int rfl, trivial⟩
    · have e1 : decide ((i : Int) < (l.length : Int)) = false := by simpa using hlt
      have hi2 : i = l.length := by have := hi; omega
      subst hi2
      rw [List.take_length]
      repeat' ((conv => whnf); first | (with_reducible refine condT ?_ ?_; (focus ((first | assumption | decide | (simp; done) | (simp; omega)); done))) | (with_reducible refine condF ?_ ?_; (focus ((first | assumption | decide | (simp; done) | (simp; omega)); done))) | with_reducible refine condB (fun h => ?_) (fun h => ?_) | with_reducible refine exI rfl ?_ | with_reducible refine eqR rfl ?_ | (with_reducible refine exW (wrapN1 ?_) ?_; (focus (omega))) | (with_reducible refine exW (wrapN ?_) ?_; (focus (omega))) | (with_reducible refine exW (wrapB ?_ ?_) ?_; (focus (omega)); (focus (omega))) | with_reducible refine exW rfl ?_ | (with_reducible refine ixJ _ rfl ?_ ?_; (focus ((first | decide | omega | (simp; done) | (simp; omega)); done))) | (with_reducible refine ixJ' _ rfl ?_ ?_; (focus ((first | decide | omega | (simp; done) | (simp; omega)); done))) | (refine ixJ (Int.toNat _) ?_ ?_ ?_; (focus ((first | rfl | decide | omega | (simp; done)); done)); (focus ((first | decide | omega | (simp; done) | (simp; omega)); done))) | (refine ixJ' (Int.toNat _) ?_ ?_ ?_; (focus ((first | rfl | decide | omega | (simp; done)); done)); (focus ((first | decide | omega | (simp; done) | (simp; omega)); done))) | with_reducible refine ixS _ rfl (by assumption) ?_ | (with_reducible refine shlI ?_ ?_; (focus (first | decide | omega))) | (refine exI (callZ rfl rfl (if_pos ?_)) ?_; (focus ((first | decide | omega | (simp; done) | (simp; omega)); done))))
      all_goals rfl
end Go.Proofs.YtajhailaofchlaaDoor.lex
end

/-
  Statements: may they be (the document's answer).
-/
section
set_option linter.unusedVariables false
set_option linter.unusedSimpArgs false
namespace Go.Proofs.YtajhailaofchlaaDoor.lex
open Go.Abs Go.RowKit
set_option maxRecDepth 100000
set_option maxHeartbeats 8000000
variable {gl : Glob}

def isK (k : Int) : Bool := decide (1 ≤ k ∧ k ≤ 11)
def hX (k : Int) : Int := if isK k then hasX k else 0
def hT (k : Int) : Bool := isK k && hasT k
def partsV (k : Int) : AV := .tuple [.agg [.bool (hasN k), .bool (hasL k), .bool (hasO k), .int .i64 (hX k), .bool (hT k), .bool (hasE k)], .bool (isK k)]
theorem parts_ok (k : Int) : ValOK Tryd.prog gl 76 [.int .i64 k] (partsV k) := by
  by_cases hk : 1 ≤ k ∧ k ≤ 11
  · have hop : k = 1 ∨ k = 2 ∨ k = 3 ∨ k = 4 ∨ k = 5 ∨ k = 6 ∨ k = 7 ∨ k = 8 ∨ k = 9 ∨ k = 10 ∨ k = 11 := by omega
    rcases hop with rfl | rfl | rfl | rfl | rfl | rfl | rfl | rfl | rfl | rfl | rfl
    all_goals (refine fn_val follows noNum none_sound Tryd.func76 rfl ?_)
    all_goals (repeat' ((conv => whnf); first | (with_reducible refine condT ?_ ?_; (focus ((first | assumption | decide | (simp; done) | (simp; omega)); done))) | (with_reducible refine condF ?_ ?_; (focus ((first | assumption | decide | (simp; done) | (simp; omega)); done))) | with_reducible refine condB (fun h => ?_) (fun h => ?_) | with_reducible refine exI rfl ?_ | with_reducible refine eqR rfl ?_ | (with_reducible refine exW (wrapN1 ?_) ?_; (focus (omega))) | (with_reducible refine exW (wrapN ?_) ?_; (focus (omega))) | (with_reducible refine exW (wrapB ?_ ?_) ?_; (focus (omega)); (focus (omega))) | with_reducible refine exW rfl ?_ | (with_reducible refine ixJ _ rfl ?_ ?_; (focus ((first | decide | omega | (simp; done) | (simp; omega)); done))) | (with_reducible refine ixJ' _ rfl ?_ ?_; (focus ((first | decide | omega | (simp; done) | (simp; omega)); done))) | (refine ixJ (Int.toNat _) ?_ ?_ ?_; (focus ((first | rfl | decide | omega | (simp; done)); done)); (focus ((first | decide | omega | (simp; done) | (simp; omega)); done))) | (refine ixJ' (Int.toNat _) ?_ ?_ ?_; (focus ((first | rfl | decide | omega | (simp; done)); done)); (focus ((first | decide | omega | (simp; done) | (simp; omega)); done))) | with_reducible refine ixS _ rfl (by assumption) ?_ | (with_reducible refine shlI ?_ ?_; (focus (first | decide | omega))) | (refine exI (callZ rfl rfl (if_pos ?_)) ?_; (focus ((first | decide | omega | (simp; done) | (simp; omega)); done)))))
    all_goals rfl
  · have e : partsV k = .tuple [.agg [.bool false, .bool false, .bool false, .int .i64 0, .bool false, .bool false], .bool false] := by
      have h1 : isK k = false := by unfold isK; simpa using fun h => by omega
      simp only [partsV, hX, hT, h1, Bool.false_and, Bool.false_eq_true, if_false]
      unfold hasN hasL hasO hasE
      have : (k == 1) = false ∧ (k == 2) = false ∧ (k == 4) = false ∧ (k == 5) = false ∧ (k == 6) = false ∧ (k == 10) = false := by simp only [beq_eq_false_iff_ne]; omega
      obtain ⟨a, b, c, d, e, f⟩ := this
      simp only [a, b, c, d, e, f, Bool.false_or]
      have g1 : decide (2 ≤ k ∧ k ≤ 6) = false := by simpa using fun h => by omega
      have g2 : decide (2 ≤ k ∧ k ≤ 7) = false := by simpa using fun h => by omega
      rw [g1, g2]
    rw [e]
    have n1 : (k == 1) = false := by simp only [beq_eq_false_iff_ne]; omega
    have n2 : (k == 2) = false := by simp only [beq_eq_false_iff_ne]; omega
    have n3 : (k == 3) = false := by simp only [beq_eq_false_iff_ne]; omega
    have n4 : (k == 4) = false := by simp only [beq_eq_false_iff_ne]; omega
    have n5 : (k == 5) = false := by simp only [beq_eq_false_iff_ne]; omega
    have n6 : (k == 6) = false := by simp only [beq_eq_false_iff_ne]; omega
    have n7 : (k == 7) = false := by simp only [beq_eq_false_iff_ne]; omega
    have n8 : (k == 8) = false := by simp only [beq_eq_false_iff_ne]; omega
    have n9 : (k == 9) = false := by simp only [beq_eq_false_iff_ne]; omega
    have n10 : (k == 10) = false := by simp only [beq_eq_false_iff_ne]; omega
    have n11 : (k == 11) = false := by simp only [beq_eq_false_iff_ne]; omega
    refine fn_val follows noNum none_sound Tryd.func76 rfl ?_
    repeat' ((conv => whnf); first | (with_reducible refine condF ?_ ?_; (focus (assumption))) | (first | (with_reducible refine condT ?_ ?_; (focus ((first | assumption | decide | (simp; done) | (simp; omega)); done))) | (with_reducible refine condF ?_ ?_; (focus ((first | assumption | decide | (simp; done) | (simp; omega)); done))) | with_reducible refine condB (fun h => ?_) (fun h => ?_) | with_reducible refine exI rfl ?_ | with_reducible refine eqR rfl ?_ | (with_reducible refine exW (wrapN1 ?_) ?_; (focus (omega))) | (with_reducible refine exW (wrapN ?_) ?_; (focus (omega))) | (with_reducible refine exW (wrapB ?_ ?_) ?_; (focus (omega)); (focus (omega))) | with_reducible refine exW rfl ?_ | (with_reducible refine ixJ _ rfl ?_ ?_; (focus ((first | decide | omega | (simp; done) | (simp; omega)); done))) | (with_reducible refine ixJ' _ rfl ?_ ?_; (focus ((first | decide | omega | (simp; done) | (simp; omega)); done))) | (refine ixJ (Int.toNat _) ?_ ?_ ?_; (focus ((first | rfl | decide | omega | (simp; done)); done)); (focus ((first | decide | omega | (simp; done) | (simp; omega)); done))) | (refine ixJ' (Int.toNat _) ?_ ?_ ?_; (focus ((first | rfl | decide | omega | (simp; done)); done)); (focus ((first | decide | omega | (simp; done) | (simp; omega)); done))) | with_reducible refine ixS _ rfl (by assumption) ?_ | (with_reducible refine shlI ?_ ?_; (focus (first | decide | omega))) | (refine exI (callZ rfl rfl (if_pos ?_)) ?_; (focus ((first | decide | omega | (simp; done) | (simp; omega)); done)))))
    all_goals rfl
/-- What the document asks of one statement. -/
def ownD (n lo o t e is : Bool) (x : Int) (name loc : List UInt8) (order : Int) (nx nt ne : Nat) : Bool :=
  is && ((n == wordB name) && ((n || name == []) && ((lo == wordB loc) && ((lo || loc == []) && (decide ((nx : Int) = x) && ((t || decide (nt = 0)) && ((e || decide (ne = 0)) && (if o then decide (1 ≤ order ∧ order ≤ 6) else order == 0))))))))
theorem isW_eq (m : Bool) (s : List UInt8) : isW m s = ((m == wordB s) && (m || s == [])) := by
  unfold isW
  cases m with
  | true => simp
  | false =>
    by_cases h : s = []
    · subst h; rfl
    · simp [h]
theorem ownD_eq (k : Int) (name loc : List UInt8) (order : Int) (nx nt ne : Nat) : ownD (hasN k) (hasL k) (hasO k) (hT k) (hasE k) (isK k) (hX k) name loc order nx nt ne = ownSF k name loc order nx nt ne := by
  unfold ownD ownSF
  rw [isW_eq, isW_eq]
  cases hk : isK k with
  | false => unfold isK at hk; rw [hk]; simp
  | true =>
    have h2 : decide (1 ≤ k ∧ k ≤ 11) = true := hk
    have h3 : decide ((nx : Int) = (hasX k : Int)) = decide (nx = hasX k) := by rw [decide_eq_decide]; omega
    simp only [h2, hX, hT, hk, if_true, Bool.true_and, h3]
    rw [Bool.eq_iff_iff]
    simp only [Bool.and_eq_true]
    constructor
    · rintro ⟨a, b, c, d, e, f, g, h⟩; exact ⟨⟨a, b⟩, ⟨c, d⟩, h, e, f, g⟩
    · rintro ⟨⟨a, b⟩, ⟨c, d⟩, h, e, f, g⟩; exact ⟨a, b, c, d, e, f, g, h⟩
theorem rightSL_take : ∀ (l : List St) (i : Nat) (h : i < l.length), rightSL (l.take (i + 1)) = (rightSL (l.take i) && rightS l[i])
  | e :: l, 0, h => by simp only [List.take_succ_cons, List.take_zero, rightSL, List.getElem_cons_zero, Bool.and_true, Bool.true_and]
  | e :: l, i + 1, h => by
    have := rightSL_take l i (by simpa using h)
    simp only [List.take_succ_cons, rightSL, List.getElem_cons_succ] at this ⊢; rw [this, Bool.and_assoc]
theorem rightSL_get : ∀ {l : List St} {i : Nat} (h : i < l.length), rightS l[i] = false → rightSL l = false
  | e :: l, 0, h, h2 => by simp only [List.getElem_cons_zero] at h2; simp only [rightSL, h2, Bool.false_and]
  | e :: l, i + 1, h, h2 => by simp only [List.getElem_cons_succ] at h2; simp only [rightSL, rightSL_get (l := l) (by simpa using h) h2, Bool.and_false]
end Go.Proofs.YtajhailaofchlaaDoor.lex
end


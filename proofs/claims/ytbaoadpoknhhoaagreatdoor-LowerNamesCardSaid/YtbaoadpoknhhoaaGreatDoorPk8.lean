/-
  Texts of this proof, one behind the other (part 8).
-/
import Derived.Test.YtbaoadpoknhhoaaGreatDoorPk7
set_option linter.unusedVariables false
set_option linter.unusedSimpArgs false

section
namespace Go.Proofs.YtbaoadpoknhhoaaGreatDoor.lex
open Go.Abs Go.RowKit
set_option maxRecDepth 100000
set_option maxHeartbeats 4000000
def ckB (n : Nat) (g : Bool) : Z00 := [⟨true, 0, 0, .cells [.int .i64 n] 3⟩, ⟨true, 1, 0, .cells [.bool g] 4⟩, ⟨true, 2, 0, .cells [.func (.func 123) [] [.ptr 0 0]] 57⟩]
def ckH (s : Nat × Bool) : Z00 := [⟨true, 0, 0, .cells [.int .i64 s.1] 3⟩, ⟨true, 1, 0, .cells [.bool s.2] 4⟩, ⟨true, 2, 0, .cells [.func (.func 123) [] [.ptr 0 0]] 57⟩, ⟨true, 3, 0, .cells [.func (.func 81) [] [.ptr 2 0, .ptr 1 0]] 57⟩]
def lim (n : Nat) (d : Int) : Bool := decide (((n + 1 : Nat) : Int) <= 2000) && decide (d <= 32)
def ckE (_ : Ex) (d : Int) (s : Nat × Bool) : Bool × (Nat × Bool) := (lim s.1 d, (s.1 + 1, lim s.1 d))
def ckS (_ : St) (d : Int) (s : Nat × Bool) : Bool × (Nat × Bool) := (lim s.1 d, (s.1 + 1, lim s.1 d))
theorem Zjz (cs : List AV) (d : Int) (n : Nat) (g : Bool) (hn : n <= 2000) : Z10 Tryz.prog runLives.gl 124 [.rp cs, .int .i64 d, .ptr 3 0] (ckH (n, g)) (.bool (lim n d)) (ckH (n + 1, lim n d)) := by
 refine Z3c (k := 4) follows noNum (Z1G follows noNum Z0i 4) rfl Tryz.func124 rfl (Z3p (isC := fun _ => false) 4) ?_
 repeat' ((conv => whnf); first | refine stp ?_ | with_reducible refine Z05 (fun h => ?_) (fun h => ?_))
 all_goals (conv => whnf)
 all_goals (exact ⟨by unfold lim; rw [h]; rfl, by unfold lim; rw [h]; rfl, rfl⟩)
theorem Zjy (cs : List AV) (d : Int) (n : Nat) (g : Bool) (hn : n <= 2000) : Z10 Tryz.prog runLives.gl 125 [.rp cs, .int .i64 d, .ptr 3 0] (ckH (n, g)) (.bool (lim n d)) (ckH (n + 1, lim n d)) := by
 refine Z3c (k := 4) follows noNum (Z1G follows noNum Z0i 4) rfl Tryz.func125 rfl (Z3p (isC := fun _ => false) 4) ?_
 repeat' ((conv => whnf); first | refine stp ?_ | with_reducible refine Z05 (fun h => ?_) (fun h => ?_))
 all_goals (conv => whnf)
 all_goals (exact ⟨by unfold lim; rw [h]; rfl, by unfold lim; rw [h]; rfl, rfl⟩)
theorem Zif {a b : Nat × Bool} (h : ckH a = ckH b) : a = b := by
 simp only [ckH, List.cons.injEq, AObj.mk.injEq, ABody.cells.injEq, AV.int.injEq, AV.bool.injEq, and_true, true_and] at h
 obtain ⟨x, y⟩ := a
 obtain ⟨z, w⟩ := b
 simp only at h
 rw [show x = z by omega, h.2]
def tw (r : Bool × Nat) : Bool × (Nat × Bool) := (r.1, (r.2, r.1))
theorem Z4M {r : Bool × Nat} {f : Nat -> Bool × Nat} {f' : Nat × Bool -> Bool × (Nat × Bool)} (h : ∀ n, f' (n, true) = tw (f n)) : Z0F (tw r) f' = tw (Z0F r f) := by
 obtain ⟨b, n⟩ := r
 cases b with
 | true => exact h n
 | false => rfl
mutual
theorem Zjm : ∀ (e : Ex) (d : Int) (n : Nat), goE ckE e d (n, true) = tw (goE cE e d n)
 | .mk o num s k, d, n => by
  have e1 : goE ckE (.mk o num s k) d (n, true) = Z0F (tw (cE (.mk o num s k) d n)) fun s => goL ckE k (d + 1) s := by simp only [goE]; rfl
  have e2 : goE cE (.mk o num s k) d n = Z0F (cE (.mk o num s k) d n) fun s => goL cE k (d + 1) s := by simp only [goE, Z0F]
  rw [e1, e2]
  exact Z4M fun n => goL_ck k (d + 1) n
theorem goL_ck : ∀ (l : List Ex) (d : Int) (n : Nat), goL ckE l d (n, true) = tw (goL cE l d n)
 | [], d, n => by simp only [goL, tw]
 | e :: l, d, n => by
  have e1 : goL ckE (e :: l) d (n, true) = Z0F (goE ckE e d (n, true)) fun s => goL ckE l d s := by simp only [goL, Z0F]
  have e2 : goL cE (e :: l) d n = Z0F (goE cE e d n) fun s => goL cE l d s := by simp only [goL, Z0F]
  rw [e1, e2, Zjm e d n]
  exact Z4M fun n => goL_ck l d n
end
mutual
theorem Zjj : ∀ (x : St) (d : Int) (n : Nat), goS ckE ckS x d (n, true) = tw (goS cE cS x d n)
 | .mk k nm lc o x t e, d, n => by
  simp only [goS]
  rw [show ckS (.mk k nm lc o x t e) d (n, true) = tw (cS (.mk k nm lc o x t e) d n) from rfl]
  exact Z4M fun n => by
   rw [goL_ck x (d + 1) n]
   exact Z4M fun n => by
    rw [goSL_ck t (d + 1) n]
    exact Z4M fun n => goSL_ck e (d + 1) n
theorem goSL_ck : ∀ (l : List St) (d : Int) (n : Nat), goSL ckE ckS l d (n, true) = tw (goSL cE cS l d n)
 | [], d, n => by simp only [goSL, tw]
 | e :: l, d, n => by
  simp only [goSL]
  rw [Zjj e d n]
  exact Z4M fun n => goSL_ck l d n
end
theorem ZbD (d : Int) (s : Nat × Bool) (h : 0 <= d /\ d <= 33 /\ s.1 <= 2000) (ht : lim s.1 d = true) : 0 <= d + 1 /\ d + 1 <= 33 /\ s.1 + 1 <= 2000 :=
 have h2 : s.1 + 1 <= 2000 /\ d + 1 <= 33 := (Zaw d s.1).1.1 ht
 have h3 : 0 <= d := h.1
 ⟨by clear h ht h2; omega, h2.2, h2.1⟩
theorem Zjx (d : Int) (s : Nat × Bool) (h0 : 0 <= d) (h : 0 <= d + 1 /\ d + 1 <= 33 /\ s.1 <= 2000) : 0 <= d /\ d <= 33 /\ s.1 <= 2000 := ⟨h0, by have := h.2.1; clear h; omega, h.2.2⟩
theorem Zie (d : Int) (s : Nat × Bool) (h : 0 <= d /\ d <= 33 /\ s.1 <= 2000) : 0 <= d /\ d <= 1152921504606846976 := ⟨h.1, by have := h.2.1; clear h; omega⟩
def ckV : TvS runLives.gl where
 σ := Nat × Bool
 Mem := ckH
 k := 4
 len := fun _ => rfl
 same := fun s => ⟨⟨⟨rfl, rfl, rfl, rfl, BodyGe.pre (rest := []) rfl rfl⟩, ⟨rfl, rfl, rfl, rfl, BodyGe.pre (rest := []) rfl rfl⟩, ⟨rfl, rfl, rfl, rfl, BodyGe.cellsL ⟨Wk.func trivial ⟨Wk.ptr rfl rfl, trivial⟩, trivial⟩⟩, ⟨rfl, rfl, rfl, rfl, BodyGe.cellsL ⟨Wk.func trivial ⟨Wk.ptr rfl rfl, Wk.ptr rfl rfl, trivial⟩, trivial⟩⟩, trivial⟩, rfl, rfl⟩
 evo := fun _ _ => rfl
 inj := fun _ _ h => Zif h
 I := fun d s m => 0 <= d /\ d <= 33 /\ s.1 <= 2000
 up := fun d s m h0 h => Zjx d s h0 h
 less := fun d s m h => h
 bnd := fun d s m h => Zie d s h
 gE := 124
 cE := [.ptr 3 0]
 hE := ckE
 bodyE := by kernel_rfl
 wkE := ⟨Wk.ptr rfl rfl, trivial⟩
 okE := fun e rest d s m _ h => Zjz (e.cells ++ rest) d s.1 s.2 h.2.2
 downE := fun e d s m h ht => ZbD d s h ht
 gS := 125
 cS := [.ptr 3 0]
 hS := ckS
 bodyS := by kernel_rfl
 wkS := ⟨Wk.ptr rfl rfl, trivial⟩
 okS := fun x rest d s m _ h => Zjy (x.cells ++ rest) d s.1 s.2 h.2.2
 downS := fun e d s m h ht => ZbD d s h ht
def ckF : AV := .func (.func 124) [] [.ptr 3 0]
def ckG : AV := .func (.func 125) [] [.ptr 3 0]
theorem Zg0 (l : List St) (n : Nat) (hok : okSL l) (hl : l.length <= 9223372036854775807) (hn : n <= 2000) : Z10 Tryz.prog runLives.gl 83 [stA l, .int .i64 1, ckF, ckG] (ckH (n, true)) (.bool (goSL cE cS l 1 n).1) (ckH ((goSL cE cS l 1 n).2, (goSL cE cS l 1 n).1)) := by
 have := TvS.stmts ckV (sizeSL l) l 1 (n, true) 0 (Nat.le_refl _) hok hl ⟨by decide, by decide, hn⟩
 have e : goSL ckV.hE ckV.hS l 1 (n, true) = tw (goSL cE cS l 1 n) := goSL_ck l 1 n
 rw [e] at this
 exact this
def cnH (n : Nat) (g : Bool) (nd nt : Nat) (cd ct : List AV) : Z00 := [⟨true, 0, 0, .cells [.int .i64 n] 3⟩, ⟨true, 1, 0, .cells [.bool g] 4⟩, ⟨true, 2, 0, .cells [.func (.func 123) [] [.ptr 0 0]] 57⟩, ⟨true, 3, 0, .cells [.rs nd 3 cd, .rs nt 1 ct] 43⟩, ⟨true, 4, 0, .cells [.func (.func 81) [] [.ptr 2 0, .ptr 1 0]] 57⟩]
def cnF : AV := .func (.func 124) [] [.ptr 4 0]
def cnG : AV := .func (.func 125) [] [.ptr 4 0]
theorem Zkz (nd nt : Nat) (cd ct : List AV) (l : List St) (n : Nat) (hok : okSL l) (hl : l.length <= 9223372036854775807) (hn : n <= 2000) : Z10 Tryz.prog runLives.gl 83 [stA l, .int .i64 1, cnF, cnG] (cnH n true nd nt cd ct) (.bool (goSL cE cS l 1 n).1) (cnH (goSL cE cS l 1 n).2 (goSL cE cS l 1 n).1 nd nt cd ct) := by
 have hM := Zg0 l n hok hl hn
 generalize goSL cE cS l 1 n = r at *
 have h := Z9c (m := [0, 1, 2, 4]) (n := 5) (Hc := cnH n true nd nt cd ct) (cargs := [stA l, .int .i64 1, cnF, cnG]) hM ?_ ?_ rfl rfl rfl rfl rfl rfl
 · have e1 : ZbU [0, 1, 2, 4] (ckH (r.2, r.1)) 0 (cnH n true nd nt cd ct) = cnH r.2 r.1 nd nt cd ct := rfl
   rw [e1] at h
   exact h
 · rfl
 · exact ⟨⟨rfl, rfl, rfl, rfl, BodyGe.pre (rest := []) rfl rfl⟩, ⟨rfl, rfl, rfl, rfl, BodyGe.pre (rest := []) rfl rfl⟩, ⟨rfl, rfl, rfl, rfl, BodyGe.cellsL ⟨Wk.func trivial ⟨Wk.ptr rfl rfl, trivial⟩, trivial⟩⟩, ⟨rfl, rfl, rfl, rfl, BodyGe.cellsL ⟨Wk.func trivial ⟨Wk.ptr rfl rfl, Wk.ptr rfl rfl, trivial⟩, trivial⟩⟩, trivial⟩
def goT (g : List St -> Nat -> Bool × Nat) : List (List St) -> Nat -> Bool × Nat
 | [], n => (true, n)
 | l :: t, n => Z0F (g l n) fun n => goT g t n
theorem ZgB {g : List St -> Nat -> Bool × Nat} : ∀ (t : List (List St)) (n i : Nat) (hi : i < t.length), (goT g (t.take i) n).1 = true -> goT g (t.take (i + 1)) n = g t[i] (goT g (t.take i) n).2
 | e :: l, n, 0, _, _ => by
  simp only [List.take_zero, List.take_succ_cons, goT, List.getElem_cons_zero, Z0F]
  split
  · rename_i h2; rw [<- h2]
  · rename_i h2; rw [<- Bool.eq_false_iff.2 h2]
 | e :: l, n, i + 1, hi, ht => by
  simp only [List.take_succ_cons, goT, List.getElem_cons_succ, Z0F] at ht ⊢
  split
  · rename_i h2
    rw [if_pos h2] at ht
    exact ZgB l _ i (by simpa using hi) ht
  · rename_i h2; rw [if_neg h2] at ht; cases ht
theorem Zbl {g : List St -> Nat -> Bool × Nat} : ∀ (t : List (List St)) (n i : Nat), (goT g (t.take i) n).1 = false -> goT g t n = goT g (t.take i) n
 | [], n, i, hf => by simp
 | e :: l, n, 0, hf => by simp only [List.take_zero, goT] at hf; cases hf
 | e :: l, n, i + 1, hf => by
  simp only [List.take_succ_cons, goT, Z0F] at hf ⊢
  split
  · rename_i h2
    rw [if_pos h2] at hf
    exact Zbl l _ i hf
  · rfl
def cT (ts : List (List St)) (n : Nat) : Bool × Nat := goT (fun l n => goSL cE cS l 1 n) ts n
theorem Zey : ∀ (ts : List (List St)) (n : Nat), n <= 2000 -> Cnt (cT ts n) n (Z2r ts) (1 + Z7O ts)
 | [], n, h => by
  simp only [cT, goT, Z2r, Z7O]
  exact ⟨⟨fun _ => by omega, fun _ => rfl⟩, fun _ => rfl⟩
 | l :: t, n, h => by
  have := Z2S (f := fun n => cT t n) (goSL_c l 1 n h (by omega)) fun h1 _ => Zey t _ h1
  refine Cnt.to this (by simp only [Z2r]) ?_
  simp only [Z7O]; omega
theorem Zfo (ts : List (List St)) (nd : Nat) (cd : List AV) (hok : Zho ts) (hl : ts.length <= 9223372036854775807) :
  Z10 Tryz.prog runLives.gl 80 [.agg [.rs nd 3 cd, .rs ts.length 1 (ts.map stA)], .func (.func 81) [] [.ptr 2 0, .ptr 1 0]] (ckB 0 true) (.tuple []) (ckB (cT ts 0).2 (cT ts 0).1) := by
 obtain ⟨O, hO, ⟨p1, -⟩, -⟩ := Z9o (P := Tryz.prog) (gl := runLives.gl) [{ I := List St × Nat, f := 83, G := (fun p => okSL p.1 /\ p.1.length <= 9223372036854775807 /\ p.2 <= 2000), A := (fun p => [stA p.1, .int .i64 1, cnF, cnG]), H := (fun p => cnH p.2 true nd ts.length cd (ts.map stA)), R := (fun p => .bool (goSL cE cS p.1 1 p.2).1), O := (fun p => cnH (goSL cE cS p.1 1 p.2).2 (goSL cE cS p.1 1 p.2).1 nd ts.length cd (ts.map stA)), body := (by kernel_rfl), inj := (fun p q _ _ ha hh => by simp only [List.cons.injEq, and_true] at ha; simp only [cnH, List.cons.injEq, AObj.mk.injEq, ABody.cells.injEq, AV.int.injEq, and_true, true_and] at hh; rw [Z3S ha, show p.2 = q.2 by omega]; exact ⟨rfl, rfl⟩), ok := (fun p hp => Zkz _ _ _ _ p.1 p.2 hp.1 hp.2.1 hp.2.2) }] [] rfl
 have q1 : ∀ l n, okSL l -> l.length <= 9223372036854775807 -> n <= 2000 -> Z0e Tryz.prog O (cnH n true nd ts.length cd (ts.map stA)) 83 [stA l, .int .i64 1, cnF, cnG] = some (.bool (goSL cE cS l 1 n).1, cnH (goSL cE cS l 1 n).2 (goSL cE cS l 1 n).1 nd ts.length cd (ts.map stA)) := fun l n h1 h2 h3 => p1 (l, n) ⟨h1, h2, h3⟩
 clear p1
 refine Z3c (k := 3) follows noNum hO rfl Tryz.func80 rfl (Z30 _ _) ?_
 repeat' ((conv => whnf); first | refine stp ?_ | with_reducible refine Z05 (fun h => ?_) (fun h => ?_))
 conv => whnf
 refine ⟨Nat, (fun i => i <= ts.length /\ (cT (ts.take i) 0).1 = true), (fun i => [(4, cnF), (5, cnG), (11, .rs ts.length 1 (ts.map stA)), (12, .int .i64 ts.length), (13, .int .i64 i)]), (fun i => cnH (cT (ts.take i) 0).2 true nd ts.length cd (ts.map stA)), (fun i => ts.length - i), ⟨0, ⟨Nat.zero_le _, rfl⟩, FgLK.mk [0, 1, 2, 3, 4] rfl rfl ?_ ⟨⟨rfl, rfl, rfl, rfl, BodyGe.pre (rest := []) rfl rfl⟩, ⟨rfl, rfl, rfl, rfl, BodyGe.pre (rest := []) rfl rfl⟩, ⟨rfl, rfl, rfl, rfl, BodyGe.cellsL ⟨Wk.func trivial ⟨Wk.ptr rfl rfl, trivial⟩, trivial⟩⟩, ⟨rfl, rfl, rfl, rfl, BodyGe.pre (rest := []) rfl rfl⟩, ⟨rfl, rfl, rfl, rfl, BodyGe.cellsL ⟨Wk.func trivial ⟨Wk.ptr rfl rfl, Wk.ptr rfl rfl, trivial⟩, trivial⟩⟩, trivial⟩ rfl⟩, ?_⟩
 · refine And.intro (Wk.func trivial ⟨Wk.ptr rfl rfl, trivial⟩) ?_
   refine And.intro (Wk.func trivial ⟨Wk.ptr rfl rfl, trivial⟩) ?_
   refine And.intro (Wk.noref rfl) ?_
   refine And.intro (Wk.int rfl) ?_
   exact ⟨Wk.int rfl, trivial⟩
 rintro i ⟨hi, hall⟩
 dsimp only
 have hb : (cT (ts.take i) 0).2 <= 2000 := by
  have h1 := Zey (ts.take i) 0 (by decide)
  rw [h1.2 hall]; exact (h1.1.1 hall).1
 by_cases hlt : i < ts.length
 · have e1 : decide ((i : Int) < (ts.length : Int)) = true := by simpa using hlt
   have hat : cT (ts.take (i + 1)) 0 = goSL cE cS ts[i] 1 (cT (ts.take i) 0).2 := ZgB ts 0 i hlt hall
   have hst : (cT (ts.take (i + 1)) 0).1 = false -> cT ts 0 = cT (ts.take (i + 1)) 0 := Zbl ts 0 (i + 1)
   have hx := th1 ts i hlt
   obtain ⟨k1, k2⟩ := Z24 hok _ (Z1a hlt)
   have q2 := q1 ts[i] (cT (ts.take i) 0).2 k1 k2 hb
   generalize (cT (ts.take i) 0).2 = n at *
   generalize ts[i] = l at *
   generalize goSL cE cS l 1 n = r at *
   obtain ⟨b, n2⟩ := r
   simp only [stA] at hx
   simp only [stA, cnF, cnG, cnH] at q2
   cases b with
   | true =>
    repeat' ((conv => whnf); first | (refine exI hx ?_) | (refine exI q2 ?_) | (with_reducible refine ixJ i rfl ?_ ?_; (focus (omega))) | (first | refine stp ?_ | with_reducible refine Z05 (fun h => ?_) (fun h => ?_)))
    conv => whnf
    refine ⟨i + 1, ⟨hlt, by rw [hat]⟩, by show ts.length - (i + 1) < ts.length - i; omega, FgLK.mk [0, 1, 2, 3, 4] rfl rfl ?_ ⟨⟨rfl, rfl, rfl, rfl, ?_⟩, ⟨rfl, rfl, rfl, rfl, BodyGe.pre (rest := []) rfl rfl⟩, ⟨rfl, rfl, rfl, rfl, BodyGe.cellsL ⟨Wk.func trivial ⟨Wk.ptr rfl rfl, trivial⟩, trivial⟩⟩, ⟨rfl, rfl, rfl, rfl, BodyGe.pre (rest := []) rfl rfl⟩, ⟨rfl, rfl, rfl, rfl, BodyGe.cellsL ⟨Wk.func trivial ⟨Wk.ptr rfl rfl, Wk.ptr rfl rfl, trivial⟩, trivial⟩⟩, trivial⟩ rfl⟩
    · refine And.intro (Wk.func trivial ⟨Wk.ptr rfl rfl, trivial⟩) ?_
      refine And.intro (Wk.func trivial ⟨Wk.ptr rfl rfl, trivial⟩) ?_
      refine And.intro (Wk.noref rfl) ?_
      refine And.intro (Wk.int rfl) ?_
      exact ⟨Wk.int rfl, trivial⟩
    · rw [hat]
      exact BodyGe.pre (rest := []) rfl rfl
   | false =>
    rw [hst (by rw [hat]), hat]
    repeat' ((conv => whnf); first | (refine exI hx ?_) | (refine exI q2 ?_) | (with_reducible refine ixJ i rfl ?_ ?_; (focus (omega))) | (first | refine stp ?_ | with_reducible refine Z05 (fun h => ?_) (fun h => ?_)))
    all_goals (conv => whnf)
    all_goals (exact ⟨rfl, rfl⟩)
 · have e1 : decide ((i : Int) < (ts.length : Int)) = false := by simpa using hlt
   have hi2 : i = ts.length := by have := hi; omega
   subst hi2
   rw [List.take_length] at hall ⊢
   rw [hall]
   generalize (cT ts 0).2 = n at *
   repeat' ((conv => whnf); first | refine stp ?_ | with_reducible refine Z05 (fun h => ?_) (fun h => ?_))
   all_goals (conv => whnf)
   all_goals (exact ⟨rfl, rfl⟩)
end Go.Proofs.YtbaoadpoknhhoaaGreatDoor.lex
end

section
namespace Go.Proofs.YtbaoadpoknhhoaaGreatDoor.lex
open Go.Abs Go.RowKit
set_option maxRecDepth 100000
set_option maxHeartbeats 8000000
variable {gl : Glob}
def isK (k : Int) : Bool := decide (1 <= k /\ k <= 11)
def hX (k : Int) : Int := if isK k then Zjg k else 0
def hT (k : Int) : Bool := isK k && ZjQ k
end Go.Proofs.YtbaoadpoknhhoaaGreatDoor.lex
end

section
namespace Go.Proofs.YtbaoadpoknhhoaaGreatDoor.lex
open Go.Abs Go.RowKit
set_option maxRecDepth 100000
set_option maxHeartbeats 4000000
variable {gl : Glob}
def dcB (d : Dc) : Bool := Z49 d.name && decide (0 <= d.val)
def Z0V : List (List St) -> Bool
 | [] => true
 | l :: t => rightSL l && Z0V t
def Z4y (p : Pr) : Int := if 2000 < Z2r p.threads \/ 32 < Z7O p.threads then 3 else if p.decls.all dcB && Z0V p.threads then 0 else 2
theorem Z5c : ∀ (l : List (List St)) (i : Nat) (h : i < l.length), Z0V (l.take (i + 1)) = (Z0V (l.take i) && rightSL l[i])
 | e :: l, 0, h => by simp only [List.take_succ_cons, List.take_zero, Z0V, List.getElem_cons_zero, Bool.and_true, Bool.true_and]
 | e :: l, i + 1, h => by
  have := Z5c l i (by simpa using h)
  simp only [List.take_succ_cons, Z0V, List.getElem_cons_succ] at this ⊢; rw [this, Bool.and_assoc]
theorem Z66 : ∀ {l : List (List St)} {i : Nat} (h : i < l.length), rightSL l[i] = false -> Z0V l = false
 | e :: l, 0, h, h2 => by simp only [List.getElem_cons_zero] at h2; simp only [Z0V, h2, Bool.false_and]
 | e :: l, i + 1, h, h2 => by simp only [List.getElem_cons_succ] at h2; simp only [Z0V, Z66 (l := l) (by simpa using h) h2, Bool.and_false]
theorem ZbH {α : Type} (f : α -> Bool) : ∀ (l : List α) (i : Nat) (h : i < l.length), (l.take (i + 1)).all f = ((l.take i).all f && f l[i])
 | e :: l, 0, h => by simp
 | e :: l, i + 1, h => by
  have := ZbH f l i (by simpa using h)
  simp only [List.take_succ_cons, List.all_cons, List.getElem_cons_succ] at this ⊢; rw [this, Bool.and_assoc]
theorem Ziu {α : Type} (f : α -> Bool) {l : List α} {i : Nat} (h : i < l.length) (h2 : f l[i] = false) : l.all f = false := by
 rw [List.all_eq_false]; exact ⟨_, Z1a h, by simp [h2]⟩
end Go.Proofs.YtbaoadpoknhhoaaGreatDoor.lex
end

section
namespace Go.Proofs.YtbaoadpoknhhoaaGreatDoor.lex
open Go.Abs Go.RowKit
set_option maxRecDepth 100000
set_option maxHeartbeats 4000000
def chC (ds : List Dc) (ts : List (List St)) (n : Nat) (g : Bool) : Z00 := [⟨true, 0, 0, .cells [.rs ds.length 3 (dcC ds), .rs ts.length 1 (ts.map stA)] 43⟩, ⟨true, 1, 0, .cells [.int .i64 n] 3⟩, ⟨true, 2, 0, .cells [.bool g] 4⟩, ⟨true, 3, 0, .cells [.func (.func 123) [] [.ptr 1 0]] 57⟩]
theorem Zid (ds : List Dc) (ts : List (List St)) (hok : Zho ts) (hl : ts.length <= 9223372036854775807) :
  Z10 Tryz.prog runLives.gl 80 [.agg [.rs ds.length 3 (dcC ds), .rs ts.length 1 (ts.map stA)], .func (.func 81) [] [.ptr 3 0, .ptr 2 0]] (chC ds ts 0 true) (.tuple []) (chC ds ts (cT ts 0).2 (cT ts 0).1) := by
 have hM := Zfo ts ds.length (dcC ds) hok hl
 have h := Z9c (m := [1, 2, 3]) (n := 4) (Hc := chC ds ts 0 true) (cargs := [.agg [.rs ds.length 3 (dcC ds), .rs ts.length 1 (ts.map stA)], .func (.func 81) [] [.ptr 3 0, .ptr 2 0]]) hM ?_ ?_ rfl rfl rfl rfl rfl rfl
 · exact h
 · rfl
 · exact ⟨⟨rfl, rfl, rfl, rfl, BodyGe.pre (rest := []) rfl rfl⟩, ⟨rfl, rfl, rfl, rfl, BodyGe.pre (rest := []) rfl rfl⟩, ⟨rfl, rfl, rfl, rfl, BodyGe.cellsL ⟨Wk.func trivial ⟨Wk.ptr rfl rfl, trivial⟩, trivial⟩⟩, trivial⟩
theorem Zic (ts : List (List St)) : (cT ts 0).1 = true ↔ ¬ (2000 < Z2r ts \/ 32 < Z7O ts) := by
 rw [(Zey ts 0 (by decide)).1]; omega
theorem Zcs (p : Pr) (hok : okP p) (hs : Z2r p.threads <= 1000000) : ValOK Tryz.prog runLives.gl 48 [p.av] (.int .i64 (Z4y p)) := by
 obtain ⟨⟨hd1, hd2⟩, ht1, ht2⟩ := hok
 obtain ⟨ds, ts⟩ := p
 have hsay := Zic ts
 simp only [Pr.av, Z4y] at *
 obtain ⟨O, hO, ⟨p1, -⟩, ⟨p2, p3, -⟩⟩ := Z9o (P := Tryz.prog) (gl := runLives.gl) [{ I := Unit, f := 80, G := (fun _ => True), A := (fun _ => [.agg [.rs ds.length 3 (dcC ds), .rs ts.length 1 (ts.map stA)], .func (.func 81) [] [.ptr 3 0, .ptr 2 0]]), H := (fun _ => chC ds ts 0 true), R := (fun _ => .tuple []), O := (fun _ => chC ds ts (cT ts 0).2 (cT ts 0).1), body := (by kernel_rfl), inj := (fun _ _ _ _ _ _ => ⟨rfl, rfl⟩), ok := (fun _ _ => Zid ds ts ht1 ht2) }]
  [{ I := List St, f := 83, G := (fun x => x ∈ ts), A := (fun x => [stA x, .int .i64 1, .func (.func 84) [] [], .func (.func 85) [] []]), R := (fun x => .bool (rightSL x)), body := (by kernel_rfl), inj := (fun i j _ _ h => by simp only [List.cons.injEq, and_true] at h; rw [Z3S h]), ok := (fun x hx => ⟨rfl, Zh3 x 1 (Z24 ht1 _ hx).1 (Z24 ht1 _ hx).2 (by decide) (by have := Z3t _ _ hx; omega)⟩) },
   { I := List UInt8, f := 82, G := (fun s => s.length <= 9223372036854775807), A := (fun s => [.str s, .bool true]), R := (fun s => .bool (Z49 s)), body := (by kernel_rfl), inj := (fun i j _ _ h => by simp only [List.cons.injEq, AV.str.injEq, and_true] at h; rw [h]), ok := (fun s hs => ⟨rfl, Z9g s hs true⟩) }] rfl
 have q1 : Z0e Tryz.prog O (chC ds ts 0 true) 80 [.agg [.rs ds.length 3 (dcC ds), .rs ts.length 1 (ts.map stA)], .func (.func 81) [] [.ptr 3 0, .ptr 2 0]] = some (.tuple [], chC ds ts (cT ts 0).2 (cT ts 0).1) := p1 () trivial
 have q2 : ∀ x ∈ ts, ∀ H, Z0e Tryz.prog O H 83 [stA x, .int .i64 1, .func (.func 84) [] [], .func (.func 85) [] []] = some (.bool (rightSL x), H) := p2
 have q3 : ∀ s, s.length <= 9223372036854775807 -> ∀ H, Z0e Tryz.prog O H 82 [.str s, .bool true] = some (.bool (Z49 s), H) := p3
 clear p1 p2 p3
 generalize (cT ts 0).2 = n at *
 generalize (cT ts 0).1 = b at *
 refine Zan (fun g => Nat.beq g 80 || (Nat.beq g 83 || Nat.beq g 82)) 1 follows noNum hO Tryz.func48 rfl ?_
 cases b with
 | false =>
  rw [if_pos (Classical.not_not.1 fun h => by have := hsay.2 h; cases this)]
  repeat' ((conv => whnf); first | (refine exI q1 ?_) | (first | refine stp ?_ | with_reducible refine Z05 (fun h => ?_) (fun h => ?_)))
  all_goals (conv => whnf)
  all_goals rfl
 | true =>
  rw [if_neg (hsay.1 rfl)]
  repeat' ((conv => whnf); first | (refine exI q1 ?_) | (first | refine stp ?_ | with_reducible refine Z05 (fun h => ?_) (fun h => ?_)))
  conv => whnf
  refine ⟨Nat, (fun i => i <= ds.length /\ (ds.take i).all dcB = true), (fun i => [(1, .ptr 0 0), (16, .rs ds.length 3 (dcC ds)), (17, .int .i64 ds.length), (18, .int .i64 i)]), (fun _ => [⟨true, 0, 0, .cells [.rs ds.length 3 (dcC ds), .rs ts.length 1 (ts.map stA)] 43⟩]), (fun i => ds.length - i), ⟨0, ⟨Nat.zero_le _, rfl⟩, FgL.mk [0] rfl ?_ ⟨⟨rfl, rfl, rfl, rfl, BodyGe.pre (rest := []) rfl rfl⟩, trivial⟩ rfl⟩, ?_⟩
  · (repeat (first | exact trivial | refine stw ?_))
  rintro i ⟨hi, hall⟩
  dsimp only
  by_cases hlt : i < ds.length
  · have e1 : decide ((i : Int) < (ds.length : Int)) = true := by simpa using hlt
    have hat := ZbH dcB ds i hlt
    rw [hall, Bool.true_and] at hat
    have hfalse : dcB ds[i] = false -> ds.all dcB = false := Ziu dcB hlt
    have hx3 := dc3 ds i hlt
    have qn := q3 ds[i].name (hd2 _ (Z1a hlt))
    generalize hd : ds[i] = d at *
    obtain ⟨nm, pl, vl⟩ := d
    simp only [dcB, Dc.cells] at hat hfalse hx3 qn
    generalize Z49 nm = w at *
    by_cases hv : 0 <= vl
    · have e3 : decide (vl < 0) = false := by simpa using hv
      rw [show decide (0 <= vl) = true from by simpa using hv, Bool.and_true] at hat hfalse
      cases w with
      | true =>
       repeat' ((conv => whnf); first | (with_reducible refine exI (qn _) ?_) | (with_reducible refine ixJ i rfl ?_ ?_; (focus (omega))) | (refine exI hx3 ?_) | (first | refine stp ?_ | with_reducible refine Z05 (fun h => ?_) (fun h => ?_)))
       conv => whnf
       refine ⟨i + 1, ⟨hlt, hat⟩, by show ds.length - (i + 1) < ds.length - i; omega, FgL.mk [0] rfl ?_ ⟨⟨rfl, rfl, rfl, rfl, BodyGe.pre (rest := []) rfl rfl⟩, trivial⟩ rfl⟩
       (repeat (first | exact trivial | refine stw ?_))
      | false =>
       rw [hfalse rfl]
       repeat' ((conv => whnf); first | (with_reducible refine exI (qn _) ?_) | (with_reducible refine ixJ i rfl ?_ ?_; (focus (omega))) | (refine exI hx3 ?_) | (first | refine stp ?_ | with_reducible refine Z05 (fun h => ?_) (fun h => ?_)))
       all_goals rfl
    · have e3 : decide (vl < 0) = true := by simp only [decide_eq_true_eq]; omega
      rw [show decide (0 <= vl) = false from by simpa using hv, Bool.and_false] at hat hfalse
      rw [hfalse rfl]
      cases w
      all_goals (repeat' ((conv => whnf); first | (with_reducible refine exI (qn _) ?_) | (with_reducible refine ixJ i rfl ?_ ?_; (focus (omega))) | (refine exI hx3 ?_) | (first | refine stp ?_ | with_reducible refine Z05 (fun h => ?_) (fun h => ?_))))
      all_goals rfl
  · have e1 : decide ((i : Int) < (ds.length : Int)) = false := by simpa using hlt
    have hi2 : i = ds.length := by have := hi; omega
    subst hi2
    rw [List.take_length] at hall
    rw [hall, Bool.true_and]
    repeat' ((conv => whnf); first | refine stp ?_ | with_reducible refine Z05 (fun h => ?_) (fun h => ?_))
    conv => whnf
    refine ⟨Nat, (fun i => i <= ts.length /\ Z0V (ts.take i) = true), (fun i => [(33, .rs ts.length 1 (ts.map stA)), (34, .int .i64 ts.length), (35, .int .i64 i)]), (fun _ => []), (fun i => ts.length - i), ⟨0, ⟨Nat.zero_le _, rfl⟩, FgL.mk0 rfl ?_⟩, ?_⟩
    · (repeat (first | exact trivial | refine stw ?_))
    rintro i ⟨hi, hrl⟩
    dsimp only
    by_cases hlt : i < ts.length
    · have e1 : decide ((i : Int) < (ts.length : Int)) = true := by simpa using hlt
      have hat := Z5c ts i hlt
      rw [hrl, Bool.true_and] at hat
      have hfalse : rightSL ts[i] = false -> Z0V ts = false := Z66 hlt
      have hx := th1 ts i hlt
      have qr := q2 ts[i] (Z1a hlt)
      generalize ts[i] = l at *
      simp only [stA] at hx qr
      cases hr : rightSL l with
      | true =>
       rw [hr] at hat qr
       repeat' ((conv => whnf); first | (with_reducible refine exI (qr _) ?_) | (with_reducible refine ixJ i rfl ?_ ?_; (focus (omega))) | (refine exI hx ?_) | (refine exI (qr _) ?_) | (first | refine stp ?_ | with_reducible refine Z05 (fun h => ?_) (fun h => ?_)))
       conv => whnf
       refine ⟨i + 1, ⟨hlt, hat⟩, by show ts.length - (i + 1) < ts.length - i; omega, FgL.mk0 rfl ?_⟩
       (repeat (first | exact trivial | refine stw ?_))
      | false =>
       rw [hr] at qr
       rw [hfalse hr]
       repeat' ((conv => whnf); first | (with_reducible refine exI (qr _) ?_) | (with_reducible refine ixJ i rfl ?_ ?_; (focus (omega))) | (refine exI hx ?_) | (refine exI (qr _) ?_) | (first | refine stp ?_ | with_reducible refine Z05 (fun h => ?_) (fun h => ?_)))
       all_goals rfl
    · have e1 : decide ((i : Int) < (ts.length : Int)) = false := by simpa using hlt
      have hi2 : i = ts.length := by have := hi; omega
      subst hi2
      rw [List.take_length] at hrl
      rw [hrl]
      repeat' ((conv => whnf); first | refine stp ?_ | with_reducible refine Z05 (fun h => ?_) (fun h => ?_))
      all_goals rfl
end Go.Proofs.YtbaoadpoknhhoaaGreatDoor.lex
end

section
namespace Go.Proofs.YtbaoadpoknhhoaaGreatDoor.lex
open Go.Abs Go.RowKit
set_option maxRecDepth 100000
set_option maxHeartbeats 4000000
variable {gl : Glob}
def Z1h {α : Type} (g : Nat -> Option α) : Nat -> Option α
 | 0 => none
 | n + 1 => match Z1h g n with | some a => some a | none => g n
theorem Z2Q {α : Type} {g : Nat -> Option α} {i : Nat} (h : Z1h g i = none) : Z1h g (i + 1) = g i := by simp only [Z1h, h]
theorem firstO_stop {α : Type} {g : Nat -> Option α} {a : α} : ∀ {n i : Nat}, i <= n -> Z1h g i = some a -> Z1h g n = some a
 | 0, i, h, e => by have : i = 0 := by omega
                    subst this; exact e
 | n + 1, i, h, e => by
  by_cases hi : i = n + 1
  · subst hi; exact e
  · simp only [Z1h, firstO_stop (n := n) (by omega) e]
theorem Z6A {α : Type} {g : Nat -> Option α} {a : α} {n i : Nat} (hi : i < n) (h : Z1h g i = none) (e : g i = some a) : Z1h g n = some a :=
 firstO_stop (i := i + 1) hi ((Z2Q h).trans e)
theorem Z5l {α : Type} {g g' : Nat -> Option α} : ∀ {n : Nat}, (∀ i, i < n -> g i = g' i) -> Z1h g n = Z1h g' n
 | 0, _ => rfl
 | n + 1, h => by simp only [Z1h, Z5l (n := n) fun i hi => h i (by omega), h n (by omega)]
abbrev W3 := Int × Int × Int
def gD (ds : List Dc) (i : Nat) : Option W3 := match ds[i]? with
 | some d => cond (noD d.name (ds.take i)) none (some (0, ((i : Nat) : Int), 6))
 | none => none
def gT (f : St -> Int) (ts : List (List St)) (i : Nat) : Option W3 := match ts[i]? with
 | some l => cond ((nbSL f l 0).2 == 0) none (some (((i + 1 : Nat) : Int), (((nbSL f l 0).1 : Nat) : Int), (nbSL f l 0).2))
 | none => none
def gR (ts : List (List St)) (i : Nat) : Option W3 := match ts[i]? with
 | some l => cond (decide (16 < (Z2g (Z70 l)).length)) (some (((i + 1 : Nat) : Int), 0, 3)) none
 | none => none
def ZfA (nd nt : Nat) : Bool := decide (nt < 1) || (decide (4 < nt) || decide (6 < nd))
def Zig (e : Int) (ds : List Dc) (ts : List (List St)) (f : St -> Int) : W3 :=
 cond (e == 0) (cond (ZfA ds.length ts.length) (0, 0, 3)
  (match Z1h (gD ds) ds.length with
    | some r => r
    | none => match Z1h (gT f ts) ts.length with
     | some r => r
     | none => match Z1h (gR ts) ts.length with
      | some r => r
      | none => (0, 0, 0))) (0, 0, e)
def ZiZ (r : W3) : AV := .tuple [.agg [.int .i64 r.1, .int .i64 r.2.1], .int .i64 r.2.2]
theorem Zkr {ds : List Dc} {i : Nat} (h : i < ds.length) : gD ds i = cond (noD ds[i].name (ds.take i)) none (some (0, ((i : Nat) : Int), 6)) := by simp [gD, h]
theorem ZhK {f : St -> Int} {ts : List (List St)} {i : Nat} (h : i < ts.length) : gT f ts i = cond ((nbSL f ts[i] 0).2 == 0) none (some (((i + 1 : Nat) : Int), (((nbSL f ts[i] 0).1 : Nat) : Int), (nbSL f ts[i] 0).2)) := by simp [gT, h]
theorem Zkq {ts : List (List St)} {i : Nat} (h : i < ts.length) : gR ts i = cond (decide (16 < (Z2g (Z70 ts[i])).length)) (some (((i + 1 : Nat) : Int), 0, 3)) none := by simp [gR, h]
end Go.Proofs.YtbaoadpoknhhoaaGreatDoor.lex
end

section
namespace Go.Abs
open Go.RowKit
def ZhJ (tm : Tr) : Nat -> Bool
 | 0 => true
 | n + 1 => tex tm n
def TsOf (tm : Tr) : List (Nat × AV) -> Prop
 | [] => True
 | x :: l => Z0I tm x.1 = some x.2 /\ TsOf tm l
section rel
variable {sn : Z0d} {ι : Z0a} {tm : Tr} {a : Act}
theorem ZhI (ht : TRel sn ι tm a) : ∀ {n : Nat}, ZhJ tm n = true -> n <= a.tmps.size
 | 0, _ => Nat.zero_le _
 | n + 1, h => ht.2 n h
theorem TsOf.tsr (ht : TRel sn ι tm a) : ∀ {ts : List (Nat × AV)}, TsOf tm ts -> TSR sn ι ts a.tmps
 | [], _ => trivial
 | x :: l, ⟨h1, h2⟩ => ⟨ht.1 _ _ h1, h2.tsr ht⟩
theorem TSR.look {tmps : Array Value} : ∀ {ts : List (Nat × AV)}, TSR sn ι ts tmps -> ∀ t u, Z0S t ts = some u -> ∃ v, tmps[t]? = some v /\ VR sn ι u v
 | [], _, t, u, e => by simp [Z0S] at e
 | (k, w) :: l, ⟨h1, h2⟩, t, u, e => by
  simp only [Z0S] at e
  split at e
  · rename_i hk
    have := Nat.eq_of_beq_eq_true hk; subst this
    simp at e; subst e
    exact h1
  · exact h2.look t u e
end rel
def rfK (P : Program) (cw : CW) : AV -> Array Tmp -> Code -> Code -> KN -> KX -> KN -> Tr -> Z00 -> Prop := fun v ps asg bd kn kx kr tm H =>
 match v with
 | .func (.func g) first caps => Z09 P g = true /\ ∃ (n : Nat) (ts : List (Nat × AV)), ZhJ tm n = true /\ TsOf tm ts /\ ∀ l : Nat,
  cw g (first ++ .func (.yield l) [] [] :: caps) (H ++ [⟨true, H.length, 0, .loop ⟨l, .ready, none, n, ps, asg, bd⟩ ts⟩]) fun _ H1 =>
   onO H1[H.length]? fun o => match o with
    | ⟨true, fam, sh, .loop g ts⟩ => g.st ≠ .busy /\ Z0O ((Z3o H.length fam H1).set H.length (AObj.dead ⟨true, fam, sh, .loop g ts⟩)) fun H2 => match g.pend with
     | none => kn tm H2
     | some .ret => kr tm H2
     | some (.exit id) => kx id tm H2
     | _ => False
    | _ => False
 | _ => False
theorem Z5W (W : World) (r : Nat) (o : Obj) : Turn W (W.putObj r o) r :=
 ⟨fun c hc => World.putObj_heap_other hc, by simp, rfl, rfl, rfl⟩
section stmt
variable {P : Program} {gl : Glob} {orc : Orc} {k : Nat}
theorem ZiY (hn : NoNum P) (hO : OrcSound P gl orc) {cw : CW} (hcw : Z9T P orc cw) : ZjZ P gl none k (rfK P cw) := by
 intro f v ps asg bd kn kx kr tm H hv h a W sn ι Q hg hR ht hQ
 unfold rfK at h
 split at h <;> try exact h.elim
 rename_i g first caps
 obtain ⟨hb, n, ts, h1, h2, h⟩ := h
 obtain ⟨f', c', hfv, hl1, hl2⟩ := (Z1S hg ht _ _ hv).func
 refine wpIn_rangeFunc fun fn _ => ?_
 obtain ⟨rec, hrec⟩ : ∃ rec : Loop, rec = { state := .ready, pending := none, fn, tmps := a.tmps, params := ps, assign := asg, body := bd, defers := W.heap.size } := ⟨_, rfl⟩
 have hfnn : ∃ fn, P.funcs[g]? = some fn := by
  unfold Z09 at hb
  cases hfn : P.funcs[g]? with
  | none => rw [hfn] at hb; cases hb
  | some fn => exact ⟨fn, rfl⟩
 obtain ⟨gfn, hgfn⟩ := hfnn
 obtain ⟨W1, hW1⟩ : ∃ W1, W1 = W.alloc (.deferred (some [])) := ⟨_, rfl⟩
 obtain ⟨W2, hW2⟩ : ∃ W2, W2 = W1.alloc (.loop rec) := ⟨_, rfl⟩
 have hsz1 : W1.heap.size = W.heap.size + 1 := by rw [hW1]; simp
 have hsz2 : W2.heap.size = W.heap.size + 2 := by rw [hW2]; simp [hsz1]
 have hs1 : Stp sn ι H W sn ι H W1 := Stp.ext hR (by rw [hW1]; exact Ext.alloc W _)
 obtain ⟨p, hp⟩ : ∃ p : Place, p = ⟨W1.heap.size, 0, 0⟩ := ⟨_, rfl⟩
 obtain ⟨o, ho⟩ : ∃ o : AObj, o = ⟨true, H.length, 0, .loop ⟨W1.heap.size, .ready, none, n, ps, asg, bd⟩ ts⟩ := ⟨_, rfl⟩
 have hs2 : Stp sn ι H W1 sn (upd ι H.length p) (H ++ [o]) W2 := by
  rw [hp, hW2]
  refine Stp.alloc hs1.rel o (.loop rec) 0 fun _ => ?_
  rw [ho]
  simp only [OR]
  exact ⟨rec, World.alloc_heap_new W1 _, trivial, ⟨by rw [hrec], by rw [hrec], by rw [hrec]; exact ZhI ht h1, by rw [hrec], by rw [hrec], by rw [hrec]⟩, by rw [hrec]; exact h2.tsr ht⟩
 have hs12 := Stp.trans hR hs1 hs2
 obtain ⟨r, H1, hc, h⟩ := hcw _ _ _ _ (h W1.heap.size)
 rw [<- ho] at hc
 have ha : LR sn (upd ι H.length p) (first ++ .func (.yield W1.heap.size) [] [] :: caps) (f'.toList ++ .func (.yield W1.heap.size) #[] #[] :: c'.toList) := by
  refine LR.append (LR_mono hs2.le _ _ hl1) ?_
  simp only [LR]
  exact ⟨_, _, rfl, by simp [VR, LR], LR_mono hs2.le _ _ hl2⟩
 unfold Z0e at hc
 rw [if_pos hb] at hc
 have hcall := (hO g _ _ r H1 hc sn _ W2 _ hg hs2.rel ha).calls hgfn
 have hbn : gfn.body.isNone = false := by
  unfold Z09 at hb
  rw [hgfn] at hb
  have hb : gfn.body.isSome = true := hb
  cases hfb : gfn.body with
  | none => rw [hfb] at hb; cases hb
  | some _ => rfl
 refine ⟨W1.heap.size, [Zco W.heap.size], W2, { target := .fn (.func g) c', args := f' ++ #[.func (.yield W1.heap.size) #[] #[]] }, W2, g, (f' ++ #[.func (.yield W1.heap.size) #[] #[]]) ++ c', W2, ?_, ?_, fun f' _ => trivial, ?_, fun h => (by cases h), Z6H.2 ?_⟩
 · rw [hsz1, hW2, hW1, hrec]; exact run_enterLoop_outer fn a.tmps ps asg bd
 · simp only [resolve, hfv, Deferred.ofValue]
   simp [go_sem]
 · simp only [invoke, callFunc, Sem.run_bind, run_program, Result.andThen_ok, hgfn, hn.num g gfn hgfn, hbn, Bool.false_eq_true, if_false]
   rfl
 · have hargs : ((f' ++ #[.func (.yield W1.heap.size) #[] #[]]) ++ c') = (f'.toList ++ Value.func (.yield W1.heap.size) #[] #[] :: c'.toList).toArray := by apply Array.ext'; simp
   rw [hargs]
   refine hcall.mono ?_
   rintro e W3 ⟨u, sn', ι', rfl, hu, hs⟩
   obtain ⟨o1, hb1, h⟩ := Z01 h
   split at h <;> try exact h.elim
   rename_i fam sh gg ts1
   obtain ⟨hst, h⟩ := h
   rw [Z06] at h
   have hpb : (upd ι H.length p) H.length = some p := Z3q _ _ _
   have hpb' : ι' H.length = some p := hs.le.ι _ _ hpb
   have hor := hs.rel.obj _ _ p hb1 rfl hpb'
   simp only [OR] at hor
   obtain ⟨r3, e1, e2, e3, e4⟩ := hor
   have hpk : p.blk = W1.heap.size := by rw [hp]
   rw [hpk] at e1
   obtain ⟨r4, hr4⟩ : ∃ r4 : Loop, r4 = { r3 with state := .exhausted } := ⟨_, rfl⟩
   have hs4 : Stp sn' ι' H1 W3 sn' ι' ((Z3o H.length fam H1).set H.length (AObj.dead ⟨true, fam, sh, .loop gg ts1⟩)) (W3.putObj W1.heap.size (.loop r4)) :=
    Stp.lose hs.rel (o := ⟨true, fam, sh, .loop gg ts1⟩) hb1 rfl hpb' (by rw [hpk]; exact Z5W W3 _ _)
   have hall := Stp.trans hR hs12 (Stp.trans hs12.rel hs hs4)
   have nott : ∀ (b : Nat) (q : Place), (upd ι H.length p) b = some q -> q.blk ≠ W.heap.size := by
    intro b q hq e
    unfold upd at hq
    split at hq
    · cases hq; omega
    · have := hR.blk b q hq; omega
   have hD : W3.heap[W.heap.size]? = some (.deferred (some [])) := by
    rw [hs.frame _ (by omega) fun b o q _ _ hq => nott b q hq, hs2.frame _ (by omega) fun b o q _ _ hq e => (by have := hR.blk b q hq; omega), hW1]
    exact World.alloc_heap_new W _
   have hdef : DefOK W a.defers ι' ((Z3o H.length fam H1).set H.length (AObj.dead ⟨true, fam, sh, .loop gg ts1⟩)) (W3.putObj W1.heap.size (.loop r4)) (Zco W.heap.size :: a.defers) := by
    refine ⟨[W.heap.size], rfl, by simp, fun D hD' => ?_⟩
    simp only [List.mem_singleton] at hD'
    subst hD'
    refine ⟨Nat.le_refl _, by rw [World.putObj_heap_other (by omega)]; exact hD, fun b o q _ _ hq e => ?_⟩
    rcases hs.fresh b q hq with f1 | f1 | ⟨b0, o0, p0, f1, f2, f3, f4⟩
    · exact nott b q f1 e
    · omega
    · exact nott b0 p0 f3 (f4.trans e)
   have htm : TRel sn' ι' tm { a with defers := Zco W.heap.size :: a.defers } := ht.mono (hs12.le.trans hs.le)
   refine ⟨r3.pending, W3.putObj W1.heap.size (.loop r4), by rw [hr4]; exact run_endLoop e1 (by rw [e3.st]; exact hst), ?_⟩
   rw [e3.pend]
   split at h
   · rename_i hpe
     rw [hpe]
     exact hQ .normal tm _ _ _ sn' ι' h (hall.q hR) htm hdef
   · rename_i hpe
     rw [hpe]
     exact wpIn_ret (hQ .ret tm _ _ _ sn' ι' h (hall.q hR) htm hdef)
   · rename_i id hpe
     rw [hpe]
     exact wpIn_exit (hQ (.exit id) tm _ _ _ sn' ι' h (hall.q hR) htm hdef)
   · exact h.elim
end stmt
def Z87 (H : Z00) (b : Nat) (was st : LoopState) (pf : Option Code -> Option Code) (k : Z00 -> Prop) : Prop :=
 onO H[b]? fun o => match o with
  | ⟨true, fam, sh, .loop g ts⟩ => g.st = was /\ Z0O ((Z3o b fam H).set b ⟨true, fam, sh, .loop { g with st := st, pend := pf g.pend } ts⟩) k
  | _ => False
def tmR (n : Nat) (ts : List (Nat × AV)) : Tr := Zcb (fun t => Z0S t ts) (tmk (fun i => if Nat.blt i n then some (.tuple []) else none) (Z7e 20 n))
def ZiH : List Nat -> List AV -> List (Nat × AV) -> List (Nat × AV)
 | p :: ps, u :: us, ts => ZiH ps us ((p, u) :: ts)
 | _, _, ts => ts
theorem Z8T {sn : Z0d} {ι : Z0a} {n : Nat} : ∀ {ps : List Nat} {us : List AV} {vs : List Value} {ts : List (Nat × AV)} {tmps : Array Value}, Z0T n ps = true -> n <= tmps.size -> ps.length = us.length -> LR sn ι us vs ->
  (∀ t u, Z0S t ts = some u -> ∃ v, tmps[t]? = some v /\ VR sn ι u v) ->
  n <= ((ps.zip vs).foldl (fun tmps x => tmps.setIfInBounds x.1 x.2) tmps).size /\ ∀ t u, Z0S t (ZiH ps us ts) = some u -> ∃ v, ((ps.zip vs).foldl (fun tmps x => tmps.setIfInBounds x.1 x.2) tmps)[t]? = some v /\ VR sn ι u v
 | [], [], vs, ts, tmps, hp, hn, hl, hv, h => by simpa [ZiH, hn] using h
 | p :: ps, u :: us, vs, ts, tmps, hp, hn, hl, hv, h => by
  simp only [Z0T, Bool.and_eq_true] at hp
  simp only [LR] at hv
  obtain ⟨d, ds, rfl, h1, h2⟩ := hv
  simp only [List.zip_cons_cons, List.foldl_cons, ZiH]
  have hpl : p < tmps.size := by have := ZeA hp.1; omega
  refine Z8T hp.2 (by simpa using hn) (by simpa using hl) h2 fun t u' e => ?_
  simp only [Z0S] at e
  split at e
  · rename_i hk
    have := Nat.eq_of_beq_eq_true hk; subst this
    simp at e; subst e
    exact ⟨d, by simp [hpl], h1⟩
  · rename_i hk
    obtain ⟨v, g1, g2⟩ := h t u' e
    exact ⟨v, by rw [Array.getElem?_setIfInBounds_ne (by rintro rfl; simp at hk)]; exact g1, g2⟩
 | [], _ :: _, _, _, _, _, _, hl, _, _ => by simp at hl
 | _ :: _, [], _, _, _, _, _, hl, _, _ => by simp at hl
section round
variable {P : Program} {gl : Glob} {orc : Orc} {k : Nat}
def ZhV (b k : Nat) (H0 : Z00) (ok : Bool) (pend : Option Code) (r : AV) (N : Z00) (H : Z00) : Prop :=
 Z87 H b .busy (match ok with | true => .ready | false => .done) (fun _ => pend) fun H => r = .bool ok /\ H.take k = N /\ Zcm k H0 N = true
theorem Z4m {sn : Z0d} {ι : Z0a} {H : Z00} {W : World} {b l : Nat} {was st : LoopState} {pf : Option Code -> Option Code} {K : Z00 -> Prop} (hR : R sn ι H W) (h : Z87 H b was st pf K) (hl : ∀ p, ι b = some p -> p.blk = l) :
  ∃ r : Loop, W.heap[l]? = some (.loop r) /\ r.state = was /\ ∃ H', K H' /\ ∀ r', r' = { r with state := st, pending := pf r.pending } -> Stp sn ι H W sn ι H' (W.putObj l (.loop r')) := by
 obtain ⟨o, hb, h⟩ := Z01 h
 split at h <;> try exact h.elim
 rename_i fam sh g ts
 obtain ⟨hst, h⟩ := h
 rw [Z06] at h
 obtain ⟨p, hp⟩ := hR.place hb
 have hor := hR.obj _ _ p hb rfl hp
 simp only [OR] at hor
 obtain ⟨r, e1, e2, e3, e4⟩ := hor
 have hpl := hl p hp
 rw [hpl] at e1
 refine ⟨r, e1, by rw [e3.st]; exact hst, _, h, fun r' hr' => ?_⟩
 refine Stp.write hR (o := ⟨true, fam, sh, .loop g ts⟩) hb rfl hp (by rw [hpl]; exact Z5W W l _) (.loop { g with st := st, pend := pf g.pend } ts) ?_
 simp only [OR]
 rw [hpl]
 refine ⟨r', World.putObj_heap_same (Array.getElem?_eq_some_iff.1 e1).1, by rw [<- hpl]; exact e2, ?_, by rw [hr']; exact e4⟩
 rw [hr']
 exact ⟨rfl, by rw [<- e3.pend], e3.n, e3.ps, e3.asg, e3.bd⟩
theorem ZcX (hm : P.follows .mixedOrders = true) (hn : NoNum P) (hO : OrcSound P gl orc) {b : Nat} {args : List AV} {H0 N : Z00} {r : AV} {fam sh : Nat} {g : ALoop} {ts : List (Nat × AV)} {cw : CW} (hcw : Z9T P orc cw)
  (hk : H0.length = k) (hb : H0[b]? = some ⟨true, fam, sh, .loop g ts⟩) (hps : g.ps.toList.length = args.length) (hpn : Z0T g.n g.ps.toList = true)
  (h : Z3U (tmR g.n (ZiH g.ps.toList args ts)) fun tm => Z1j P gl orc cw (Z79 k) g.asg
    (fun tm H => Z87 H b .ready .busy (fun p => p) fun H => Z1j P gl orc cw (Z79 k) g.bd (fun _ H => ZhV b k H0 true none r N H) (fun id _ H => ZhV b k H0 false (some (.exit id)) r N H) (fun _ H => ZhV b k H0 false (some .ret) r N H) tm H)
    (fun _ _ _ => False) (fun _ _ => False) tm H0) : Z10 P gl (Z6Y g.l) args H0 r N := by
 intro sn ι W cargs hg hR ha
 rw [Z2O] at h
 have hbk : b < k := by rw [<- hk]; exact (List.getElem?_eq_some_iff.1 hb).1
 obtain ⟨p, hp⟩ := hR.place hb
 have hor := hR.obj _ _ p hb rfl hp
 simp only [OR] at hor
 obtain ⟨rc, e1, e2, e3, e4⟩ := hor
 have keepl : ∀ {sn' : Z0d} {ι' : Z0a} {H' : Z00} {W' : World}, Stq k sn ι H0 W sn' ι' H' W' -> ∀ q, ι' b = some q -> q.blk = g.l := fun s q hq => by
  have := s.keep b p hbk hp
  rw [hq] at this; cases this; exact e2
 rw [e2] at e1
 have hcl : cargs.toArray.size = rc.params.size := by
  have := ha.length
  rw [e3.ps]
  simp only [List.size_toArray, this, <- hps, Array.length_toList]
 refine .inr ⟨g.l, rfl, hn.key _, _, _, _, _, run_yield e1 hcl, ?_⟩
 rw [e3.asg, e3.bd, e3.ps]
 have hfold : ∀ (l : Array Tmp) (vs : List Value) (t0 : Array Value), (l.zip vs.toArray).foldl (fun tmps x => match x with | (t, a) => tmps.setIfInBounds t a) t0 = (l.toList.zip vs).foldl (fun tmps x => tmps.setIfInBounds x.1 x.2) t0 := by
  intro l vs t0
  rw [<- Array.foldl_toList, Array.toList_zip]
 rw [hfold]
 obtain ⟨hsz, hlk⟩ := Z8T (ps := g.ps.toList) (us := args) (vs := cargs) (ts := ts) (tmps := rc.tmps) hpn e3.n hps ha (e4.look)
 have ht : TRel sn ι (tmR g.n (ZiH g.ps.toList args ts)) { tmps := (g.ps.toList.zip cargs).foldl (fun tmps x => tmps.setIfInBounds x.1 x.2) rc.tmps, defers := [] } := by
  refine ⟨fun t u e => hlk t u (Z5G _ _ _ _ e), fun t e => ?_⟩
  unfold tmR at e
  rw [Z8k] at e
  obtain ⟨u, hu⟩ := Z7Z _ _ _ e
  split at hu
  · rename_i hlt; exact Nat.lt_of_lt_of_le (ZeA hlt) hsz
  · cases hu
 refine roundIn_of_wpIn (F := Fq none) trivial ?_
 have fin : ∀ {ok : Bool} {pend : Option Code} {sn' : Z0d} {ι' : Z0a} {H' : Z00} {W' : World}, pend.isNone = ok -> Stq k sn ι H0 W sn' ι' H' W' -> ZhV b k H0 ok pend r N H' ->
   ∃ v w', (Instr.endRound g.l pend).run P W' = .ok v w' /\ ∃ v' sn2 ι2, Ending.returned v = .returned v' /\ VR sn2 ι2 r v' /\ Stp sn ι H0 W sn2 ι2 N w' := by
  intro ok pend sn' ι' H' W' hok s hf
  obtain ⟨r3, f1, f2, H3, ⟨rfl, g1, g2⟩, f3⟩ := Z4m s.rel hf (keepl s)
  have hst := f3 { r3 with state := if pend.isNone then .ready else .done, pending := pend } (by rw [hok]; cases ok <;> rfl)
  have hrun := run_endRound (P := P) pend f1
  have s3 := s.trans (hst.q s.rel)
  obtain ⟨ι2, k1, k2⟩ := Z7g hk hR s3 g1 g2
  exact ⟨_, _, hrun, _, sn', ι2, rfl, by rw [hok]; exact Za0 ok, k1⟩
 refine (ZaR (rd := some g.l) hm hn hO hcw g.asg h) _ W sn ι _ hg hR ht fun x tm1 H1 a1 W1 sn1 ι1 hx s1 t1 d1 => ?_
 cases x with
 | normal =>
  replace hx : Z87 H1 b .ready .busy (fun p => p) fun H => Z1j P gl orc cw (Z79 k) g.bd (fun _ H => ZhV b k H0 true none r N H) (fun id _ H => ZhV b k H0 false (some (.exit id)) r N H) (fun _ H => ZhV b k H0 false (some .ret) r N H) tm1 H := hx
  obtain ⟨r2, f1, f2, H2, hx, f3⟩ := Z4m s1.rel hx (keepl s1)
  have hst := f3 { r2 with state := .busy } rfl
  refine ⟨_, run_beginRound f1 f2, ?_⟩
  refine (ZaR (rd := some g.l) hm hn hO hcw g.bd hx) a1 _ sn1 ι1 _ (hg.mono (Z8o s1.le)) hst.rel (t1.mono hst.le) fun x tm2 H3 a3 W3 sn3 ι3 hx3 s3 t3 d3 => ?_
  have s := (s1.trans (hst.q s1.rel)).trans s3
  cases x with
  | normal => exact fin rfl s hx3
  | ret => exact fin rfl s hx3
  | exit id => exact fin rfl s hx3
 | exit id => exact hx.elim
 | ret => exact hx.elim
end round
section call
open Classical
theorem Zhl {I : Type} {G : I -> Prop} {fF : I -> Nat} {fA : I -> List AV} {fH : I -> Z00} {fR : I -> AV} {fO : I -> Z00} (hinj : ∀ i j, G i -> G j -> fF i = fF j -> fA i = fA j -> fH i = fH j -> fR i = fR j /\ fO i = fO j) {g : Nat} {args : List AV} {H : Z00} (i : I) (hi : G i) (h1 : fF i = g) (h2 : fA i = args) (h3 : fH i = H) :
  orcI G fF fA fH fR fO g args H = some (fR i, fO i) := by
 have hx : ∃ i, G i /\ fF i = g /\ fA i = args /\ fH i = H := ⟨i, hi, h1, h2, h3⟩
 unfold orcI
 rw [dif_pos hx]
 obtain ⟨g1, g2, g3, g4⟩ := Classical.choose_spec hx
 obtain ⟨e1, e2⟩ := hinj _ i g1 hi (g2.trans h1.symm) (g3.trans h2.symm) (g4.trans h3.symm)
 rw [e1, e2]
end call
theorem Ziz {P : Program} (hn : NoNum P) {O : Orc} {H : Z00} {l : Nat} {args : List AV} {x : AV × Z00} (h : O (Z6Y l) args H = some x) : Z0e P O H (Z6Y l) (Z8O l :: args) = some x := by
 have hk := hn.key l
 unfold Z0e
 rw [hn.noBody, if_neg (by decide)]
 simp only [Z5w, Z73, Z8t, hk, yl, Z8O, if_true]
 exact h
theorem Zga {P : Program} (hn : NoNum P) {O1 O2 : Orc} {H : Z00} {l : Nat} {args : List AV} {x : AV × Z00} (h : O1 (Z6Y l) args H = some x) : Z0e P (Z2h O1 O2) H (Z6Y l) (Z8O l :: args) = some x :=
 Ziz hn (by unfold Z2h; rw [h])
def Zgn : Code -> Option (Array Tmp × Code × Code)
 | .rangeFunc _ ps a b => some (ps, a, b)
 | .seq a b => match Zgn a with | some x => some x | none => Zgn b
 | .cond _ a b => match Zgn a with | some x => some x | none => Zgn b
 | .block _ b => Zgn b
 | .loop b => Zgn b
 | .scope b => Zgn b
 | _ => none
def Zln (c : Option Code) : Array Tmp × Code × Code := match c with
 | some c => match Zgn c with | some x => x | none => (#[], .skip, .skip)
 | none => (#[], .skip, .skip)
def Zci (k : Nat) : Z00 -> Bool
 | [] => true
 | o :: H => Z0T k (Z3H o.body []) && Zci k H
theorem Z9l {k : Nat} : ∀ {H : Z00} {b : Nat} {o : AObj}, Zci k H = true -> H[b]? = some o -> Z0T k (Z3H o.body []) = true
 | [], b, o, h, e => by simp at e
 | x :: H, 0, o, h, e => by simp only [Zci, Bool.and_eq_true] at h; simp at e; subst e; exact h.1
 | x :: H, b + 1, o, h, e => by simp only [Zci, Bool.and_eq_true] at h; exact Z9l h.2 (by simpa using e)
def Z3N (fs : List Nat) : Z00 -> Bool
 | [] => true
 | o :: H => !mem o.fam fs && Z3N fs H
theorem Z7r {fs : List Nat} : ∀ {X : Z00} {b : Nat} {o : AObj}, Z3N fs X = true -> X[b]? = some o -> o.fam ∉ fs
 | [], b, o, h, e => by simp at e
 | x :: X, 0, o, h, e => by
  simp only [Z3N, Bool.and_eq_true, Bool.not_eq_true'] at h
  simp at e; subst e
  intro hm; rw [mem_iff.2 hm] at h; cases h.1
 | x :: X, b + 1, o, h, e => by simp only [Z3N, Bool.and_eq_true] at h; exact Z7r h.2 (by simpa using e)
theorem Zdk {P : Program} {gl : Glob} {f : Nat} {args : List AV} {H H' : Z00} {r : AV} (hM : Z10 P gl f args H r H') (X : Z00) (hl : H'.length = H.length) (ha : Z0T H.length (refsL args []) = true) (hb : Zci H.length H = true) (hX : Z3N (H.map (·.fam)) X = true) : Z10 P gl f args (H ++ X) r (H' ++ X) := by
 intro sn ι W cargs hg hR hargs
 let ι0 : Z0a := fun b => if b < H.length then ι b else none
 have i0 : ∀ b, b < H.length -> ι0 b = ι b := fun b h => if_pos h
 have i0' : ∀ b p, ι0 b = some p -> b < H.length /\ ι b = some p := fun b p h => by
  have h : (if b < H.length then ι b else none) = some p := h
  split at h
  · exact ⟨by assumption, h⟩
  · cases h
 have gH : ∀ (b : Nat) (o : AObj), H[b]? = some o -> (H ++ X)[b]? = some o := fun b o h => by
  rw [List.getElem?_append_left (List.getElem?_eq_some_iff.1 h).1]; exact h
 have hfam : ∀ (b c : Nat) (o x : AObj) (p q : Place), H[b]? = some o -> (H ++ X)[c]? = some x -> o.alive = true -> x.alive = true -> H.length <= c -> ι b = some p -> ι c = some q -> p.blk = q.blk -> False := by
  intro b c o x p q hb hc ha ha' hk hp hq e
  have hf := (hR.sep b c o x p q (gH b o hb) hc ha ha' hp hq e).1
  rw [List.getElem?_append_right hk] at hc
  exact Z7r hX hc (by rw [<- hf]; exact List.mem_map.2 ⟨o, List.mem_of_getElem? hb, rfl⟩)
 have hR0 : R sn ι0 H W := by
  refine ⟨fun b => ⟨fun hb => ?_, fun ⟨p, hp⟩ => (i0' b p hp).1⟩, fun b p hp => hR.blk b p (i0' b p hp).2, fun b o p ho hal hp => ?_, fun b b' o o' p p' ho ho' ha ha' hp hp' e => hR.sep b b' o o' p p' (gH _ _ ho) (gH _ _ ho') ha ha' (i0' _ _ hp).2 (i0' _ _ hp').2 e, fun a v hv => ?_, fun b o p ho hp e => hR.shz b o p (gH _ _ ho) (i0' _ _ hp).2 e⟩
  · obtain ⟨p, hp⟩ := (hR.dom b).1 (by rw [List.length_append]; omega)
    exact ⟨p, by rw [i0 b hb]; exact hp⟩
  · obtain ⟨hbl, hp⟩ := i0' b p hp
    exact Z8M o.body p (fun x hx q hq => by rw [i0 x (Z1R (Z9l hb ho) x hx)]; exact hq) (hR.obj b o p (gH _ _ ho) hal hp)
  · obtain ⟨h1, h2, h3⟩ := hR.snap a v hv
    exact ⟨h1, h2, fun b o p ho hal hp => h3 b o p (gH _ _ ho) hal (i0' _ _ hp).2⟩
 have hl0 : LR sn ι0 args cargs := LR_refs args [] cargs (fun b hb' p hp => by rw [i0 b (Z1R ha b hb')]; exact hp) hargs
 refine (hM sn ι0 W cargs hg hR0 hl0).mono ?_
 rintro e W1 ⟨v, sn1, ι1, rfl, hv, hs⟩
 let ι2 : Z0a := fun b => match ι1 b with | some p => some p | none => ι b
 have a1 : ∀ b p, ι1 b = some p -> ι2 b = some p := fun b p h => by show (match ι1 b with | some p => some p | none => ι b) = some p; rw [h]
 have a2 : ∀ b, H.length <= b -> ι2 b = ι b := fun b h => by
  show (match ι1 b with | some p => some p | none => ι b) = ι b
  cases hq : ι1 b with
  | none => rfl
  | some p => have := (hs.rel.dom b).2 ⟨p, hq⟩; omega
 have a3 : ∀ b p, ι b = some p -> ι2 b = some p := fun b p h => by
  by_cases hb' : b < H.length
  · exact a1 b p (hs.le.ι b p (by rw [i0 b hb']; exact h))
  · rw [a2 b (by omega)]; exact h
 have a4 : ∀ b p, b < H.length -> ι2 b = some p -> ι1 b = some p /\ ι b = some p := fun b p hb' h => by
  obtain ⟨q, hq⟩ := (hR.dom b).1 (by rw [List.length_append]; omega)
  have h1 := hs.le.ι b q (by rw [i0 b hb']; exact hq)
  have h2 := a1 b q h1
  rw [h] at h2; cases h2
  exact ⟨h1, hq⟩
 have hle : Le sn sn1 ι ι2 := ⟨hs.le.sn, a3⟩
 have g1 : ∀ (b : Nat) (o : AObj), (H' ++ X)[b]? = some o -> (b < H.length /\ H'[b]? = some o) \/ (H.length <= b /\ (H ++ X)[b]? = some o) := fun b o h => by
  by_cases hb' : b < H.length
  · rw [List.getElem?_append_left (by omega)] at h; exact .inl ⟨hb', h⟩
  · rw [List.getElem?_append_right (by omega), hl] at h
    exact .inr ⟨by omega, by rw [List.getElem?_append_right (by omega)]; exact h⟩
 have old : ∀ (b : Nat) (o : AObj) (p : Place), (H' ++ X)[b]? = some o -> ι2 b = some p -> ∃ o0, (H ++ X)[b]? = some o0 /\ ι b = some p /\ o.fam = o0.fam /\ o.sh = o0.sh /\ (o.alive = true -> o0.alive = true) := by
  intro b o p ho hp
  rcases g1 b o ho with ⟨h1, h2⟩ | ⟨h1, h2⟩
  · obtain ⟨_, hq⟩ := a4 b p h1 hp
    obtain ⟨o', k1, k2, k3, k4⟩ := hs.evo b _ (List.getElem?_eq_getElem h1)
    rw [h2] at k1; cases k1
    exact ⟨_, gH _ _ (List.getElem?_eq_getElem h1), hq, k2, k3, k4⟩
  · rw [a2 b h1] at hp
    exact ⟨o, h2, hp, rfl, rfl, id⟩
 have same : ∀ (b : Nat) (o : AObj) (p : Place), (H ++ X)[b]? = some o -> o.alive = true -> H.length <= b -> ι b = some p -> W1.heap[p.blk]? = W.heap[p.blk]? := fun b o p ho ha hk hp =>
  hs.frame p.blk (hR.blk b p hp) fun b' o' p' ho' ha' hp' e => hfam b' b o' o p' p ho' ho ha' ha hk (i0' _ _ hp').2 hp e
 refine ⟨v, sn1, ι2, rfl, Z0B ⟨fun _ _ h => h, a1⟩ _ _ hv, ⟨?_, hle, fun b p hp => ?_, fun c hc hno => hs.frame c hc fun b o p ho hal hp => hno b o p (gH _ _ ho) hal (i0' _ _ hp).2, hs.size, hs.os, hs.tape, hs.output, fun a v hv => ?_, fun b o ho => ?_⟩⟩
 · refine ⟨fun b => ?_, fun b p hp => ?_, fun b o p ho hal hp => ?_, fun b b' o o' p p' ho ho' ha ha' hp hp' e => ?_, fun a u hu => ?_, fun b o p ho hp e => ?_⟩
   · have := hR.dom b
     rw [List.length_append, hl, <- List.length_append, this]
     constructor
     · rintro ⟨p, hp⟩; exact ⟨p, a3 b p hp⟩
     · rintro ⟨p, hp⟩
       by_cases hb' : b < H.length
       · exact ⟨p, (a4 b p hb' hp).2⟩
       · exact ⟨p, by rw [<- a2 b (by omega)]; exact hp⟩
   · by_cases hb' : b < H.length
     · exact hs.rel.blk b p (a4 b p hb' hp).1
     · rw [a2 b (by omega)] at hp
       have := hR.blk b p hp; have := hs.size; omega
   · rcases g1 b o ho with ⟨h1, h2⟩ | ⟨h1, h2⟩
     · obtain ⟨hp1, _⟩ := a4 b p h1 hp
       exact Z0C ⟨fun _ _ h => h, a1⟩ rfl (hs.rel.obj b o p h2 hal hp1)
     · rw [a2 b h1] at hp
       exact Z0C hle (same b o p h2 hal h1 hp) (hR.obj b o p h2 hal hp)
   · obtain ⟨o0, k1, k2, k3, k4, k5⟩ := old b o p ho hp
     obtain ⟨o0', k1', k2', k3', k4', k5'⟩ := old b' o' p' ho' hp'
     rw [k3, k3', k4, k4']
     exact hR.sep b b' o0 o0' p p' k1 k1' (k5 ha) (k5' ha') k2 k2' e
   · obtain ⟨h1, h2, h3⟩ := hs.rel.snap a u hu
     refine ⟨h1, h2, fun b o p ho hal hp e => ?_⟩
     rcases g1 b o ho with ⟨k1, k2⟩ | ⟨k1, k2⟩
     · exact h3 b o p k2 hal (a4 b p k1 hp).1 e
     · rw [a2 b k1] at hp
       rcases hs.sfresh a u hu with f1 | f1 | ⟨b0, o0, p0, f1, f2, f3, f4⟩
       · exact (hR.snap a u f1).2.2 b o p k2 hal hp e
       · have := hR.blk b p hp; omega
       · exact hfam b0 b o0 o p0 p f1 k2 f2 hal k1 (i0' _ _ f3).2 hp (f4.trans e.symm)
   · obtain ⟨o0, k1, k2, _, k4, _⟩ := old b o p ho hp
     exact hR.shz b o0 p k1 k2 (by rw [<- k4]; exact e)
 · by_cases hb' : b < H.length
   · exact .inl (a4 b p hb' hp).2
   · rw [a2 b (by omega)] at hp; exact .inl hp
 · rcases hs.sfresh a v hv with f1 | f1 | ⟨b0, o0, p0, f1, f2, f3, f4⟩
   · exact .inl f1
   · exact .inr (.inl f1)
   · exact .inr (.inr ⟨b0, o0, p0, gH _ _ f1, f2, (i0' _ _ f3).2, f4⟩)
 · by_cases hb' : b < H.length
   · rw [List.getElem?_append_left hb'] at ho
     obtain ⟨o', k1, k2, k3, k4⟩ := hs.evo b o ho
     exact ⟨o', by rw [List.getElem?_append_left (by omega)]; exact k1, k2, k3, k4⟩
   · rw [List.getElem?_append_right (by omega)] at ho
     exact ⟨o, by rw [List.getElem?_append_right (by omega), hl]; exact ho, rfl, rfl, id⟩
end Go.Abs
end
